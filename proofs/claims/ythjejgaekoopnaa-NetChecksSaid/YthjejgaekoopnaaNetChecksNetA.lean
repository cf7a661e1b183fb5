/- Networks in plain words: what net.Check, net.Turn, net.Out, net.In and the reference's like come to. -/
import Derived.Test.YthjejgaekoopnaaPNetChecksx0
import Derived.Test.YthjejgaekoopnaaPNetChecksx1
import Derived.Test.YthjejgaekoopnaaPNetChecksx2
import Derived.Test.YthjejgaekoopnaaPNetChecksx3
import Derived.Test.YthjejgaekoopnaaPNetChecksx4
import Derived.Test.YthjejgaekoopnaaPNetChecksx5
import Derived.Test.YthjejgaekoopnaaPNetChecksx6
import Derived.Test.YthjejgaekoopnaaPNetChecksx7
import Derived.Test.YthjejgaekoopnaaPNetChecksx8
import Derived.Test.YthjejgaekoopnaaPNetChecksx9
import Derived.Test.YthjejgaekoopnaaPNetChecksx10
import Derived.Test.YthjejgaekoopnaaEvs
namespace Go.Proofs.Ythjejgaekoopnaa.PNetChecks
open Go.RowKit Go.Proofs.YthjejgaekoopnaaW.PrintWords Go.Proofs.YthjejgaekoopnaaW.PrintLast Go.Proofs.YthjejgaekoopnaaW.PrintMore Go.Proofs.Ythjejgaekoopnaa.Evs
set_option linter.unusedVariables false
def prP (p : S46) : Int × Int := (p.f0, p.f1)
def prB (p : S66) : Int × Int := (p.f0, p.f1)
theorem take_succ_ {α : Type} (z : α) {l : List α} {n : Nat} {s : α} {r : List α} (h : l.drop n = s :: r) : l.take (n + 1) = l.take n ++ [s] := by
  obtain ⟨hn, hs, _⟩ := drop_cons z h
  rw [List.take_add_one, List.getElem?_eq_getElem hn, ← hs, List.getD_eq_getElem?_getD, List.getElem?_eq_getElem hn]
  rfl
theorem and_beq {a b c d : Int} : ((a == b && c == d) = true) ↔ (a, c) = (b, d) := by simp
theorem idxP_l0 (l : List S46) (hl : l.length < 4611686018427387904) (x y : Int) : ∀ (r : List S46) (n : Nat), l.drop n = r → ∃ v : Int, (0 ≤ v ↔ (x, y) ∈ r.map prP) ∧ Ev (fun k => api_Point_88.l0 k l (l.length : Int) (n : Int) x y) v := by
  intro r
  induction r with
  | nil =>
    intro n hd
    have hn := drop_nil hd
    refine ⟨-1, by simp, Ev.step (fun k => by rw [api_Point_88.l0]) ?_⟩
    exact ifn (by omega) (Ev.now _)
  | cons s r ih =>
    intro n hd
    obtain ⟨hn, hs, hr⟩ := drop_cons z46 hd
    have hrd : rd_T46 l (n : Int) = s := hs
    by_cases he : (x, y) = prP s
    · refine ⟨n, ⟨fun _ => by rw [List.map_cons, he]; exact List.mem_cons_self, fun _ => by omega⟩, Ev.step (fun k => by rw [api_Point_88.l0]) ?_⟩
      refine ifp (by omega) (ifp (by omega) (ifp (by omega) ?_))
      rw [hrd]
      exact ifp (and_beq.2 he) (Ev.now _)
    · obtain ⟨v, hv, hev⟩ := ih (n + 1) hr
      refine ⟨v, ?_, Ev.step (fun k => by rw [api_Point_88.l0]) ?_⟩
      · rw [hv, List.map_cons, List.mem_cons]
        exact ⟨Or.inr, fun h => h.resolve_left he⟩
      · refine ifp (by omega) (ifp (by omega) (ifp (by omega) ?_))
        rw [hrd]
        refine ifn (fun h => he (and_beq.1 h)) ?_
        rw [wrap_succ (by omega)]
        exact hev
theorem contP_ev (l : List S46) (hl : l.length < 4611686018427387904) (x y : Int) : Ev (fun k => api_Point_67.f k l x y) (decide ((x, y) ∈ l.map prP)) := by
  obtain ⟨v, hv, hev⟩ := idxP_l0 l hl x y l 0 rfl
  unfold api_Point_67.f api_Point_88.f
  refine Ev.bind hev (some_ ?_)
  exact decide_eq_decide.mpr hv
theorem idxB_l0 (l : List S66) (hl : l.length < 4611686018427387904) (x y : Int) : ∀ (r : List S66) (n : Nat), l.drop n = r → ∃ v : Int, (0 ≤ v ↔ (x, y) ∈ r.map prB) ∧ Ev (fun k => api_Ban_89.l0 k l (l.length : Int) (n : Int) x y) v := by
  intro r
  induction r with
  | nil =>
    intro n hd
    have hn := drop_nil hd
    refine ⟨-1, by simp, Ev.step (fun k => by rw [api_Ban_89.l0]) ?_⟩
    exact ifn (by omega) (Ev.now _)
  | cons s r ih =>
    intro n hd
    obtain ⟨hn, hs, hr⟩ := drop_cons z66 hd
    have hrd : rd_T66 l (n : Int) = s := hs
    by_cases he : (x, y) = prB s
    · refine ⟨n, ⟨fun _ => by rw [List.map_cons, he]; exact List.mem_cons_self, fun _ => by omega⟩, Ev.step (fun k => by rw [api_Ban_89.l0]) ?_⟩
      refine ifp (by omega) (ifp (by omega) (ifp (by omega) ?_))
      rw [hrd]
      exact ifp (and_beq.2 he) (Ev.now _)
    · obtain ⟨v, hv, hev⟩ := ih (n + 1) hr
      refine ⟨v, ?_, Ev.step (fun k => by rw [api_Ban_89.l0]) ?_⟩
      · rw [hv, List.map_cons, List.mem_cons]
        exact ⟨Or.inr, fun h => h.resolve_left he⟩
      · refine ifp (by omega) (ifp (by omega) (ifp (by omega) ?_))
        rw [hrd]
        refine ifn (fun h => he (and_beq.1 h)) ?_
        rw [wrap_succ (by omega)]
        exact hev
theorem contB_ev (l : List S66) (hl : l.length < 4611686018427387904) (x y : Int) : Ev (fun k => api_Ban_70.f k l x y) (decide ((x, y) ∈ l.map prB)) := by
  obtain ⟨v, hv, hev⟩ := idxB_l0 l hl x y l 0 rfl
  unfold api_Ban_70.f api_Ban_89.f
  refine Ev.bind hev (some_ ?_)
  exact decide_eq_decide.mpr hv
section
variable {N : List S46} {E : List S55} {B : List S66} (hN : N.length ≤ 200) (hE : E.length ≤ 600) (hB : B.length ≤ 600)
theorem ok_eq (x y : Int) : point_Ok.f x y = some (decide (okPt x y)) := by
  have lim : ∀ z : Int, ∃ c, point_limit.f z 1048576 = some c ∧ (z = c ↔ -1048576 ≤ z ∧ z ≤ 1048576) := by
    intro z
    refine ⟨_, rfl, ?_⟩
    unfold mx mn wrap64
    repeat' split
    all_goals omega
  obtain ⟨c, hc, kc⟩ := lim x
  obtain ⟨d, hd, kd⟩ := lim y
  unfold point_Ok.f point_Clamp.f
  rw [hc, hd]
  show some (x == c && y == d) = _
  refine congrArg some (Bool.eq_iff_iff.mpr ?_)
  rw [Bool.and_eq_true, beq_iff_eq, beq_iff_eq, kc, kd, decide_eq_true_iff]
  exact and_assoc
include hB in
theorem chkB (hall : True) : ∀ (r : List S66) (n : Nat), B.drop n = r → Ev (fun k => net_Check.l2 k B (B.length : Int) (n : Int) N E B) (nfBans E ((B.take n).map prB) r) := by
  intro r
  induction r with
  | nil =>
    intro n hd
    have hn := drop_nil hd
    refine Ev.step (fun k => by rw [net_Check.l2]) ?_
    exact ifn (by omega) (some_ rfl)
  | cons s r ih =>
    intro n hd
    obtain ⟨hn, hs, hr⟩ := drop_cons z66 hd
    have hrd : rd_T66 B (n : Int) = s := hs
    refine Ev.step (fun k => by rw [net_Check.l2]) ?_
    refine ifp (by omega) (ifp (by omega) (ifp (by omega) ?_))
    rw [hrd]
    have edge : ∀ z : Int, net_edge.f N E B z = some (decide (inr z E.length)) := by
      intro z
      unfold net_edge.f
      by_cases h : z ≥ 0
      · rw [if_pos h]; exact congrArg some (decide_eq_decide.mpr ⟨fun k => ⟨h, k⟩, fun k => k.2⟩)
      · rw [if_neg h]; exact congrArg some (decide_eq_false (fun k => h k.1)).symm
    have bad : ∀ z : Bool, z = true → (¬ inr s.f0 E.length ∨ ¬ inr s.f1 E.length) → Ev (fun k => net_Check.j5 k (n : Int) B (B.length : Int) (n : Int) z N E B s.f0 s.f1) (nfBans E ((B.take n).map prB) (s :: r)) := by
      intro z hz h
      refine Ev.step (fun k => by rw [net_Check.j5]) ?_
      refine ifp hz (some_ ?_)
      simp only [nfBans, if_pos h]
    refine bindc (edge _) ?_
    by_cases h0 : inr s.f0 E.length
    · refine ifp (by simp [h0]) ?_
      refine bindc (edge _) ?_
      by_cases h1 : inr s.f1 E.length
      · refine Ev.step (fun k => by rw [net_Check.j5]) ?_
        refine ifn (by simp [h1]) ?_
        refine ifp h0.1 (ifp h0.2 (ifp h1.1 (ifp h1.2 ?_)))
        have hv : ¬ (¬ inr s.f0 E.length ∨ ¬ inr s.f1 E.length) := by intro h; rcases h with h | h; exact h h0; exact h h1
        by_cases hu : (rd_T55 E s.f0).f1 = (rd_T55 E s.f1).f0
        · refine ifp hu (ifp (by omega) (ifp (by omega) ?_))
          refine Ev.bind (contB_ev _ (by simp; omega) _ _) ?_
          simp only [Int.toNat_natCast]
          by_cases hm : (s.f0, s.f1) ∈ (B.take n).map prB
          · refine ifp (by simpa using hm) (some_ ?_)
            simp only [nfBans, if_neg hv, if_neg (not_not_intro hu), if_pos hm]
          · refine ifn (by simpa using hm) ?_
            rw [wrap_succ (by omega)]
            refine same (ih (n + 1) hr) ?_
            simp only [nfBans, if_neg hv, if_neg (not_not_intro hu), if_neg hm]
            rw [take_succ_ z66 hd, List.map_append]
            rfl
        · refine ifn hu (some_ ?_)
          simp only [nfBans, if_neg hv, if_pos hu]
      · exact bad _ (by simp [h1]) (Or.inr h1)
    · refine ifn (by simp [h0]) ?_
      exact bad _ rfl (Or.inl h0)
include hE hB in
theorem chkE (hall : True) : ∀ (r : List S55) (n : Nat), E.drop n = r → Ev (fun k => net_Check.l1 k E (E.length : Int) (n : Int) N E B) (if nfEdges N.length r ≠ 0 then nfEdges N.length r else nfBans E [] B) := by
  intro r
  induction r with
  | nil =>
    intro n hd
    have hn := drop_nil hd
    refine Ev.step (fun k => by rw [net_Check.l1]) ?_
    refine ifn (by omega) ?_
    refine same (chkB hB trivial B 0 rfl) ?_
    rfl
  | cons s r ih =>
    intro n hd
    obtain ⟨hn, hs, hr⟩ := drop_cons z55 hd
    have hrd : rd_T55 E (n : Int) = s := hs
    refine Ev.step (fun k => by rw [net_Check.l1]) ?_
    refine ifp (by omega) (ifp (by omega) (ifp (by omega) ?_))
    rw [hrd]
    have node : ∀ z : Int, net_node.f N E B z = some (decide (inr z N.length)) := by
      intro z
      unfold net_node.f
      by_cases h : z ≥ 0
      · rw [if_pos h]; exact congrArg some (decide_eq_decide.mpr ⟨fun k => ⟨h, k⟩, fun k => k.2⟩)
      · rw [if_neg h]; exact congrArg some (decide_eq_false (fun k => h k.1)).symm
    have j3 : ∀ z : Bool, (z = true ↔ (¬ inr s.f0 N.length ∨ ¬ inr s.f1 N.length ∨ s.f2 < 0 ∨ 1099511627776 < s.f2)) →
        Ev (fun k => net_Check.j3 k E (E.length : Int) (n : Int) z N E B s.f0 s.f1 s.f2 s.f3) (if nfEdges N.length (s :: r) ≠ 0 then nfEdges N.length (s :: r) else nfBans E [] B) := by
      intro z hz
      refine Ev.step (fun k => by rw [net_Check.j3]) ?_
      by_cases h : ¬ inr s.f0 N.length ∨ ¬ inr s.f1 N.length ∨ s.f2 < 0 ∨ 1099511627776 < s.f2
      · refine ifp (hz.2 h) (some_ ?_)
        have e : nfEdges N.length (s :: r) = 1 := by simp only [nfEdges, if_pos h]
        rw [e]; rfl
      · refine ifn (fun k => h (hz.1 k)) ?_
        by_cases he : s.f0 = s.f1
        · refine ifp he (some_ ?_)
          have e : nfEdges N.length (s :: r) = 11 := by simp only [nfEdges, if_neg h, if_pos he]
          rw [e]; rfl
        · refine ifn he ?_
          rw [wrap_succ (by omega)]
          refine same (ih (n + 1) hr) ?_
          have e : nfEdges N.length (s :: r) = nfEdges N.length r := by simp only [nfEdges, if_neg h, if_neg he]
          rw [e]
    refine bindc (node _) ?_
    by_cases h0 : inr s.f0 N.length
    · refine ifp (by simp [h0]) ?_
      refine bindc (node _) ?_
      by_cases h1 : inr s.f1 N.length
      · refine ifp (by simp [h1]) ?_
        by_cases h2 : s.f2 < 0
        · exact ifp h2 (j3 _ (by simp [h2]))
        · exact ifn h2 (j3 _ (by simp [h0, h1, h2]))
      · exact ifn (by simp [h1]) (j3 _ (by simp [h1]))
    · exact ifn (by simp [h0]) (j3 _ (by simp [h0]))
include hN hE hB in
theorem chkN (hall : True) : ∀ (r : List S46) (n : Nat), N.drop n = r → Ev (fun k => net_Check.l0 k N (N.length : Int) (n : Int) N E B)
    (if nfNodes ((N.take n).map prP) r ≠ 0 then nfNodes ((N.take n).map prP) r else if nfEdges N.length E ≠ 0 then nfEdges N.length E else nfBans E [] B) := by
  intro r
  induction r with
  | nil =>
    intro n hd
    have hn := drop_nil hd
    refine Ev.step (fun k => by rw [net_Check.l0]) ?_
    refine ifn (by omega) ?_
    exact same (chkE hE hB trivial E 0 rfl) rfl
  | cons s r ih =>
    intro n hd
    obtain ⟨hn, hs, hr⟩ := drop_cons z46 hd
    have hrd : rd_T46 N (n : Int) = s := hs
    refine Ev.step (fun k => by rw [net_Check.l0]) ?_
    refine ifp (by omega) (ifp (by omega) (ifp (by omega) ?_))
    rw [hrd]
    refine bindc (ok_eq _ _) ?_
    by_cases h : okPt s.f0 s.f1
    · refine ifp (by simp [h]) (ifp (by omega) ?_)
      refine Ev.bind (contP_ev _ (by simp; omega) _ _) ?_
      simp only [Int.toNat_natCast]
      by_cases hm : (s.f0, s.f1) ∈ (N.take n).map prP
      · refine ifp (by simpa using hm) (some_ ?_)
        have e : nfNodes ((N.take n).map prP) (s :: r) = 5 := by simp only [nfNodes, if_neg (not_not_intro h), if_pos hm]
        rw [e]; rfl
      · refine ifn (by simpa using hm) ?_
        rw [wrap_succ (by omega)]
        refine same (ih (n + 1) hr) ?_
        have e : nfNodes ((N.take n).map prP) (s :: r) = nfNodes ((N.take (n + 1)).map prP) r := by
          simp only [nfNodes, if_neg (not_not_intro h), if_neg hm]
          rw [take_succ_ z46 hd, List.map_append]
          rfl
        rw [e]
    · refine ifn (by simp [h]) (some_ ?_)
      have e : nfNodes ((N.take n).map prP) (s :: r) = 1 := by simp only [nfNodes, if_pos h]
      rw [e]; rfl
end
theorem check_ev (N : List S46) (E : List S55) (B : List S66) : Ev (fun k => net_Check.f k N E B) (netChk N E B) := by
  unfold net_Check.f
  have big : ∀ z : Bool, z = true → (200 < N.length ∨ 600 < E.length ∨ 600 < B.length) → Ev (fun k => net_Check.j0 k z N E B) (netChk N E B) := by
    intro z hz h
    refine Ev.step (fun k => by rw [net_Check.j0]) ?_
    exact ifp hz (some_ (if_pos h).symm)
  refine ifc (fun h => big _ rfl (by omega)) (fun h0 => ?_)
  refine ifc (fun h => big _ rfl (by omega)) (fun h1 => ?_)
  by_cases h2 : 600 < B.length
  · exact big _ (decide_eq_true (by omega)) (Or.inr (Or.inr h2))
  · refine Ev.step (fun k => by rw [net_Check.j0]) ?_
    refine ifn (by simp; omega) ?_
    refine same (chkN (by omega) (by omega) (by omega) trivial N 0 rfl) ?_
    exact (netChk_eq ⟨by omega, by omega, by omega⟩).symm
/-- Whether a turn is allowed. -/
def turnB (E : List S55) (B : List S66) (a b : Int) : Bool := decide (inr a E.length ∧ inr b E.length ∧ (rd_T55 E a).f1 = (rd_T55 E b).f0 ∧ (a, b) ∉ B.map prB)
theorem turn_ev (N : List S46) (E : List S55) (B : List S66) (hB : B.length < 4611686018427387904) (a b : Int) : Ev (fun k => net_Turn.f k N E B a b) (turnB E B a b) := by
  unfold net_Turn.f turnB
  have edge : ∀ z : Int, net_edge.f N E B z = some (decide (inr z E.length)) := by
    intro z
    unfold net_edge.f
    by_cases h : z ≥ 0
    · rw [if_pos h]; exact congrArg some (decide_eq_decide.mpr ⟨fun k => ⟨h, k⟩, fun k => k.2⟩)
    · rw [if_neg h]; exact congrArg some (decide_eq_false (fun k => h k.1)).symm
  refine bindc (edge _) ?_
  by_cases h0 : inr a E.length
  · refine ifp (by simp [h0]) ?_
    refine bindc (edge _) ?_
    by_cases h1 : inr b E.length
    · refine ifp (by simp [h1]) ?_
      refine ifp h0.1 (ifp h0.2 (ifp h1.1 (ifp h1.2 ?_)))
      by_cases hu : (rd_T55 E a).f1 = (rd_T55 E b).f0
      · refine ifp hu ?_
        refine Ev.bind (contB_ev _ hB _ _) (some_ ?_)
        by_cases hm : (a, b) ∈ B.map prB
        · rw [decide_eq_true hm, decide_eq_false (fun k => k.2.2.2 hm)]; rfl
        · rw [decide_eq_false hm, decide_eq_true ⟨h0, h1, hu, hm⟩]; rfl
      · exact ifn hu (some_ (by simp [hu]))
    · exact ifn (by simp [h1]) (some_ (by simp [h1]))
  · exact ifn (by simp [h0]) (some_ (by simp [h0]))
theorem turnOK_l0 (B : List S66) (hB : B.length < 4611686018427387904) (a b : Int) : ∀ (r : List S66) (n : Nat), B.drop n = r → Ev (fun k => terrref4_TurnOK.l0 k a b B (B.length : Int) (n : Int)) (decide ((a, b) ∉ r.map prB)) := by
  intro r
  induction r with
  | nil =>
    intro n hd
    have hn := drop_nil hd
    refine Ev.step (fun k => by rw [terrref4_TurnOK.l0]) ?_
    exact ifn (by omega) (some_ (by simp))
  | cons s r ih =>
    intro n hd
    obtain ⟨hn, hs, hr⟩ := drop_cons z66 hd
    have hrd : rd_T66 B (n : Int) = s := hs
    refine Ev.step (fun k => by rw [terrref4_TurnOK.l0]) ?_
    refine ifp (by omega) (ifp (by omega) (ifp (by omega) ?_))
    rw [hrd]
    have next : prB s ≠ (a, b) → Ev (fun k => terrref4_TurnOK.l0 k a b B (B.length : Int) (wrap64 ((n : Int) + 1))) (decide ((a, b) ∉ (s :: r).map prB)) := by
      intro h
      rw [wrap_succ (by omega)]
      refine same (ih (n + 1) hr) (decide_eq_decide.mpr ?_)
      rw [List.map_cons, List.mem_cons, not_or]
      exact ⟨fun k => ⟨fun e => h e.symm, k⟩, fun k => k.2⟩
    by_cases h0 : s.f0 = a
    · refine ifp h0 ?_
      by_cases h1 : s.f1 = b
      · refine ifp h1 (some_ ?_)
        have : (a, b) ∈ (s :: r).map prB := by rw [List.map_cons, ← h0, ← h1]; exact List.mem_cons_self
        simp only [this, not_true_eq_false, decide_false]
      · exact ifn h1 (next (fun e => h1 (Prod.mk.inj e).2))
    · exact ifn h0 (next (fun e => h0 (Prod.mk.inj e).1))
theorem turnOK_ev (N : List S46) (E : List S55) (B : List S66) (hB : B.length < 4611686018427387904) (a b : Int) : Ev (fun k => terrref4_TurnOK.f k N E B a b) (turnB E B a b) := by
  unfold terrref4_TurnOK.f
  have bad : ∀ z : Bool, z = true → ¬ (inr a E.length ∧ inr b E.length ∧ (rd_T55 E a).f1 = (rd_T55 E b).f0) → Ev (fun k => terrref4_TurnOK.j0 k a b z N E B) (turnB E B a b) := by
    intro z hz h
    refine Ev.step (fun k => by rw [terrref4_TurnOK.j0]) ?_
    refine ifp hz (some_ (Eq.symm ?_))
    exact decide_eq_false (fun k => h ⟨k.1, k.2.1, k.2.2.1⟩)
  refine ifc (fun h => bad _ rfl (fun k => by have := k.1.1; omega)) (fun h0 => ?_)
  refine ifc (fun h => bad _ rfl (fun k => by have := k.2.1.1; omega)) (fun h1 => ?_)
  refine ifc (fun h => bad _ rfl (fun k => by have := k.1.2; omega)) (fun h2 => ?_)
  refine ifc (fun h => bad _ rfl (fun k => by have := k.2.1.2; omega)) (fun h3 => ?_)
  refine ifp (by omega) (ifp (by omega) (ifp (by omega) (ifp (by omega) ?_)))
  by_cases hu : (rd_T55 E a).f1 = (rd_T55 E b).f0
  · refine Ev.step (fun k => by rw [terrref4_TurnOK.j0]) ?_
    refine ifn (by simp [hu]) ?_
    refine same (turnOK_l0 B hB a b B 0 rfl) (decide_eq_decide.mpr ?_)
    exact ⟨fun k => ⟨⟨by omega, by omega⟩, ⟨by omega, by omega⟩, hu, k⟩, fun k => k.2.2.2⟩
  · exact bad _ (by simpa using hu) (fun k => hu k.2.2)
/-- The places of the edges of which f says x. -/
def idxs (f : S55 → Int) (x : Int) : Nat → List S55 → List Int
  | _, [] => []
  | n, e :: r => if f e = x then (n : Int) :: idxs f x (n + 1) r else idxs f x (n + 1) r
theorem idxs_len (f : S55 → Int) (x : Int) : ∀ (r : List S55) (n : Nat), (idxs f x n r).length ≤ r.length
  | [], n => Nat.le_refl _
  | e :: r, n => by
    have := idxs_len f x r (n + 1)
    unfold idxs
    split <;> simp <;> omega
theorem out_l0 (E : List S55) (hE : E.length < 17592186044416) (x : Int) : ∀ (r : List S55) (n : Nat) (acc : List Int), E.drop n = r → acc.length ≤ n → Ev (fun k => net_Out.l0 k x acc E (E.length : Int) (n : Int)) (acc ++ idxs (·.f0) x n r) := by
  intro r
  induction r with
  | nil =>
    intro n acc hd ha
    have hn := drop_nil hd
    refine Ev.step (fun k => by rw [net_Out.l0]) ?_
    exact ifn (by omega) (some_ (by simp [idxs]))
  | cons s r ih =>
    intro n acc hd ha
    obtain ⟨hn, hs, hr⟩ := drop_cons z55 hd
    have hrd : rd_T55 E (n : Int) = s := hs
    refine Ev.step (fun k => by rw [net_Out.l0]) ?_
    refine ifp (by omega) (ifp (by omega) (ifp (by omega) ?_))
    rw [hrd]
    by_cases h : s.f0 = x
    · refine ifp h (ifp (by omega) ?_)
      rw [wrap_succ (by omega)]
      refine same (ih (n + 1) (acc ++ [(n : Int)]) hr (by simp; omega)) ?_
      simp [idxs, h]
    · refine ifn h ?_
      rw [wrap_succ (by omega)]
      refine same (ih (n + 1) acc hr (by omega)) ?_
      simp [idxs, h]
theorem out_ev (N : List S46) (E : List S55) (B : List S66) (hE : E.length < 17592186044416) (x : Int) : Ev (fun k => net_Out.f k N E B x) (idxs (·.f0) x 0 E) := by
  unfold net_Out.f
  exact same (out_l0 E hE x E 0 [] rfl (Nat.le_refl _)) (by simp)
theorem in_l0 (E : List S55) (hE : E.length < 17592186044416) (x : Int) : ∀ (r : List S55) (n : Nat) (acc : List Int), E.drop n = r → acc.length ≤ n → Ev (fun k => net_In.l0 k x acc E (E.length : Int) (n : Int)) (acc ++ idxs (·.f1) x n r) := by
  intro r
  induction r with
  | nil =>
    intro n acc hd ha
    have hn := drop_nil hd
    refine Ev.step (fun k => by rw [net_In.l0]) ?_
    exact ifn (by omega) (some_ (by simp [idxs]))
  | cons s r ih =>
    intro n acc hd ha
    obtain ⟨hn, hs, hr⟩ := drop_cons z55 hd
    have hrd : rd_T55 E (n : Int) = s := hs
    refine Ev.step (fun k => by rw [net_In.l0]) ?_
    refine ifp (by omega) (ifp (by omega) (ifp (by omega) ?_))
    rw [hrd]
    by_cases h : s.f1 = x
    · refine ifp h (ifp (by omega) ?_)
      rw [wrap_succ (by omega)]
      refine same (ih (n + 1) (acc ++ [(n : Int)]) hr (by simp; omega)) ?_
      simp [idxs, h]
    · refine ifn h ?_
      rw [wrap_succ (by omega)]
      refine same (ih (n + 1) acc hr (by omega)) ?_
      simp [idxs, h]
theorem in_ev (N : List S46) (E : List S55) (B : List S66) (hE : E.length < 17592186044416) (x : Int) : Ev (fun k => net_In.f k N E B x) (idxs (·.f1) x 0 E) := by
  unfold net_In.f
  exact same (in_l0 E hE x E 0 [] rfl (Nat.le_refl _)) (by simp)
theorem eqI_l0 (l : List Int) (hl : l.length < 4611686018427387904) : ∀ (r : List Int) (n : Nat), l.drop n = r → Ev (fun k => slices_Equal_int_int.l0 k l l (l.length : Int) (n : Int)) true := by
  intro r
  induction r with
  | nil =>
    intro n hd
    have hn := drop_nil hd
    refine Ev.step (fun k => by rw [slices_Equal_int_int.l0]) ?_
    exact ifn (by omega) (Ev.now _)
  | cons s r ih =>
    intro n hd
    obtain ⟨hn, hs, hr⟩ := drop_cons (0 : Int) hd
    refine Ev.step (fun k => by rw [slices_Equal_int_int.l0]) ?_
    refine ifp (by omega) (ifp (by omega) (ifp (by omega) (ifp (by omega) (ifp rfl ?_))))
    rw [wrap_succ (by omega)]
    exact ih (n + 1) hr
theorem eqI_ev (l : List Int) (hl : l.length < 4611686018427387904) : Ev (fun k => slices_Equal_int_int.f k l l) true := by
  unfold slices_Equal_int_int.f
  exact ifp rfl (eqI_l0 l hl l 0 rfl)
end Go.Proofs.Ythjejgaekoopnaa.PNetChecks
