/- Package cost: what the printed functions Check, at, At, Arrive, Range, Const come to, in plain words about curves. -/
import Derived.Test.YthjejgaekoopnaaEvs
import Derived.Test.YthjejgaekoopnaaPCostLeavesx0
import Derived.Test.YthjejgaekoopnaaPCostLeavesx1
import Derived.Test.YthjejgaekoopnaaPCostLeavesx2
import Derived.Test.YthjejgaekoopnaaPCostLeavesx3
import Derived.Test.YthjejgaekoopnaaPCostLeavesx4
import Derived.Test.YthjejgaekoopnaaPCostLeavesx5
import Derived.Test.YthjejgaekoopnaaPCostLeavesx6
import Derived.Test.YthjejgaekoopnaaPCostLeavesx7
namespace Go.Proofs.Ythjejgaekoopnaa.PCostLeaves
open Go.RowKit Go.Proofs.YthjejgaekoopnaaW.PrintWords Go.Proofs.YthjejgaekoopnaaW.PrintLast Go.Proofs.YthjejgaekoopnaaW.PrintMore Go.Proofs.Ythjejgaekoopnaa.Evs
set_option linter.unusedVariables false
set_option linter.unusedSimpArgs false

/-- A step within the bounds. -/
abbrev good (s : S42) : Prop := 0 ≤ s.f0 ∧ s.f0 ≤ 1073741824 ∧ 0 ≤ s.f1 ∧ s.f1 ≤ 1073741824
def chkFrom : Option S42 → List S42 → Int
  | _, [] => 0
  | none, s :: r => if good s then chkFrom (some s) r else 1
  | some q, s :: r => if good s then (if q.f0 ≥ s.f0 then 9 else if q.f0 + q.f1 > s.f0 + s.f1 then 19 else chkFrom (some s) r) else 1
def chk (l : List S42) : Int := if l.length > 24 then 2 else if l.length = 0 then 14 else chkFrom none l
def Prev (l : List S42) (n : Nat) : Option S42 → Prop
  | none => n = 0
  | some q => 0 < n ∧ n ≤ l.length ∧ rd_T42 l ((n - 1 : Nat) : Int) = q ∧ good q

theorem check_l0 (l : List S42) (hl : l.length ≤ 24) : ∀ (r : List S42) (n : Nat) (p : Option S42), l.drop n = r → Prev l n p →
    Ev (fun k => cost_Check.l0 k l l (l.length : Int) (n : Int)) (chkFrom p r) := by
  intro r
  induction r with
  | nil =>
    intro n p hd hp
    have hn : l.length ≤ n := drop_nil hd
    refine Ev.step (fun k => by rw [cost_Check.l0]) ?_
    refine ifn (by omega) ?_
    exact some_ (by cases p <;> rfl)
  | cons s r ih =>
    intro n p hd hp
    obtain ⟨hn, hs, hr⟩ := drop_cons z42 hd
    have hrd : rd_T42 l (n : Int) = s := hs
    refine Ev.step (fun k => by rw [cost_Check.l0]) ?_
    refine ifp (by omega) ?_
    refine ifp (by omega) ?_
    refine ifp (by omega) ?_
    rw [hrd]
    have bad : ¬ good s → Ev (fun k => some (1 : Int)) (chkFrom p (s :: r)) := fun h => some_ (by cases p <;> simp only [chkFrom, if_neg h])
    refine ifc (fun h => ?_) (fun h1 => ?_)
    · refine Ev.step (fun k => by rw [cost_Check.j1]) ?_
      exact ifp rfl (bad (by unfold good; omega))
    refine ifc (fun h => ?_) (fun h2 => ?_)
    · refine Ev.step (fun k => by rw [cost_Check.j1]) ?_
      exact ifp rfl (bad (by unfold good; omega))
    refine ifc (fun h => ?_) (fun h3 => ?_)
    · refine Ev.step (fun k => by rw [cost_Check.j1]) ?_
      exact ifp rfl (bad (by unfold good; omega))
    refine Ev.step (fun k => by rw [cost_Check.j1]) ?_
    refine ifc (fun h => ?_) (fun h4 => ?_)
    · exact bad (by have := of_decide_eq_true h; unfold good; omega)
    have h4' : ¬ s.f1 > 1073741824 := by simpa using h4
    have hg : good s := by unfold good; omega
    have hgo : Prev l (n + 1) (some s) := ⟨by omega, by omega, by rw [Nat.add_sub_cancel]; exact hrd, hg⟩
    cases p with
    | none =>
      have hn0 : n = 0 := hp
      subst hn0
      refine ifn (by omega) ?_
      refine Ev.step (fun k => by rw [cost_Check.j2]) ?_
      refine ifn (by simp) ?_
      refine ifn (by omega) ?_
      rw [wrap_succ (by omega)]
      exact same (ih 1 (some s) hr hgo) (by simp only [chkFrom, if_pos hg])
    | some q =>
      obtain ⟨hn0, hnl, hq, hgq⟩ := hp
      have hgq' := hgq
      unfold good at hgq' hg
      refine ifp (by omega) ?_
      rw [wrap_pred hn0 (by omega)]
      refine ifp (by omega) ?_
      refine ifp (by omega) ?_
      rw [hq]
      refine Ev.step (fun k => by rw [cost_Check.j2]) ?_
      refine ifc (fun h => ?_) (fun h5 => ?_)
      · have h5 := of_decide_eq_true h
        exact some_ (by simp only [chkFrom]; rw [if_pos hg, if_pos h5])
      have h5' : ¬ q.f0 ≥ s.f0 := by simpa using h5
      refine ifp (by omega) ?_
      rw [wrap_pred hn0 (by omega)]
      refine ifp (by omega) ?_
      refine ifp (by omega) ?_
      rw [hq, wrap_in (by omega) (by omega), wrap_in (by omega) (by omega)]
      refine ifc (fun h => ?_) (fun h6 => ?_)
      · exact some_ (by simp only [chkFrom]; rw [if_pos hg, if_neg h5', if_pos h])
      rw [wrap_succ (by omega)]
      exact same (ih (n + 1) (some s) hr hgo) (by simp only [chkFrom]; rw [if_pos hg, if_neg h5', if_neg h6])

theorem check_ev (l : List S42) : Ev (fun k => cost_Check.f k l) (chk l) := by
  unfold cost_Check.f chk
  refine ifc (fun h => ?_) (fun h1 => ?_)
  · exact some_ (by rw [if_pos (by omega)])
  refine ifc (fun h => ?_) (fun h2 => ?_)
  · exact some_ (by rw [if_neg (by omega), if_pos (by omega)])
  exact same (check_l0 l (by omega) l 0 none rfl rfl) (by rw [if_neg (by omega), if_neg (by omega)])

/-- A valid curve: from a step on. -/
def Chain : S42 → List S42 → Prop
  | a, [] => good a
  | a, b :: r => good a ∧ a.f0 < b.f0 ∧ a.f0 + a.f1 ≤ b.f0 + b.f1 ∧ Chain b r
def Valid : List S42 → Prop
  | [] => False
  | a :: r => (a :: r).length ≤ 24 ∧ Chain a r
theorem chain_good {a : S42} {r : List S42} (h : Chain a r) : good a := by
  cases r with
  | nil => exact h
  | cons b r => exact h.1
theorem chkFrom_zero : ∀ (r : List S42) (q : S42), good q → (chkFrom (some q) r = 0 ↔ Chain q r)
  | [], q, hq => ⟨fun _ => hq, fun _ => rfl⟩
  | s :: r, q, hq => by
    have ih := chkFrom_zero r s
    simp only [chkFrom, Chain]
    by_cases h1 : good s
    · rw [if_pos h1]
      by_cases h2 : q.f0 ≥ s.f0
      · rw [if_pos h2]
        exact ⟨fun h => by omega, fun h => by omega⟩
      · rw [if_neg h2]
        by_cases h3 : q.f0 + q.f1 > s.f0 + s.f1
        · rw [if_pos h3]
          exact ⟨fun h => by omega, fun h => by omega⟩
        · rw [if_neg h3]
          exact ⟨fun h => ⟨hq, by omega, by omega, (ih h1).1 h⟩, fun h => (ih h1).2 h.2.2.2⟩
    · rw [if_neg h1]
      exact ⟨fun h => by omega, fun h => absurd (chain_good h.2.2.2) h1⟩
theorem chk_zero (l : List S42) : chk l = 0 ↔ Valid l := by
  unfold chk
  cases l with
  | nil => simp [Valid]
  | cons a r =>
    simp only [Valid]
    by_cases h : (a :: r).length > 24
    · rw [if_pos h]
      exact ⟨fun h => by omega, fun h => by omega⟩
    rw [if_neg h, if_neg (by simp)]
    simp only [chkFrom]
    by_cases h1 : good a
    · rw [if_pos h1]
      exact ⟨fun hh => ⟨by omega, (chkFrom_zero r a h1).1 hh⟩, fun hh => (chkFrom_zero r a h1).2 hh.2⟩
    · rw [if_neg h1]
      exact ⟨fun h => by omega, fun h => absurd (chain_good h.2) h1⟩

/-- The cost between two steps. -/
def segC (a b : S42) (t : Int) : Int := a.f1 + (b.f1 - a.f1) * (t - a.f0) / (b.f0 - a.f0)
def atFrom : S42 → List S42 → Int → Int
  | a, [], _ => a.f1
  | a, b :: r, t => if t ≤ b.f0 then segC a b t else atFrom b r t
def atC : List S42 → Int → Int
  | [], _ => 0
  | a :: r, t => if t ≤ a.f0 then a.f1 else atFrom a r t

theorem mul_bound {x y : Int} (h1 : -1073741824 ≤ x) (h2 : x ≤ 1073741824) (h3 : 0 ≤ y) (h4 : y ≤ 1073741824) : -1152921504606846976 ≤ x * y ∧ x * y ≤ 1152921504606846976 := by
  have a1 : x * y ≤ 1073741824 * y := Int.mul_le_mul_of_nonneg_right h2 h3
  have a2 : -1073741824 * y ≤ x * y := Int.mul_le_mul_of_nonneg_right h1 h3
  omega
theorem down_eq (a b : Int) (hb : 0 < b) (h1 : -9223372036854775807 ≤ a) (h2 : a ≤ 9223372036854775807) : cost_down.f a b = some (a / b) := by
  unfold cost_down.f
  rw [if_neg (by omega)]
  have e := Int.mul_tdiv_add_tmod a b
  have l1 := Int.tmod_lt_of_pos a hb
  have l2 := Int.lt_tmod_of_pos a hb
  have q1 : -9223372036854775807 ≤ a.tdiv b ∧ a.tdiv b ≤ 9223372036854775807 := by
    have hn := Int.natAbs_tdiv a b
    have hle : (a.tdiv b).natAbs ≤ a.natAbs := by rw [hn]; exact Nat.div_le_self _ _
    omega
  rw [wrap_in (x := a.tdiv b) (by omega) (by omega)]
  by_cases hm : a.tmod b < 0
  · rw [if_pos hm, wrap_in (x := a.tdiv b - 1) (by omega) (by omega)]
    congr 1
    have e2 : a = (a.tmod b + b) + b * (a.tdiv b - 1) := by rw [Int.mul_sub]; omega
    conv => rhs; rw [e2]
    rw [Int.add_mul_ediv_left _ _ (by omega), Int.ediv_eq_zero_of_lt (by omega) (by omega)]
    omega
  · rw [if_neg hm]
    congr 1
    have e2 : a = a.tmod b + b * a.tdiv b := by omega
    conv => rhs; rw [e2]
    rw [Int.add_mul_ediv_left _ _ (by omega), Int.ediv_eq_zero_of_lt (by omega) (by omega)]
    omega

/-- Between two steps the cost lies between theirs. -/
theorem segC_range {a b : S42} {t : Int} (hd : a.f0 < b.f0) (h0 : a.f0 ≤ t) (h1 : t ≤ b.f0) :
    (a.f1 ≤ b.f1 → a.f1 ≤ segC a b t ∧ segC a b t ≤ b.f1) ∧ (b.f1 ≤ a.f1 → b.f1 ≤ segC a b t ∧ segC a b t ≤ a.f1) := by
  unfold segC
  have hp : 0 < b.f0 - a.f0 := by omega
  refine ⟨fun h => ?_, fun h => ?_⟩
  · have l1 : 0 ≤ (b.f1 - a.f1) * (t - a.f0) := Int.mul_nonneg (by omega) (by omega)
    have l2 : (b.f1 - a.f1) * (t - a.f0) ≤ (b.f1 - a.f1) * (b.f0 - a.f0) := Int.mul_le_mul_of_nonneg_left (by omega) (by omega)
    have l3 : 0 ≤ (b.f1 - a.f1) * (t - a.f0) / (b.f0 - a.f0) := Int.ediv_nonneg l1 (by omega)
    have l4 : (b.f1 - a.f1) * (t - a.f0) / (b.f0 - a.f0) ≤ b.f1 - a.f1 := Int.ediv_le_of_le_mul hp (by omega)
    omega
  · have l1 : (b.f1 - a.f1) * (t - a.f0) ≤ 0 := Int.mul_nonpos_of_nonpos_of_nonneg (by omega) (by omega)
    have l2 : (b.f1 - a.f1) * (b.f0 - a.f0) ≤ (b.f1 - a.f1) * (t - a.f0) := Int.mul_le_mul_of_nonpos_left (by omega) (by omega)
    have l3 : (b.f1 - a.f1) * (t - a.f0) / (b.f0 - a.f0) ≤ 0 := by
      have := Int.ediv_le_ediv hp l1
      simpa using this
    have l4 : b.f1 - a.f1 ≤ (b.f1 - a.f1) * (t - a.f0) / (b.f0 - a.f0) := Int.le_ediv_of_mul_le hp l2
    omega
theorem segC_good {a b : S42} {t : Int} (ha : good a) (hb : good b) (hd : a.f0 < b.f0) (h0 : a.f0 ≤ t) (h1 : t ≤ b.f0) : 0 ≤ segC a b t ∧ segC a b t ≤ 1073741824 := by
  obtain ⟨r1, r2⟩ := segC_range hd h0 h1
  unfold good at ha hb
  rcases Int.le_total a.f1 b.f1 with h | h
  · have := r1 h; omega
  · have := r2 h; omega
theorem atFrom_good : ∀ (r : List S42) (a : S42) (t : Int), Chain a r → a.f0 ≤ t → 0 ≤ atFrom a r t ∧ atFrom a r t ≤ 1073741824
  | [], a, t, h, _ => by have := chain_good h; unfold good at this; simp only [atFrom]; omega
  | b :: r, a, t, h, h0 => by
    obtain ⟨ha, hd, hs, hc⟩ := h
    simp only [atFrom]
    by_cases h1 : t ≤ b.f0
    · rw [if_pos h1]
      exact segC_good ha (chain_good hc) hd h0 h1
    · rw [if_neg h1]
      exact atFrom_good r b t hc (by omega)
theorem atC_good {l : List S42} {t : Int} (h : Valid l) : 0 ≤ atC l t ∧ atC l t ≤ 1073741824 := by
  cases l with
  | nil => exact h.elim
  | cons a r =>
    simp only [atC]
    by_cases h1 : t ≤ a.f0
    · rw [if_pos h1]
      have := chain_good h.2
      unfold good at this
      omega
    · rw [if_neg h1]
      exact atFrom_good r a t h.2 (by omega)

theorem at_l0 (l : List S42) (t : Int) (hl : l.length ≤ 24) (ht : t ≤ 1073741824) : ∀ (r : List S42) (n : Nat) (a : S42), l.drop n = r → 0 < n → n ≤ l.length → rd_T42 l ((n - 1 : Nat) : Int) = a → Chain a r → a.f0 < t →
    Ev (fun k => cost_at.l0 k l t (n : Int)) (atFrom a r t) := by
  intro r
  induction r with
  | nil =>
    intro n a hd h0 hnl ha hc h1
    have hn : l.length ≤ n := drop_nil hd
    have hnn : n = l.length := by omega
    refine Ev.step (fun k => by rw [cost_at.l0]) ?_
    refine ifn (by omega) ?_
    rw [show (l.length : Int) = (n : Int) by omega, wrap_pred h0 (by omega)]
    refine ifp (by omega) ?_
    refine ifp (by omega) ?_
    rw [ha]
    exact Ev.now _
  | cons s r ih =>
    intro n a hd h0 hnl ha hc h1
    obtain ⟨hn, hs, hr⟩ := drop_cons z42 hd
    have hrd : rd_T42 l (n : Int) = s := hs
    obtain ⟨hga, hds, hss, hcs⟩ := hc
    have hgs := chain_good hcs
    have ga := hga
    have gs := hgs
    unfold good at ga gs
    refine Ev.step (fun k => by rw [cost_at.l0]) ?_
    refine ifp (by omega) ?_
    rw [wrap_pred h0 (by omega)]
    refine ifp (by omega) ?_
    refine ifp (by omega) ?_
    refine ifp (by omega) ?_
    rw [hrd, ha]
    simp only [atFrom]
    refine ifc (fun h => ?_) (fun h => ?_)
    · rw [if_pos h]
      have hb := mul_bound (x := s.f1 - a.f1) (y := t - a.f0) (by omega) (by omega) (by omega) (by omega)
      have hsg := segC_good hga hgs hds (by omega) h
      unfold segC at hsg
      refine fixed ?_
      rw [wrap_in (x := s.f1 - a.f1) (by omega) (by omega), wrap_in (x := t - a.f0) (by omega) (by omega), wrap_in (x := (s.f1 - a.f1) * (t - a.f0)) (by omega) (by omega), wrap_in (x := s.f0 - a.f0) (by omega) (by omega), down_eq _ _ (by omega) (by omega) (by omega)]
      simp only [Option.bind_some]
      rw [wrap_in (by omega) (by omega)]
      rfl
    · rw [if_neg h, wrap_succ (by omega)]
      exact ih (n + 1) s hr (by omega) (by omega) (by rw [Nat.add_sub_cancel]; exact hrd) hcs (by omega)
theorem at_ev {l : List S42} {t : Int} (h : Valid l) (ht : t ≤ 1073741824) : Ev (fun k => cost_at.f k l t) (atC l t) := by
  cases l with
  | nil => exact h.elim
  | cons a r =>
    unfold cost_at.f
    refine ifp (by first | (simp; done) | (simp; omega)) ?_
    have hrd : rd_T42 (a :: r) 0 = a := rfl
    rw [hrd]
    simp only [atC]
    refine ifc (fun h1 => ?_) (fun h1 => ?_)
    · exact some_ (by rw [if_pos h1])
    · rw [if_neg h1]
      exact at_l0 (a :: r) t h.1 ht r 1 a rfl (by omega) (by simp) rfl h.2 (by omega)
/-- What At tells. -/
def AtOf (l : List S42) (t : Int) : Int × Int := if chk l = 0 then (if t < 0 ∨ t > 1073741824 then (0, 1) else (atC l t, 0)) else (0, chk l)
theorem At_ev (l : List S42) (t : Int) : Ev (fun k => cost_At.f k l t) (AtOf l t) := by
  unfold cost_At.f AtOf
  refine Ev.bind (check_ev l) ?_
  refine ifc (fun h => ?_) (fun h => ?_)
  · rw [if_pos h]
    refine ifc (fun h1 => ?_) (fun h1 => ?_)
    · exact some_ (by rw [if_pos (Or.inl h1)])
    refine ifc (fun h2 => ?_) (fun h2 => ?_)
    · exact some_ (by rw [if_pos (Or.inr h2)])
    rw [if_neg (by omega)]
    exact Ev.bind (at_ev ((chk_zero l).1 h) (by omega)) (Ev.now _)
  · exact some_ (by rw [if_neg h])
theorem AtOf_ok {l : List S42} {t : Int} (h : (AtOf l t).2 = 0) : Valid l ∧ 0 ≤ t ∧ t ≤ 1073741824 ∧ AtOf l t = (atC l t, 0) := by
  unfold AtOf at h ⊢
  by_cases h1 : chk l = 0
  · rw [if_pos h1] at h ⊢
    by_cases h2 : t < 0 ∨ t > 1073741824
    · rw [if_pos h2] at h
      simp at h
    · rw [if_neg h2]
      exact ⟨(chk_zero l).1 h1, by omega, by omega, rfl⟩
  · rw [if_neg h1] at h
    exact absurd h h1
theorem AtOf_valid {l : List S42} {t : Int} (h : Valid l) (h0 : 0 ≤ t) (h1 : t ≤ 1073741824) : AtOf l t = (atC l t, 0) := by
  unfold AtOf
  rw [if_pos ((chk_zero l).2 h), if_neg (by omega)]
def ArriveOf (l : List S42) (t : Int) : Int × Int := if (AtOf l t).2 = 0 then (t + (AtOf l t).1, 0) else (0, (AtOf l t).2)
theorem Arrive_ev (l : List S42) (t : Int) : Ev (fun k => cost_Arrive.f k l t) (ArriveOf l t) := by
  unfold cost_Arrive.f ArriveOf
  refine Ev.bind (At_ev l t) ?_
  refine ifc (fun h => ?_) (fun h => ?_)
  · rw [if_pos h]
    obtain ⟨hv, h0, h1, e⟩ := AtOf_ok h
    have := atC_good (t := t) hv
    rw [e]
    exact some_ (by rw [wrap_in (by simp only; omega) (by simp only; omega)])
  · exact some_ (by rw [if_neg h])
theorem ArriveOf_valid {l : List S42} {t : Int} (h : Valid l) (h0 : 0 ≤ t) (h1 : t ≤ 1073741824) : ArriveOf l t = (t + atC l t, 0) := by
  unfold ArriveOf
  rw [AtOf_valid h h0 h1]
  rfl
end Go.Proofs.Ythjejgaekoopnaa.PCostLeaves
