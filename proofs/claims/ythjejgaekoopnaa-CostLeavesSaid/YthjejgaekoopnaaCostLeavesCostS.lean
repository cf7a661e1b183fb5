/- Package cost: what the printed Later comes to: a curve that is moved, with the same costs later. -/
import Derived.Test.YthjejgaekoopnaaCostLeavesCostM
namespace Go.Proofs.Ythjejgaekoopnaa.PCostLeaves
open Go.RowKit Go.Proofs.YthjejgaekoopnaaW.PrintWords Go.Proofs.YthjejgaekoopnaaW.PrintLast Go.Proofs.YthjejgaekoopnaaW.PrintMore Go.Proofs.Ythjejgaekoopnaa.Evs
set_option linter.unusedVariables false
set_option linter.unusedSimpArgs false

def sh (d : Int) (s : S42) : S42 := ⟨s.f0 + d, s.f1⟩
theorem segC_sh (a b : S42) (d t : Int) : segC (sh d a) (sh d b) (t + d) = segC a b t := by
  unfold segC sh
  simp only
  rw [show t + d - (a.f0 + d) = t - a.f0 by omega, show b.f0 + d - (a.f0 + d) = b.f0 - a.f0 by omega]
theorem atFrom_sh (d t : Int) : ∀ (r : List S42) (a : S42), atFrom (sh d a) (r.map (sh d)) (t + d) = atFrom a r t
  | [], a => rfl
  | b :: r, a => by
    simp only [List.map_cons, atFrom]
    have h : (t + d ≤ (sh d b).f0) ↔ (t ≤ b.f0) := by unfold sh; simp only; omega
    by_cases h1 : t ≤ b.f0
    · rw [if_pos h1, if_pos (h.2 h1)]
      exact segC_sh a b d t
    · rw [if_neg h1, if_neg (fun z => h1 (h.1 z))]
      exact atFrom_sh d t r b
theorem atC_sh (l : List S42) (d t : Int) : atC (l.map (sh d)) (t + d) = atC l t := by
  cases l with
  | nil => rfl
  | cons a r =>
    simp only [List.map_cons, atC]
    have h : (t + d ≤ (sh d a).f0) ↔ (t ≤ a.f0) := by unfold sh; simp only; omega
    by_cases h1 : t ≤ a.f0
    · rw [if_pos h1, if_pos (h.2 h1)]
      rfl
    · rw [if_neg h1, if_neg (fun z => h1 (h.1 z))]
      exact atFrom_sh d t r a
theorem chain_sh {d : Int} (h0 : 0 ≤ d) : ∀ (r : List S42) (a : S42), Chain a r → (∀ s ∈ a :: r, s.f0 + d ≤ 1073741824) → Chain (sh d a) (r.map (sh d))
  | [], a, h, hb => by
    have := hb a List.mem_cons_self
    have h : good a := h
    show good (sh d a)
    unfold good sh at *
    simp only
    omega
  | b :: r, a, h, hb => by
    obtain ⟨ha, h1, h2, h3⟩ := h
    have b0 := hb a List.mem_cons_self
    refine ⟨?_, ?_, ?_, chain_sh h0 r b h3 (fun s hs => hb s (List.mem_cons_of_mem _ hs))⟩
    · unfold good sh at *
      simp only
      omega
    · unfold sh; simp only; omega
    · unfold sh; simp only; omega
theorem chain_last : ∀ (r : List S42) (a : S42), Chain a r → ∀ s ∈ a :: r, s.f0 ≤ ((a :: r).getD r.length z42).f0
  | [], a, h, s, hs => by
    rcases List.mem_cons.1 hs with rfl | hs
    · exact Int.le_refl _
    · cases hs
  | b :: r, a, h, s, hs => by
    obtain ⟨ha, h1, h2, h3⟩ := h
    have e : (a :: b :: r).getD (b :: r).length z42 = (b :: r).getD r.length z42 := rfl
    rw [e]
    rcases List.mem_cons.1 hs with rfl | hs
    · have := chain_last r b h3 b List.mem_cons_self
      omega
    · exact chain_last r b h3 s hs
/-- The last time of a curve. -/
def lastT (l : List S42) : Int := (l.getD (l.length - 1) z42).f0
theorem lastT_ge {l : List S42} (h : Valid l) : ∀ s ∈ l, s.f0 ≤ lastT l := by
  cases l with
  | nil => exact h.elim
  | cons a r => exact chain_last r a h.2
theorem lastT_good {l : List S42} (h : Valid l) : 0 ≤ lastT l ∧ lastT l ≤ 1073741824 := by
  cases l with
  | nil => exact h.elim
  | cons a r =>
    have hg : good ((a :: r).getD ((a :: r).length - 1) z42) := chain_all r a h.2 _ (by
      rw [List.getD_eq_getElem?_getD, List.getElem?_eq_getElem (by simp)]
      exact List.getElem_mem _)
    unfold good at hg
    exact ⟨hg.1, hg.2.1⟩
theorem valid_sh {l : List S42} {d : Int} (h : Valid l) (h0 : 0 ≤ d) (h1 : lastT l + d ≤ 1073741824) : Valid (l.map (sh d)) := by
  have hl := lastT_ge h
  cases l with
  | nil => exact h.elim
  | cons a r => exact ⟨by simpa using h.1, chain_sh h0 r a h.2 (fun s hs => by have := hl s hs; omega)⟩
theorem set_mid {α : Type} (l : List α) (f : α → α) (n : Nat) {s : α} {r : List α} (h : l.drop n = s :: r) (hn : n < l.length) : (((l.take n).map f ++ l.drop n).set n (f s)) = (l.take (n + 1)).map f ++ l.drop (n + 1) := by
  have hlen : ((l.take n).map f).length = n := by simp; omega
  have hs : l[n]? = some s := by
    have := congrArg (fun z => z[0]?) h
    simpa using this
  have hr : l.drop (n + 1) = r := by
    have := congrArg List.tail h
    simpa using this
  rw [hr, h, List.set_append_right _ _ (by omega), hlen, Nat.sub_self, List.set_cons_zero, List.take_add_one, hs]
  simp
theorem later_l0 (l : List S42) (d : Int) (hl : l.length ≤ 24) (hb : ∀ s ∈ l, -4611686018427387904 ≤ s.f0 + d ∧ s.f0 + d ≤ 4611686018427387904) : ∀ (r : List S42) (n : Nat), l.drop n = r →
    Ev (fun k => cost_Later.l0 k d ((l.take n).map (sh d) ++ l.drop n) (l.length : Int) (n : Int)) (l.map (sh d), 0) := by
  intro r
  induction r with
  | nil =>
    intro n hd
    have hn := drop_nil hd
    refine Ev.step (fun k => by rw [cost_Later.l0]) ?_
    refine ifn (by omega) ?_
    exact some_ (by rw [hd, List.take_of_length_le hn, List.append_nil])
  | cons s r ih =>
    intro n hd
    obtain ⟨hn, hs, hr⟩ := drop_cons z42 hd
    have hx : ((l.take n).map (sh d) ++ l.drop n).length = l.length := by simp; omega
    have hrd : rd_T42 ((l.take n).map (sh d) ++ l.drop n) (n : Int) = s := by
      show List.getD _ n _ = s
      rw [List.getD_eq_getElem?_getD, List.getElem?_append_right (by simp; omega), hd]
      simp [show n - min n l.length = 0 by omega]
    have hm : s ∈ l := by
      rw [← hs, List.getD_eq_getElem?_getD, List.getElem?_eq_getElem hn]
      exact List.getElem_mem _
    have hbs := hb s hm
    refine Ev.step (fun k => by rw [cost_Later.l0]) ?_
    refine ifp (by omega) ?_
    refine ifp (by omega) ?_
    refine ifp (by rw [hx]; omega) ?_
    rw [hrd, wrap_in (x := s.f0 + d) (by omega) (by omega), wrap_succ (by omega)]
    have e := set_mid l (sh d) n hd hn
    have e2 : (⟨s.f0 + d, s.f1⟩ : S42) = sh d s := rfl
    rw [e2, show ((n : Int)).toNat = n from rfl, e]
    exact ih (n + 1) hr
/-- What Later tells. -/
def LaterOf (l : List S42) (d : Int) : List S42 × Int := if chk l = 0 then (if d < 0 ∨ d > 1073741824 - lastT l then ([], 1) else (l.map (sh d), 0)) else ([], chk l)
theorem Later_ev (l : List S42) (d : Int) : Ev (fun k => cost_Later.f k l d) (LaterOf l d) := by
  unfold cost_Later.f LaterOf
  refine Ev.bind (check_ev l) ?_
  refine ifc (fun h => ?_) (fun h => some_ (by rw [if_neg h]))
  rw [if_pos h]
  have hv := (chk_zero l).1 h
  have hl : 0 < l.length := by cases l with | nil => exact hv.elim | cons a r => simp
  have hl2 : l.length ≤ 24 := by cases l with | nil => exact hv.elim | cons a r => exact hv.1
  have hT := lastT_good hv
  have bad : ∀ c : Bool, c = true → Ev (fun k => cost_Later.j0 k l d c) (([] : List S42), (1 : Int)) := fun c hc => by
    subst hc
    refine Ev.step (fun k => by rw [cost_Later.j0]) ?_
    exact ifp rfl (Ev.now _)
  refine ifc (fun h1 => same (bad true rfl) (by rw [if_pos (Or.inl h1)])) (fun h1 => ?_)
  rw [wrap_pred hl (by omega)]
  refine ifp (by omega) ?_
  refine ifp (by omega) ?_
  have hrd : (rd_T42 l ((l.length - 1 : Nat) : Int)).f0 = lastT l := rfl
  rw [hrd, wrap_in (x := 1073741824 - lastT l) (by omega) (by omega)]
  by_cases h2 : d > 1073741824 - lastT l
  · rw [if_pos (Or.inr h2)]
    exact bad _ (decide_eq_true h2)
  · rw [if_neg (by omega), decide_eq_false h2]
    refine Ev.step (fun k => by rw [cost_Later.j0]) ?_
    refine ifn (by simp) ?_
    have hcl : cost_Step_58.f l = some l := by
      unfold cost_Step_58.f
      simp
      omega
    refine bindc hcl ?_
    have := later_l0 l d hl2 (fun s hs => by have h3 := lastT_ge hv s hs; have hg := valid_all hv s hs; unfold good at hg; omega) l 0 rfl
    simpa using this
end Go.Proofs.Ythjejgaekoopnaa.PCostLeaves
