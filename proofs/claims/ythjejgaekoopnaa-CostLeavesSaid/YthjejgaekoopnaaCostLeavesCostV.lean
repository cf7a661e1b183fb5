/- Package cost: what the printed Leave comes to: the latest time at which one can start to arrive in time. -/
import Derived.Test.YthjejgaekoopnaaCostLeavesCostM
namespace Go.Proofs.Ythjejgaekoopnaa.PCostLeaves
open Go.RowKit Go.Proofs.YthjejgaekoopnaaW.PrintWords Go.Proofs.YthjejgaekoopnaaW.PrintLast Go.Proofs.YthjejgaekoopnaaW.PrintMore Go.Proofs.Ythjejgaekoopnaa.Evs
set_option linter.unusedVariables false
set_option linter.unusedSimpArgs false

/-- t is the latest time from a to b for which one arrives by y. -/
def Latest (c : List S42) (a b y t : Int) : Prop := a ≤ t ∧ t ≤ b ∧ t + atC c t ≤ y ∧ (t = b ∨ y < t + 1 + atC c (t + 1))
theorem leave_l0 {c : List S42} (hv : Valid c) (a b y : Int) (h0 : 0 ≤ a) (hb : b ≤ 1073741824) : ∀ (d : Nat) (low high : Int), high - low ≤ (d : Int) + 1 → a ≤ low → low < high → high ≤ b + 1 → low + atC c low ≤ y → (high = b + 1 ∨ y < high + atC c high) →
    ∃ t, Ev (fun k => cost_Leave.l0 k c y low high) (t, 0) ∧ Latest c a b y t := by
  intro d
  induction d with
  | zero =>
    intro low high hd h1 h2 h3 h4 h5
    have e : high = low + 1 := by omega
    subst e
    refine ⟨low, ?_, h1, by omega, h4, by rcases h5 with h | h; exact Or.inl (by omega); exact Or.inr h⟩
    refine Ev.step (fun k => by rw [cost_Leave.l0]) ?_
    rw [wrap_in (x := low + 1 - low) (by omega) (by omega)]
    exact ifn (by omega) (Ev.now _)
  | succ d ih =>
    intro low high hd h1 h2 h3 h4 h5
    by_cases hs : high - low > 1
    · have hg := atC_good (t := (low + high) / 2) hv
      have m1 : low < (low + high) / 2 := by omega
      have m2 : (low + high) / 2 < high := by omega
      by_cases hle : (low + high) / 2 + atC c ((low + high) / 2) ≤ y
      · obtain ⟨t, ht, hL⟩ := ih ((low + high) / 2) high (by omega) (by omega) m2 h3 hle h5
        refine ⟨t, ?_, hL⟩
        refine Ev.step (fun k => by rw [cost_Leave.l0]) ?_
        rw [wrap_in (x := high - low) (by omega) (by omega)]
        refine ifp hs ?_
        rw [wrap_in (x := low + high) (by omega) (by omega), Int.tdiv_eq_ediv_of_nonneg (a := low + high) (b := 2) (by omega), wrap_in (x := (low + high) / 2) (by omega) (by omega)]
        refine Ev.bind (at_ev hv (by omega)) ?_
        rw [wrap_in (x := (low + high) / 2 + atC c ((low + high) / 2)) (by omega) (by omega)]
        exact ifp hle ht
      · obtain ⟨t, ht, hL⟩ := ih low ((low + high) / 2) (by omega) h1 m1 (by omega) h4 (Or.inr (by omega))
        refine ⟨t, ?_, hL⟩
        refine Ev.step (fun k => by rw [cost_Leave.l0]) ?_
        rw [wrap_in (x := high - low) (by omega) (by omega)]
        refine ifp hs ?_
        rw [wrap_in (x := low + high) (by omega) (by omega), Int.tdiv_eq_ediv_of_nonneg (a := low + high) (b := 2) (by omega), wrap_in (x := (low + high) / 2) (by omega) (by omega)]
        refine Ev.bind (at_ev hv (by omega)) ?_
        rw [wrap_in (x := (low + high) / 2 + atC c ((low + high) / 2)) (by omega) (by omega)]
        exact ifn hle ht
    · have e : high = low + 1 := by omega
      subst e
      refine ⟨low, ?_, h1, by omega, h4, by rcases h5 with h | h; exact Or.inl (by omega); exact Or.inr h⟩
      refine Ev.step (fun k => by rw [cost_Leave.l0]) ?_
      rw [wrap_in (x := low + 1 - low) (by omega) (by omega)]
      exact ifn (by omega) (Ev.now _)
/-- Leave, of a valid curve and times in range. -/
theorem Leave_ok {c : List S42} (hv : Valid c) {a b y : Int} (h0 : 0 ≤ a) (hab : a ≤ b) (hb : b ≤ 1073741824) (hy : a + atC c a ≤ y) : ∃ t, Ev (fun k => cost_Leave.f k c a b y) (t, 0) ∧ Latest c a b y t := by
  have hg := atC_good (t := a) hv
  obtain ⟨t, ht, hL⟩ := leave_l0 hv a b y h0 hb (b - a + 1).toNat a (b + 1) (by omega) (by omega) (by omega) (by omega) hy (Or.inl rfl)
  refine ⟨t, ?_, hL⟩
  unfold cost_Leave.f
  refine Ev.bind (check_ev c) ?_
  refine ifp ((chk_zero c).2 hv) ?_
  refine ifn (by omega) ?_
  refine ifn (by omega) ?_
  refine Ev.step (fun k => by rw [cost_Leave.j0]) ?_
  refine ifn (by simp; omega) ?_
  refine Ev.bind (at_ev hv (by omega)) ?_
  rw [wrap_in (x := a + atC c a) (by omega) (by omega), wrap_in (x := b + 1) (by omega) (by omega)]
  exact ifn (by omega) ht
theorem Leave_far {c : List S42} (hv : Valid c) {a b y : Int} (h0 : 0 ≤ a) (hab : a ≤ b) (hb : b ≤ 1073741824) (hy : y < a + atC c a) : Ev (fun k => cost_Leave.f k c a b y) (0, 17) := by
  have hg := atC_good (t := a) hv
  unfold cost_Leave.f
  refine Ev.bind (check_ev c) ?_
  refine ifp ((chk_zero c).2 hv) ?_
  refine ifn (by omega) ?_
  refine ifn (by omega) ?_
  refine Ev.step (fun k => by rw [cost_Leave.j0]) ?_
  refine ifn (by simp; omega) ?_
  refine Ev.bind (at_ev hv (by omega)) ?_
  rw [wrap_in (x := a + atC c a) (by omega) (by omega)]
  exact ifp (by omega) (Ev.now _)
theorem Leave_bad {c : List S42} {a b y : Int} (hE : chk c ≠ 0) : Ev (fun k => cost_Leave.f k c a b y) (0, chk c) := by
  unfold cost_Leave.f
  refine Ev.bind (check_ev c) ?_
  exact ifn hE (Ev.now _)
theorem Leave_arg {c : List S42} (hv : Valid c) {a b y : Int} (h : a < 0 ∨ b < a ∨ 1073741824 < b) : Ev (fun k => cost_Leave.f k c a b y) (0, 1) := by
  have bad : ∀ z : Bool, z = true → Ev (fun k => cost_Leave.j0 k c a b y z) ((0 : Int), (1 : Int)) := fun z hz => by
    subst hz
    refine Ev.step (fun k => by rw [cost_Leave.j0]) ?_
    exact ifp rfl (Ev.now _)
  unfold cost_Leave.f
  refine Ev.bind (check_ev c) ?_
  refine ifp ((chk_zero c).2 hv) ?_
  refine ifc (fun _ => bad _ rfl) (fun h1 => ?_)
  refine ifc (fun _ => bad _ rfl) (fun h2 => ?_)
  exact bad _ (decide_eq_true (by omega))
end Go.Proofs.Ythjejgaekoopnaa.PCostLeaves
