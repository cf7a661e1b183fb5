/- The law CostLeave in plain words: one who starts at the time that Leave returns arrives in time, one who starts later does not, for all raw numbers. No condition. -/
import Derived.Test.YthjejgaekoopnaaCostLeaveCostV
import Derived.Test.YthjejgaekoopnaaCostLeaveCurveA
namespace Go.Proofs.Ythjejgaekoopnaa.Pure
open Go.RowKit Go.Proofs.Ythjejgaekoopnaa.PCostLeave Go.Proofs.YthjejgaekoopnaaW.PrintWords Go.Proofs.YthjejgaekoopnaaW.PrintLast Go.Proofs.YthjejgaekoopnaaW.PrintMore Go.Proofs.Ythjejgaekoopnaa.Evs
theorem costed_ev : Ev (fun k => terrkeep4_costed.f k) true := by
  unfold terrkeep4_costed.f
  exact Ev.bind (At_ev _ 9) (same (ifp (by decide) (Ev.now _)) (by decide))
theorem CostLeave : terrkeep4_CostLeave.Pure := by
  intro l a1 a2 a3 _ _ _ _ _ _
  obtain ⟨c, hc, hv, hs⟩ := curve_tells l
  have b1 : 0 ≤ a1 % 100 := Int.emod_nonneg _ (by omega)
  have b2 : a1 % 100 < 100 := Int.emod_lt_of_pos _ (by omega)
  have b3 : 0 ≤ a2 % 100 := Int.emod_nonneg _ (by omega)
  have b4 : a2 % 100 < 100 := Int.emod_lt_of_pos _ (by omega)
  have b5 : 0 ≤ a3 % 250 := Int.emod_nonneg _ (by omega)
  have b6 : a3 % 250 < 250 := Int.emod_lt_of_pos _ (by omega)
  refine Ev.rounds (?_ : Ev (fun k => terrkeep4_CostLeave.f k l a1 a2 a3) true)
  unfold terrkeep4_CostLeave.f
  refine Ev.bind hc ?_
  refine bindc (below_eq _ _ (by omega) (by omega)) ?_
  refine bindc (below_eq _ _ (by omega) (by omega)) ?_
  refine bindc (below_eq _ _ (by omega) (by omega)) ?_
  rw [wrap_in (x := a1 % 100 + a2 % 100) (by omega) (by omega)]
  by_cases hy : a1 % 100 + atC c (a1 % 100) ≤ a3 % 250
  · obtain ⟨t, ht, l1, l2, l3, l4⟩ := Leave_ok hv (a := a1 % 100) (b := a1 % 100 + a2 % 100) (y := a3 % 250) b1 (by omega) (by omega) hy
    refine Ev.bind ht ?_
    refine Ev.bind (same (Arrive_ev c _) (ArriveOf_valid hv b1 (by omega))) ?_
    refine Ev.bind costed_ev ?_
    refine ifp rfl ?_
    refine Ev.step (fun k => by rw [terrkeep4_CostLeave.j0]) ?_
    refine ifn (by simp) ?_
    refine ifp rfl ?_
    refine Ev.bind (same (Arrive_ev c _) (ArriveOf_valid hv (by omega) (by omega))) ?_
    rw [wrap_in (x := t + 1) (by omega) (by omega)]
    refine Ev.bind (same (Arrive_ev c _) (ArriveOf_valid hv (by omega) (by omega))) ?_
    refine ifp rfl ?_
    refine ifp rfl ?_
    refine ifp (by omega) ?_
    refine ifp (by omega) ?_
    refine ifp l3 ?_
    refine ifc (fun _ => Ev.now _) (fun h => ?_)
    exact some_ (decide_eq_true (by rcases l4 with h4 | h4; exact absurd h4 h; simp only; omega))
  · refine Ev.bind (Leave_far hv b1 (by omega) (by omega) (by omega)) ?_
    refine Ev.bind (same (Arrive_ev c _) (ArriveOf_valid hv b1 (by omega))) ?_
    refine Ev.bind costed_ev ?_
    refine ifp rfl ?_
    refine Ev.step (fun k => by rw [terrkeep4_CostLeave.j0]) ?_
    refine ifn (by simp) ?_
    refine ifn (by simp) ?_
    refine ifp rfl ?_
    exact some_ (decide_eq_true (by simp only; omega))
end Go.Proofs.Ythjejgaekoopnaa.Pure
