/- The law CostLater in plain words: who starts later does not arrive earlier, and costs are within the range of the curve, for all raw numbers. No condition. -/
import Derived.Test.YthjejgaekoopnaaCostLaterCostR
import Derived.Test.YthjejgaekoopnaaCostLaterCurveA
namespace Go.Proofs.Ythjejgaekoopnaa.Pure
open Go.RowKit Go.Proofs.Ythjejgaekoopnaa.PCostLater Go.Proofs.YthjejgaekoopnaaW.PrintWords Go.Proofs.YthjejgaekoopnaaW.PrintLast Go.Proofs.YthjejgaekoopnaaW.PrintMore Go.Proofs.Ythjejgaekoopnaa.Evs
theorem costed_ev : Ev (fun k => terrkeep4_costed.f k) true := by
  unfold terrkeep4_costed.f
  exact Ev.bind (At_ev _ 9) (same (ifp (by decide) (Ev.now _)) (by decide))
theorem CostLater : terrkeep4_CostLater.Pure := by
  intro l a1 a2 _ _ _ _ _
  obtain ⟨c, hc, hv, hs⟩ := curve_tells l
  have b1 : 0 ≤ a1 % 200 := Int.emod_nonneg _ (by omega)
  have b2 : a1 % 200 < 200 := Int.emod_lt_of_pos _ (by omega)
  have b3 : 0 ≤ a2 % 100 := Int.emod_nonneg _ (by omega)
  have b4 : a2 % 100 < 100 := Int.emod_lt_of_pos _ (by omega)
  refine Ev.rounds (?_ : Ev (fun k => terrkeep4_CostLater.f k l a1 a2) true)
  unfold terrkeep4_CostLater.f
  refine Ev.bind hc ?_
  refine bindc (below_eq _ _ (by omega) (by omega)) ?_
  refine bindc (below_eq _ _ (by omega) (by omega)) ?_
  rw [wrap_in (x := a1 % 200 + a2 % 100) (by omega) (by omega)]
  have g1 := atC_good (t := a1 % 200) hv
  have m1 := atC_mono (t := a1 % 200) (t' := a1 % 200 + a2 % 100) hv (by omega)
  have r1 := atC_range (t := a1 % 200) hv
  refine Ev.bind (same (Arrive_ev c (a1 % 200)) (ArriveOf_valid hv (by omega) (by omega))) ?_
  refine Ev.bind (same (Arrive_ev c (a1 % 200 + a2 % 100)) (ArriveOf_valid hv (by omega) (by omega))) ?_
  refine Ev.bind (Range_ev c) ?_
  refine Ev.bind costed_ev ?_
  refine ifp rfl ?_
  refine ifp rfl ?_
  refine ifp rfl ?_
  refine ifp r1.2.2 ?_
  refine ifp m1 ?_
  simp only
  rw [wrap_in (by omega) (by omega), show a1 % 200 + atC c (a1 % 200) - a1 % 200 = atC c (a1 % 200) by omega]
  refine ifp r1.1 ?_
  exact some_ (decide_eq_true r1.2.1)
end Go.Proofs.Ythjejgaekoopnaa.Pure
