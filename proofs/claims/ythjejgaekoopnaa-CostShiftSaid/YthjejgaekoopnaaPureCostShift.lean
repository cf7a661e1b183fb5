/- The law CostShift in plain words: a curve that is moved has the same costs later, for all raw numbers. No condition. -/
import Derived.Test.YthjejgaekoopnaaCostShiftCostS
import Derived.Test.YthjejgaekoopnaaCostShiftCurveA
namespace Go.Proofs.Ythjejgaekoopnaa.Pure
open Go.RowKit Go.Proofs.Ythjejgaekoopnaa.PCostShift Go.Proofs.YthjejgaekoopnaaW.PrintWords Go.Proofs.YthjejgaekoopnaaW.PrintLast Go.Proofs.YthjejgaekoopnaaW.PrintMore Go.Proofs.Ythjejgaekoopnaa.Evs
theorem costed_ev : Ev (fun k => terrkeep4_costed.f k) true := by
  unfold terrkeep4_costed.f
  exact Ev.bind (At_ev _ 9) (same (ifp (by decide) (Ev.now _)) (by decide))
theorem CostShift : terrkeep4_CostShift.Pure := by
  intro l a1 a2 _ _ _ _ _
  obtain ⟨c, hc, hv, hs⟩ := curve_tells l
  have b1 : 0 ≤ a1 % 1000 := Int.emod_nonneg _ (by omega)
  have b2 : a1 % 1000 < 1000 := Int.emod_lt_of_pos _ (by omega)
  have b3 : 0 ≤ a2 % 300 := Int.emod_nonneg _ (by omega)
  have b4 : a2 % 300 < 300 := Int.emod_lt_of_pos _ (by omega)
  have hl : lastT c ≤ 200 := by
    cases c with
    | nil => exact hv.elim
    | cons a r =>
      refine (hs _ ?_).1
      rw [List.getD_eq_getElem?_getD, List.getElem?_eq_getElem (by simp)]
      exact List.getElem_mem _
  have hv2 := valid_sh (d := a1 % 1000) hv b1 (by omega)
  have hL : LaterOf c (a1 % 1000) = (c.map (sh (a1 % 1000)), 0) := by
    unfold LaterOf
    rw [if_pos ((chk_zero c).2 hv), if_neg (by omega)]
  refine Ev.rounds (?_ : Ev (fun k => terrkeep4_CostShift.f k l a1 a2) true)
  unfold terrkeep4_CostShift.f
  refine Ev.bind hc ?_
  refine bindc (below_eq _ _ (by omega) (by omega)) ?_
  refine bindc (below_eq _ _ (by omega) (by omega)) ?_
  refine Ev.bind (same (Later_ev c _) hL) ?_
  refine Ev.bind (same (At_ev c _) (AtOf_valid hv b3 (by omega))) ?_
  rw [wrap_in (x := a2 % 300 + a1 % 1000) (by omega) (by omega)]
  refine Ev.bind (same (At_ev _ _) (AtOf_valid hv2 (by omega) (by omega))) ?_
  refine Ev.bind costed_ev ?_
  refine ifp rfl ?_
  refine ifp rfl ?_
  refine ifp rfl ?_
  refine ifp rfl ?_
  simp only
  rw [atC_sh]
  exact some_ (by simp)
end Go.Proofs.Ythjejgaekoopnaa.Pure
