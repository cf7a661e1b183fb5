-- Laid by wip/tools/myprint.py, this session's own program.
import Derived.Test.YthjejgaekoopnaaPCostLeavesx0
import Derived.Test.YthjejgaekoopnaaPCostLeavesx2
import Derived.Test.YthjejgaekoopnaaPCostLeavesx4
import Derived.Test.YthjejgaekoopnaaPCostLeavesx5
import Derived.Test.YthjejgaekoopnaaPCostLeavesx6
namespace Go.Proofs.Ythjejgaekoopnaa.PCostLeaves
open Go.RowKit Go.Proofs.YthjejgaekoopnaaW.PrintWords Go.Proofs.YthjejgaekoopnaaW.PrintLast Go.Proofs.YthjejgaekoopnaaW.PrintMore
attribute [local go_sem] max2_int min2_int max_two min_two max_three min_three max_four min_four   -- for this text's walks alone
set_option linter.unusedVariables false
set_option linter.unusedSimpArgs false

/-! ### terrlaw4_CostLeaves: function 9 -/
mutual
def terrlaw4_CostLeaves.j0 : Nat → List (S42) → Int → Int → Int → Int → Int → Int → List (S42) → Int → Int → Int → List (S42) → Bool → Option (Bool)
 | 0, _, _, _, _, _, _, _, _, _, _, _, _, _ => none
 | k + 1, x0, x1, x2, x3, x4, x11, x12, x13, x14, x15, x16, x17, x61 => if x61 = true then (terrlaw4_CostLeaves.j1 k x0 x1 x2 x3 x4 x11 x12 x13 x14 x15 1 x17) else (terrlaw4_CostLeaves.j1 k x0 x1 x2 x3 x4 x11 x12 x13 x14 x15 x16 x17)
def terrlaw4_CostLeaves.j1 : Nat → List (S42) → Int → Int → Int → Int → Int → Int → List (S42) → Int → Int → Int → List (S42) → Option (Bool)
 | 0, _, _, _, _, _, _, _, _, _, _, _, _ => none
 | k + 1, x0, x1, x2, x3, x4, x11, x12, x13, x14, x15, x16, x17 => terrlaw4_CostLeaves.l0 k x0 x1 x2 x3 x4 x11 x12 x13 x14 x15 x16 x17 x0 (x0.length : Int) 0
def terrlaw4_CostLeaves.l0 : Nat → List (S42) → Int → Int → Int → Int → Int → Int → List (S42) → Int → Int → Int → List (S42) → List (S42) → Int → Int → Option (Bool)
 | 0, _, _, _, _, _, _, _, _, _, _, _, _, _, _, _ => none
 | k + 1, x0, x1, x2, x3, x4, x11, x12, x13, x14, x15, x16, x17, x62, x63, x64 => if x64 < x63 then (if 0 ≤ x64 then (if x64 < (x62.length : Int) then (if x16 = 0 then (if x17.length < 8796093022208 then (terrlaw4_CostLeaves.l0 k x0 x1 x2 x3 x4 x11 x12 x13 x14 x15 x16 (x17 ++ [(⟨wrap64 (((rd_T42 x62 x64).f0) + x4), (rd_T42 x62 x64).f1⟩ : S42)]) x62 x63 (wrap64 (x64 + 1))) else (none)) else (terrlaw4_CostLeaves.l0 k x0 x1 x2 x3 x4 x11 x12 x13 x14 x15 x16 x17 x62 x63 (wrap64 (x64 + 1)))) else (none)) else (none)) else ((terrlaw4_costed.f k).bind fun t163 => (if t163 = true then (if x14 = x16 then ((cost_Step_27.f k x13 x17).bind fun t164 => (terrlaw4_CostLeaves.j3 k x0 x1 x2 x3 x11 x12 x15 (!t164))) else (terrlaw4_CostLeaves.j3 k x0 x1 x2 x3 x11 x12 x15 true)) else (terrlaw4_CostLeaves.j3 k x0 x1 x2 x3 x11 x12 x15 true)))
def terrlaw4_CostLeaves.j3 : Nat → List (S42) → Int → Int → Int → Int → Int → Int → Bool → Option (Bool)
 | 0, _, _, _, _, _, _, _, _ => none
 | k + 1, x0, x1, x2, x3, x11, x12, x15, x93 => if x93 = true then (some false) else (if x15 = 0 then (if x1 < 0 then (terrlaw4_CostLeaves.j4 k x0 x1 x2 x3 x11 x12 x15 true) else (if x2 < x1 then (terrlaw4_CostLeaves.j4 k x0 x1 x2 x3 x11 x12 x15 true) else (terrlaw4_CostLeaves.j4 k x0 x1 x2 x3 x11 x12 x15 (decide (x2 > 1073741824))))) else (terrlaw4_CostLeaves.j4 k x0 x1 x2 x3 x11 x12 x15 false))
def terrlaw4_CostLeaves.j4 : Nat → List (S42) → Int → Int → Int → Int → Int → Int → Bool → Option (Bool)
 | 0, _, _, _, _, _, _, _, _ => none
 | k + 1, x0, x1, x2, x3, x11, x12, x15, x108 => if x108 = true then (terrlaw4_CostLeaves.j5 k x0 x1 x2 x3 x11 x12 1) else (terrlaw4_CostLeaves.j5 k x0 x1 x2 x3 x11 x12 x15)
def terrlaw4_CostLeaves.j5 : Nat → List (S42) → Int → Int → Int → Int → Int → Int → Option (Bool)
 | 0, _, _, _, _, _, _, _ => none
 | k + 1, x0, x1, x2, x3, x11, x12, x15 => terrlaw4_CostLeaves.l1 k x0 x1 x3 x11 x12 x15 x1 (wrap64 (x2 + 1))
def terrlaw4_CostLeaves.l1 : Nat → List (S42) → Int → Int → Int → Int → Int → Int → Int → Option (Bool)
 | 0, _, _, _, _, _, _, _, _ => none
 | k + 1, x0, x1, x3, x11, x12, x15, x20, x21 => if x15 = 0 then (terrlaw4_CostLeaves.j7 k x0 x1 x3 x11 x12 x15 x20 x21 (decide (x20 < x21))) else (terrlaw4_CostLeaves.j7 k x0 x1 x3 x11 x12 x15 x20 x21 false)
def terrlaw4_CostLeaves.j7 : Nat → List (S42) → Int → Int → Int → Int → Int → Int → Int → Bool → Option (Bool)
 | 0, _, _, _, _, _, _, _, _, _ => none
 | k + 1, x0, x1, x3, x11, x12, x15, x20, x21, x118 => if x118 = true then ((terrref4_CostAt.f k x0 (wrap64 (Int.tdiv (wrap64 (x20 + x21)) 2))).bind fun t165 => (if (wrap64 ((wrap64 (Int.tdiv (wrap64 (x20 + x21)) 2)) + t165)) ≤ x3 then (terrlaw4_CostLeaves.l1 k x0 x1 x3 x11 x12 x15 (wrap64 ((wrap64 (Int.tdiv (wrap64 (x20 + x21)) 2)) + 1)) x21) else (terrlaw4_CostLeaves.l1 k x0 x1 x3 x11 x12 x15 x20 (wrap64 (Int.tdiv (wrap64 (x20 + x21)) 2))))) else (if x15 = 0 then (terrlaw4_CostLeaves.j8 k x11 x12 x15 x20 (x20 == x1)) else (terrlaw4_CostLeaves.j8 k x11 x12 x15 x20 false))
def terrlaw4_CostLeaves.j8 : Nat → Int → Int → Int → Int → Bool → Option (Bool)
 | 0, _, _, _, _, _ => none
 | k + 1, x11, x12, x15, x20, x139 => if x139 = true then (if 17 = 0 then (if x12 = 0 then (some (x11 == (wrap64 (x20 - 1)))) else (some false)) else (if x12 = 17 then (some (x11 == 0)) else (some false))) else (if x15 = 0 then (if x12 = 0 then (some (x11 == (wrap64 (x20 - 1)))) else (some false)) else (if x12 = x15 then (some (x11 == 0)) else (some false)))
end
def terrlaw4_CostLeaves.f (k : Nat) (l0 : List (S42)) (a1 : Int) (a2 : Int) (a3 : Int) (a4 : Int) : Option (Bool) := (cost_Leave.f k l0 a1 a2 a3).bind fun bt150 => ((cost_Later.f k l0 a4).bind fun bt152 => ((terrref4_CurveFault.f k l0).bind fun t156 => (if t156 = 0 then (if a4 < 0 then (terrlaw4_CostLeaves.j0 k l0 a1 a2 a3 a4 bt150.1 bt150.2 bt152.1 bt152.2 t156 t156 ([] : List (S42)) true) else (if a4 > 1073741824 then (terrlaw4_CostLeaves.j0 k l0 a1 a2 a3 a4 bt150.1 bt150.2 bt152.1 bt152.2 t156 t156 ([] : List (S42)) true) else (if 0 ≤ (wrap64 ((l0.length : Int) - 1)) then (if (wrap64 ((l0.length : Int) - 1)) < (l0.length : Int) then (terrlaw4_CostLeaves.j0 k l0 a1 a2 a3 a4 bt150.1 bt150.2 bt152.1 bt152.2 t156 t156 ([] : List (S42)) (decide ((wrap64 (((rd_T42 l0 (wrap64 ((l0.length : Int) - 1))).f0) + a4)) > 1073741824))) else (none)) else (none)))) else (terrlaw4_CostLeaves.j0 k l0 a1 a2 a3 a4 bt150.1 bt150.2 bt152.1 bt152.2 t156 t156 ([] : List (S42)) false))))
theorem terrlaw4_CostLeaves.mono_l : ∀ k, (∀ y0 y1 y2 y3 y4 y5 y6 y7 y8 y9 y10 y11 y12, LeO (terrlaw4_CostLeaves.j0 k y0 y1 y2 y3 y4 y5 y6 y7 y8 y9 y10 y11 y12) (terrlaw4_CostLeaves.j0 (k + 1) y0 y1 y2 y3 y4 y5 y6 y7 y8 y9 y10 y11 y12)) ∧ (∀ y0 y1 y2 y3 y4 y5 y6 y7 y8 y9 y10 y11, LeO (terrlaw4_CostLeaves.j1 k y0 y1 y2 y3 y4 y5 y6 y7 y8 y9 y10 y11) (terrlaw4_CostLeaves.j1 (k + 1) y0 y1 y2 y3 y4 y5 y6 y7 y8 y9 y10 y11)) ∧ (∀ y0 y1 y2 y3 y4 y5 y6 y7 y8 y9 y10 y11 y12 y13 y14, LeO (terrlaw4_CostLeaves.l0 k y0 y1 y2 y3 y4 y5 y6 y7 y8 y9 y10 y11 y12 y13 y14) (terrlaw4_CostLeaves.l0 (k + 1) y0 y1 y2 y3 y4 y5 y6 y7 y8 y9 y10 y11 y12 y13 y14)) ∧ (∀ y0 y1 y2 y3 y4 y5 y6 y7, LeO (terrlaw4_CostLeaves.j3 k y0 y1 y2 y3 y4 y5 y6 y7) (terrlaw4_CostLeaves.j3 (k + 1) y0 y1 y2 y3 y4 y5 y6 y7)) ∧ (∀ y0 y1 y2 y3 y4 y5 y6 y7, LeO (terrlaw4_CostLeaves.j4 k y0 y1 y2 y3 y4 y5 y6 y7) (terrlaw4_CostLeaves.j4 (k + 1) y0 y1 y2 y3 y4 y5 y6 y7)) ∧ (∀ y0 y1 y2 y3 y4 y5 y6, LeO (terrlaw4_CostLeaves.j5 k y0 y1 y2 y3 y4 y5 y6) (terrlaw4_CostLeaves.j5 (k + 1) y0 y1 y2 y3 y4 y5 y6)) ∧ (∀ y0 y1 y2 y3 y4 y5 y6 y7, LeO (terrlaw4_CostLeaves.l1 k y0 y1 y2 y3 y4 y5 y6 y7) (terrlaw4_CostLeaves.l1 (k + 1) y0 y1 y2 y3 y4 y5 y6 y7)) ∧ (∀ y0 y1 y2 y3 y4 y5 y6 y7 y8, LeO (terrlaw4_CostLeaves.j7 k y0 y1 y2 y3 y4 y5 y6 y7 y8) (terrlaw4_CostLeaves.j7 (k + 1) y0 y1 y2 y3 y4 y5 y6 y7 y8)) ∧ (∀ y0 y1 y2 y3 y4, LeO (terrlaw4_CostLeaves.j8 k y0 y1 y2 y3 y4) (terrlaw4_CostLeaves.j8 (k + 1) y0 y1 y2 y3 y4))
 | 0 => ⟨fun _ _ _ _ _ _ _ _ _ _ _ _ _ r h => by simp [terrlaw4_CostLeaves.j0] at h, fun _ _ _ _ _ _ _ _ _ _ _ _ r h => by simp [terrlaw4_CostLeaves.j1] at h, fun _ _ _ _ _ _ _ _ _ _ _ _ _ _ _ r h => by simp [terrlaw4_CostLeaves.l0] at h, fun _ _ _ _ _ _ _ _ r h => by simp [terrlaw4_CostLeaves.j3] at h, fun _ _ _ _ _ _ _ _ r h => by simp [terrlaw4_CostLeaves.j4] at h, fun _ _ _ _ _ _ _ r h => by simp [terrlaw4_CostLeaves.j5] at h, fun _ _ _ _ _ _ _ _ r h => by simp [terrlaw4_CostLeaves.l1] at h, fun _ _ _ _ _ _ _ _ _ r h => by simp [terrlaw4_CostLeaves.j7] at h, fun _ _ _ _ _ r h => by simp [terrlaw4_CostLeaves.j8] at h⟩
 | k + 1 => by
  obtain ⟨ih0, ih1, ih2, ih3, ih4, ih5, ih6, ih7, ih8⟩ := terrlaw4_CostLeaves.mono_l k
  refine ⟨?_, ?_, ?_, ?_, ?_, ?_, ?_, ?_, ?_⟩
  ·
   intro y0 y1 y2 y3 y4 y5 y6 y7 y8 y9 y10 y11 y12
   unfold terrlaw4_CostLeaves.j0
   repeat' first
   | (with_reducible exact ih0 _ _ _ _ _ _ _ _ _ _ _ _ _)
   | (with_reducible exact ih1 _ _ _ _ _ _ _ _ _ _ _ _)
   | (with_reducible exact ih2 _ _ _ _ _ _ _ _ _ _ _ _ _ _ _)
   | (with_reducible exact ih3 _ _ _ _ _ _ _ _)
   | (with_reducible exact ih4 _ _ _ _ _ _ _ _)
   | (with_reducible exact ih5 _ _ _ _ _ _ _)
   | (with_reducible exact ih6 _ _ _ _ _ _ _ _)
   | (with_reducible exact ih7 _ _ _ _ _ _ _ _ _)
   | (with_reducible exact ih8 _ _ _ _ _)
   | (with_reducible exact cost_Later.mono _ _ _)
   | (with_reducible exact cost_Leave.mono _ _ _ _ _)
   | (with_reducible exact cost_Step_27.mono _ _ _)
   | (with_reducible exact terrlaw4_costed.mono _)
   | (with_reducible exact terrref4_CostAt.mono _ _ _)
   | (with_reducible exact terrref4_CurveFault.mono _ _)
   | (with_reducible exact LeO.refl _)
   | (with_reducible exact LeO.none _)
   | (with_reducible refine LeO.ite ?_ ?_)
   | (with_reducible refine LeO.bind ?_ (fun _ => ?_))
   | exact ih0 _ _ _ _ _ _ _ _ _ _ _ _ _
   | exact ih1 _ _ _ _ _ _ _ _ _ _ _ _
   | exact ih2 _ _ _ _ _ _ _ _ _ _ _ _ _ _ _
   | exact ih3 _ _ _ _ _ _ _ _
   | exact ih4 _ _ _ _ _ _ _ _
   | exact ih5 _ _ _ _ _ _ _
   | exact ih6 _ _ _ _ _ _ _ _
   | exact ih7 _ _ _ _ _ _ _ _ _
   | exact ih8 _ _ _ _ _
   | exact cost_Later.mono _ _ _
   | exact cost_Leave.mono _ _ _ _ _
   | exact cost_Step_27.mono _ _ _
   | exact terrlaw4_costed.mono _
   | exact terrref4_CostAt.mono _ _ _
   | exact terrref4_CurveFault.mono _ _
   | exact LeO.none _
   | refine LeO.ite ?_ ?_
   | refine LeO.bind ?_ (fun _ => ?_)
  ·
   intro y0 y1 y2 y3 y4 y5 y6 y7 y8 y9 y10 y11
   unfold terrlaw4_CostLeaves.j1
   repeat' first
   | (with_reducible exact ih0 _ _ _ _ _ _ _ _ _ _ _ _ _)
   | (with_reducible exact ih1 _ _ _ _ _ _ _ _ _ _ _ _)
   | (with_reducible exact ih2 _ _ _ _ _ _ _ _ _ _ _ _ _ _ _)
   | (with_reducible exact ih3 _ _ _ _ _ _ _ _)
   | (with_reducible exact ih4 _ _ _ _ _ _ _ _)
   | (with_reducible exact ih5 _ _ _ _ _ _ _)
   | (with_reducible exact ih6 _ _ _ _ _ _ _ _)
   | (with_reducible exact ih7 _ _ _ _ _ _ _ _ _)
   | (with_reducible exact ih8 _ _ _ _ _)
   | (with_reducible exact cost_Later.mono _ _ _)
   | (with_reducible exact cost_Leave.mono _ _ _ _ _)
   | (with_reducible exact cost_Step_27.mono _ _ _)
   | (with_reducible exact terrlaw4_costed.mono _)
   | (with_reducible exact terrref4_CostAt.mono _ _ _)
   | (with_reducible exact terrref4_CurveFault.mono _ _)
   | (with_reducible exact LeO.refl _)
   | (with_reducible exact LeO.none _)
   | (with_reducible refine LeO.ite ?_ ?_)
   | (with_reducible refine LeO.bind ?_ (fun _ => ?_))
   | exact ih0 _ _ _ _ _ _ _ _ _ _ _ _ _
   | exact ih1 _ _ _ _ _ _ _ _ _ _ _ _
   | exact ih2 _ _ _ _ _ _ _ _ _ _ _ _ _ _ _
   | exact ih3 _ _ _ _ _ _ _ _
   | exact ih4 _ _ _ _ _ _ _ _
   | exact ih5 _ _ _ _ _ _ _
   | exact ih6 _ _ _ _ _ _ _ _
   | exact ih7 _ _ _ _ _ _ _ _ _
   | exact ih8 _ _ _ _ _
   | exact cost_Later.mono _ _ _
   | exact cost_Leave.mono _ _ _ _ _
   | exact cost_Step_27.mono _ _ _
   | exact terrlaw4_costed.mono _
   | exact terrref4_CostAt.mono _ _ _
   | exact terrref4_CurveFault.mono _ _
   | exact LeO.none _
   | refine LeO.ite ?_ ?_
   | refine LeO.bind ?_ (fun _ => ?_)
  ·
   intro y0 y1 y2 y3 y4 y5 y6 y7 y8 y9 y10 y11 y12 y13 y14
   unfold terrlaw4_CostLeaves.l0
   repeat' first
   | (with_reducible exact ih0 _ _ _ _ _ _ _ _ _ _ _ _ _)
   | (with_reducible exact ih1 _ _ _ _ _ _ _ _ _ _ _ _)
   | (with_reducible exact ih2 _ _ _ _ _ _ _ _ _ _ _ _ _ _ _)
   | (with_reducible exact ih3 _ _ _ _ _ _ _ _)
   | (with_reducible exact ih4 _ _ _ _ _ _ _ _)
   | (with_reducible exact ih5 _ _ _ _ _ _ _)
   | (with_reducible exact ih6 _ _ _ _ _ _ _ _)
   | (with_reducible exact ih7 _ _ _ _ _ _ _ _ _)
   | (with_reducible exact ih8 _ _ _ _ _)
   | (with_reducible exact cost_Later.mono _ _ _)
   | (with_reducible exact cost_Leave.mono _ _ _ _ _)
   | (with_reducible exact cost_Step_27.mono _ _ _)
   | (with_reducible exact terrlaw4_costed.mono _)
   | (with_reducible exact terrref4_CostAt.mono _ _ _)
   | (with_reducible exact terrref4_CurveFault.mono _ _)
   | (with_reducible exact LeO.refl _)
   | (with_reducible exact LeO.none _)
   | (with_reducible refine LeO.ite ?_ ?_)
   | (with_reducible refine LeO.bind ?_ (fun _ => ?_))
   | exact ih0 _ _ _ _ _ _ _ _ _ _ _ _ _
   | exact ih1 _ _ _ _ _ _ _ _ _ _ _ _
   | exact ih2 _ _ _ _ _ _ _ _ _ _ _ _ _ _ _
   | exact ih3 _ _ _ _ _ _ _ _
   | exact ih4 _ _ _ _ _ _ _ _
   | exact ih5 _ _ _ _ _ _ _
   | exact ih6 _ _ _ _ _ _ _ _
   | exact ih7 _ _ _ _ _ _ _ _ _
   | exact ih8 _ _ _ _ _
   | exact cost_Later.mono _ _ _
   | exact cost_Leave.mono _ _ _ _ _
   | exact cost_Step_27.mono _ _ _
   | exact terrlaw4_costed.mono _
   | exact terrref4_CostAt.mono _ _ _
   | exact terrref4_CurveFault.mono _ _
   | exact LeO.none _
   | refine LeO.ite ?_ ?_
   | refine LeO.bind ?_ (fun _ => ?_)
  ·
   intro y0 y1 y2 y3 y4 y5 y6 y7
   unfold terrlaw4_CostLeaves.j3
   repeat' first
   | (with_reducible exact ih0 _ _ _ _ _ _ _ _ _ _ _ _ _)
   | (with_reducible exact ih1 _ _ _ _ _ _ _ _ _ _ _ _)
   | (with_reducible exact ih2 _ _ _ _ _ _ _ _ _ _ _ _ _ _ _)
   | (with_reducible exact ih3 _ _ _ _ _ _ _ _)
   | (with_reducible exact ih4 _ _ _ _ _ _ _ _)
   | (with_reducible exact ih5 _ _ _ _ _ _ _)
   | (with_reducible exact ih6 _ _ _ _ _ _ _ _)
   | (with_reducible exact ih7 _ _ _ _ _ _ _ _ _)
   | (with_reducible exact ih8 _ _ _ _ _)
   | (with_reducible exact cost_Later.mono _ _ _)
   | (with_reducible exact cost_Leave.mono _ _ _ _ _)
   | (with_reducible exact cost_Step_27.mono _ _ _)
   | (with_reducible exact terrlaw4_costed.mono _)
   | (with_reducible exact terrref4_CostAt.mono _ _ _)
   | (with_reducible exact terrref4_CurveFault.mono _ _)
   | (with_reducible exact LeO.refl _)
   | (with_reducible exact LeO.none _)
   | (with_reducible refine LeO.ite ?_ ?_)
   | (with_reducible refine LeO.bind ?_ (fun _ => ?_))
   | exact ih0 _ _ _ _ _ _ _ _ _ _ _ _ _
   | exact ih1 _ _ _ _ _ _ _ _ _ _ _ _
   | exact ih2 _ _ _ _ _ _ _ _ _ _ _ _ _ _ _
   | exact ih3 _ _ _ _ _ _ _ _
   | exact ih4 _ _ _ _ _ _ _ _
   | exact ih5 _ _ _ _ _ _ _
   | exact ih6 _ _ _ _ _ _ _ _
   | exact ih7 _ _ _ _ _ _ _ _ _
   | exact ih8 _ _ _ _ _
   | exact cost_Later.mono _ _ _
   | exact cost_Leave.mono _ _ _ _ _
   | exact cost_Step_27.mono _ _ _
   | exact terrlaw4_costed.mono _
   | exact terrref4_CostAt.mono _ _ _
   | exact terrref4_CurveFault.mono _ _
   | exact LeO.none _
   | refine LeO.ite ?_ ?_
   | refine LeO.bind ?_ (fun _ => ?_)
  ·
   intro y0 y1 y2 y3 y4 y5 y6 y7
   unfold terrlaw4_CostLeaves.j4
   repeat' first
   | (with_reducible exact ih0 _ _ _ _ _ _ _ _ _ _ _ _ _)
   | (with_reducible exact ih1 _ _ _ _ _ _ _ _ _ _ _ _)
   | (with_reducible exact ih2 _ _ _ _ _ _ _ _ _ _ _ _ _ _ _)
   | (with_reducible exact ih3 _ _ _ _ _ _ _ _)
   | (with_reducible exact ih4 _ _ _ _ _ _ _ _)
   | (with_reducible exact ih5 _ _ _ _ _ _ _)
   | (with_reducible exact ih6 _ _ _ _ _ _ _ _)
   | (with_reducible exact ih7 _ _ _ _ _ _ _ _ _)
   | (with_reducible exact ih8 _ _ _ _ _)
   | (with_reducible exact cost_Later.mono _ _ _)
   | (with_reducible exact cost_Leave.mono _ _ _ _ _)
   | (with_reducible exact cost_Step_27.mono _ _ _)
   | (with_reducible exact terrlaw4_costed.mono _)
   | (with_reducible exact terrref4_CostAt.mono _ _ _)
   | (with_reducible exact terrref4_CurveFault.mono _ _)
   | (with_reducible exact LeO.refl _)
   | (with_reducible exact LeO.none _)
   | (with_reducible refine LeO.ite ?_ ?_)
   | (with_reducible refine LeO.bind ?_ (fun _ => ?_))
   | exact ih0 _ _ _ _ _ _ _ _ _ _ _ _ _
   | exact ih1 _ _ _ _ _ _ _ _ _ _ _ _
   | exact ih2 _ _ _ _ _ _ _ _ _ _ _ _ _ _ _
   | exact ih3 _ _ _ _ _ _ _ _
   | exact ih4 _ _ _ _ _ _ _ _
   | exact ih5 _ _ _ _ _ _ _
   | exact ih6 _ _ _ _ _ _ _ _
   | exact ih7 _ _ _ _ _ _ _ _ _
   | exact ih8 _ _ _ _ _
   | exact cost_Later.mono _ _ _
   | exact cost_Leave.mono _ _ _ _ _
   | exact cost_Step_27.mono _ _ _
   | exact terrlaw4_costed.mono _
   | exact terrref4_CostAt.mono _ _ _
   | exact terrref4_CurveFault.mono _ _
   | exact LeO.none _
   | refine LeO.ite ?_ ?_
   | refine LeO.bind ?_ (fun _ => ?_)
  ·
   intro y0 y1 y2 y3 y4 y5 y6
   unfold terrlaw4_CostLeaves.j5
   repeat' first
   | (with_reducible exact ih0 _ _ _ _ _ _ _ _ _ _ _ _ _)
   | (with_reducible exact ih1 _ _ _ _ _ _ _ _ _ _ _ _)
   | (with_reducible exact ih2 _ _ _ _ _ _ _ _ _ _ _ _ _ _ _)
   | (with_reducible exact ih3 _ _ _ _ _ _ _ _)
   | (with_reducible exact ih4 _ _ _ _ _ _ _ _)
   | (with_reducible exact ih5 _ _ _ _ _ _ _)
   | (with_reducible exact ih6 _ _ _ _ _ _ _ _)
   | (with_reducible exact ih7 _ _ _ _ _ _ _ _ _)
   | (with_reducible exact ih8 _ _ _ _ _)
   | (with_reducible exact cost_Later.mono _ _ _)
   | (with_reducible exact cost_Leave.mono _ _ _ _ _)
   | (with_reducible exact cost_Step_27.mono _ _ _)
   | (with_reducible exact terrlaw4_costed.mono _)
   | (with_reducible exact terrref4_CostAt.mono _ _ _)
   | (with_reducible exact terrref4_CurveFault.mono _ _)
   | (with_reducible exact LeO.refl _)
   | (with_reducible exact LeO.none _)
   | (with_reducible refine LeO.ite ?_ ?_)
   | (with_reducible refine LeO.bind ?_ (fun _ => ?_))
   | exact ih0 _ _ _ _ _ _ _ _ _ _ _ _ _
   | exact ih1 _ _ _ _ _ _ _ _ _ _ _ _
   | exact ih2 _ _ _ _ _ _ _ _ _ _ _ _ _ _ _
   | exact ih3 _ _ _ _ _ _ _ _
   | exact ih4 _ _ _ _ _ _ _ _
   | exact ih5 _ _ _ _ _ _ _
   | exact ih6 _ _ _ _ _ _ _ _
   | exact ih7 _ _ _ _ _ _ _ _ _
   | exact ih8 _ _ _ _ _
   | exact cost_Later.mono _ _ _
   | exact cost_Leave.mono _ _ _ _ _
   | exact cost_Step_27.mono _ _ _
   | exact terrlaw4_costed.mono _
   | exact terrref4_CostAt.mono _ _ _
   | exact terrref4_CurveFault.mono _ _
   | exact LeO.none _
   | refine LeO.ite ?_ ?_
   | refine LeO.bind ?_ (fun _ => ?_)
  ·
   intro y0 y1 y2 y3 y4 y5 y6 y7
   unfold terrlaw4_CostLeaves.l1
   repeat' first
   | (with_reducible exact ih0 _ _ _ _ _ _ _ _ _ _ _ _ _)
   | (with_reducible exact ih1 _ _ _ _ _ _ _ _ _ _ _ _)
   | (with_reducible exact ih2 _ _ _ _ _ _ _ _ _ _ _ _ _ _ _)
   | (with_reducible exact ih3 _ _ _ _ _ _ _ _)
   | (with_reducible exact ih4 _ _ _ _ _ _ _ _)
   | (with_reducible exact ih5 _ _ _ _ _ _ _)
   | (with_reducible exact ih6 _ _ _ _ _ _ _ _)
   | (with_reducible exact ih7 _ _ _ _ _ _ _ _ _)
   | (with_reducible exact ih8 _ _ _ _ _)
   | (with_reducible exact cost_Later.mono _ _ _)
   | (with_reducible exact cost_Leave.mono _ _ _ _ _)
   | (with_reducible exact cost_Step_27.mono _ _ _)
   | (with_reducible exact terrlaw4_costed.mono _)
   | (with_reducible exact terrref4_CostAt.mono _ _ _)
   | (with_reducible exact terrref4_CurveFault.mono _ _)
   | (with_reducible exact LeO.refl _)
   | (with_reducible exact LeO.none _)
   | (with_reducible refine LeO.ite ?_ ?_)
   | (with_reducible refine LeO.bind ?_ (fun _ => ?_))
   | exact ih0 _ _ _ _ _ _ _ _ _ _ _ _ _
   | exact ih1 _ _ _ _ _ _ _ _ _ _ _ _
   | exact ih2 _ _ _ _ _ _ _ _ _ _ _ _ _ _ _
   | exact ih3 _ _ _ _ _ _ _ _
   | exact ih4 _ _ _ _ _ _ _ _
   | exact ih5 _ _ _ _ _ _ _
   | exact ih6 _ _ _ _ _ _ _ _
   | exact ih7 _ _ _ _ _ _ _ _ _
   | exact ih8 _ _ _ _ _
   | exact cost_Later.mono _ _ _
   | exact cost_Leave.mono _ _ _ _ _
   | exact cost_Step_27.mono _ _ _
   | exact terrlaw4_costed.mono _
   | exact terrref4_CostAt.mono _ _ _
   | exact terrref4_CurveFault.mono _ _
   | exact LeO.none _
   | refine LeO.ite ?_ ?_
   | refine LeO.bind ?_ (fun _ => ?_)
  ·
   intro y0 y1 y2 y3 y4 y5 y6 y7 y8
   unfold terrlaw4_CostLeaves.j7
   repeat' first
   | (with_reducible exact ih0 _ _ _ _ _ _ _ _ _ _ _ _ _)
   | (with_reducible exact ih1 _ _ _ _ _ _ _ _ _ _ _ _)
   | (with_reducible exact ih2 _ _ _ _ _ _ _ _ _ _ _ _ _ _ _)
   | (with_reducible exact ih3 _ _ _ _ _ _ _ _)
   | (with_reducible exact ih4 _ _ _ _ _ _ _ _)
   | (with_reducible exact ih5 _ _ _ _ _ _ _)
   | (with_reducible exact ih6 _ _ _ _ _ _ _ _)
   | (with_reducible exact ih7 _ _ _ _ _ _ _ _ _)
   | (with_reducible exact ih8 _ _ _ _ _)
   | (with_reducible exact cost_Later.mono _ _ _)
   | (with_reducible exact cost_Leave.mono _ _ _ _ _)
   | (with_reducible exact cost_Step_27.mono _ _ _)
   | (with_reducible exact terrlaw4_costed.mono _)
   | (with_reducible exact terrref4_CostAt.mono _ _ _)
   | (with_reducible exact terrref4_CurveFault.mono _ _)
   | (with_reducible exact LeO.refl _)
   | (with_reducible exact LeO.none _)
   | (with_reducible refine LeO.ite ?_ ?_)
   | (with_reducible refine LeO.bind ?_ (fun _ => ?_))
   | exact ih0 _ _ _ _ _ _ _ _ _ _ _ _ _
   | exact ih1 _ _ _ _ _ _ _ _ _ _ _ _
   | exact ih2 _ _ _ _ _ _ _ _ _ _ _ _ _ _ _
   | exact ih3 _ _ _ _ _ _ _ _
   | exact ih4 _ _ _ _ _ _ _ _
   | exact ih5 _ _ _ _ _ _ _
   | exact ih6 _ _ _ _ _ _ _ _
   | exact ih7 _ _ _ _ _ _ _ _ _
   | exact ih8 _ _ _ _ _
   | exact cost_Later.mono _ _ _
   | exact cost_Leave.mono _ _ _ _ _
   | exact cost_Step_27.mono _ _ _
   | exact terrlaw4_costed.mono _
   | exact terrref4_CostAt.mono _ _ _
   | exact terrref4_CurveFault.mono _ _
   | exact LeO.none _
   | refine LeO.ite ?_ ?_
   | refine LeO.bind ?_ (fun _ => ?_)
  ·
   intro y0 y1 y2 y3 y4
   unfold terrlaw4_CostLeaves.j8
   repeat' first
   | (with_reducible exact ih0 _ _ _ _ _ _ _ _ _ _ _ _ _)
   | (with_reducible exact ih1 _ _ _ _ _ _ _ _ _ _ _ _)
   | (with_reducible exact ih2 _ _ _ _ _ _ _ _ _ _ _ _ _ _ _)
   | (with_reducible exact ih3 _ _ _ _ _ _ _ _)
   | (with_reducible exact ih4 _ _ _ _ _ _ _ _)
   | (with_reducible exact ih5 _ _ _ _ _ _ _)
   | (with_reducible exact ih6 _ _ _ _ _ _ _ _)
   | (with_reducible exact ih7 _ _ _ _ _ _ _ _ _)
   | (with_reducible exact ih8 _ _ _ _ _)
   | (with_reducible exact cost_Later.mono _ _ _)
   | (with_reducible exact cost_Leave.mono _ _ _ _ _)
   | (with_reducible exact cost_Step_27.mono _ _ _)
   | (with_reducible exact terrlaw4_costed.mono _)
   | (with_reducible exact terrref4_CostAt.mono _ _ _)
   | (with_reducible exact terrref4_CurveFault.mono _ _)
   | (with_reducible exact LeO.refl _)
   | (with_reducible exact LeO.none _)
   | (with_reducible refine LeO.ite ?_ ?_)
   | (with_reducible refine LeO.bind ?_ (fun _ => ?_))
   | exact ih0 _ _ _ _ _ _ _ _ _ _ _ _ _
   | exact ih1 _ _ _ _ _ _ _ _ _ _ _ _
   | exact ih2 _ _ _ _ _ _ _ _ _ _ _ _ _ _ _
   | exact ih3 _ _ _ _ _ _ _ _
   | exact ih4 _ _ _ _ _ _ _ _
   | exact ih5 _ _ _ _ _ _ _
   | exact ih6 _ _ _ _ _ _ _ _
   | exact ih7 _ _ _ _ _ _ _ _ _
   | exact ih8 _ _ _ _ _
   | exact cost_Later.mono _ _ _
   | exact cost_Leave.mono _ _ _ _ _
   | exact cost_Step_27.mono _ _ _
   | exact terrlaw4_costed.mono _
   | exact terrref4_CostAt.mono _ _ _
   | exact terrref4_CurveFault.mono _ _
   | exact LeO.none _
   | refine LeO.ite ?_ ?_
   | refine LeO.bind ?_ (fun _ => ?_)
theorem terrlaw4_CostLeaves.mono : ∀ a0 a1 a2 a3 a4 k, LeO (terrlaw4_CostLeaves.f k a0 a1 a2 a3 a4) (terrlaw4_CostLeaves.f (k + 1) a0 a1 a2 a3 a4) := by
 intro a0 a1 a2 a3 a4 k
 obtain ⟨ih0, ih1, ih2, ih3, ih4, ih5, ih6, ih7, ih8⟩ := terrlaw4_CostLeaves.mono_l k
 unfold terrlaw4_CostLeaves.f
 repeat' first
   | (with_reducible exact ih0 _ _ _ _ _ _ _ _ _ _ _ _ _)
   | (with_reducible exact ih1 _ _ _ _ _ _ _ _ _ _ _ _)
   | (with_reducible exact ih2 _ _ _ _ _ _ _ _ _ _ _ _ _ _ _)
   | (with_reducible exact ih3 _ _ _ _ _ _ _ _)
   | (with_reducible exact ih4 _ _ _ _ _ _ _ _)
   | (with_reducible exact ih5 _ _ _ _ _ _ _)
   | (with_reducible exact ih6 _ _ _ _ _ _ _ _)
   | (with_reducible exact ih7 _ _ _ _ _ _ _ _ _)
   | (with_reducible exact ih8 _ _ _ _ _)
   | (with_reducible exact cost_Later.mono _ _ _)
   | (with_reducible exact cost_Leave.mono _ _ _ _ _)
   | (with_reducible exact cost_Step_27.mono _ _ _)
   | (with_reducible exact terrlaw4_costed.mono _)
   | (with_reducible exact terrref4_CostAt.mono _ _ _)
   | (with_reducible exact terrref4_CurveFault.mono _ _)
   | (with_reducible exact LeO.refl _)
   | (with_reducible exact LeO.none _)
   | (with_reducible refine LeO.ite ?_ ?_)
   | (with_reducible refine LeO.bind ?_ (fun _ => ?_))
   | exact ih0 _ _ _ _ _ _ _ _ _ _ _ _ _
   | exact ih1 _ _ _ _ _ _ _ _ _ _ _ _
   | exact ih2 _ _ _ _ _ _ _ _ _ _ _ _ _ _ _
   | exact ih3 _ _ _ _ _ _ _ _
   | exact ih4 _ _ _ _ _ _ _ _
   | exact ih5 _ _ _ _ _ _ _
   | exact ih6 _ _ _ _ _ _ _ _
   | exact ih7 _ _ _ _ _ _ _ _ _
   | exact ih8 _ _ _ _ _
   | exact cost_Later.mono _ _ _
   | exact cost_Leave.mono _ _ _ _ _
   | exact cost_Step_27.mono _ _ _
   | exact terrlaw4_costed.mono _
   | exact terrref4_CostAt.mono _ _ _
   | exact terrref4_CurveFault.mono _ _
   | exact LeO.none _
   | refine LeO.ite ?_ ?_
   | refine LeO.bind ?_ (fun _ => ?_)
set_option maxHeartbeats 8000000 in
set_option maxRecDepth 100000 in
theorem terrlaw4_CostLeaves.calls (k : Nat) (A0 : Option Addr) (c0 : Nat) (l0 : List (S42)) (a1 : Int) (a2 : Int) (a3 : Int) (a4 : Int) (r : Bool) (w : World) (hr0 : Kd.C k42 w A0 l0.length l0) (hc0 : l0.length ≤ c0) (h : terrlaw4_CostLeaves.f k l0 a1 a2 a3 a4 = some r) :
  Calls Try.prog 9 #[.slice A0 l0.length c0, .int .i64 a1, .int .i64 a2, .int .i64 a3, .int .i64 a4] w fun e w' => e = .returned (.bool r) ∧ Below w.heap.size w w' := by
 have hu42 := Try.underlying42
 have HR0 := Aside0.mk hr0
 have HC0 := Aside0.mk hc0
 clear hr0 hc0
 have HB := Aside0.mk (Below.refl w.heap.size w)
 have H : ((cost_Leave.f k l0 a1 a2 a3).bind fun bt150 => ((cost_Later.f k l0 a4).bind fun bt152 => ((terrref4_CurveFault.f k l0).bind fun t156 => (if t156 = 0 then (if a4 < 0 then (terrlaw4_CostLeaves.j0 k l0 a1 a2 a3 a4 bt150.1 bt150.2 bt152.1 bt152.2 t156 t156 ([] : List (S42)) true) else (if a4 > 1073741824 then (terrlaw4_CostLeaves.j0 k l0 a1 a2 a3 a4 bt150.1 bt150.2 bt152.1 bt152.2 t156 t156 ([] : List (S42)) true) else (if 0 ≤ (wrap64 ((l0.length : Int) - 1)) then (if (wrap64 ((l0.length : Int) - 1)) < (l0.length : Int) then (terrlaw4_CostLeaves.j0 k l0 a1 a2 a3 a4 bt150.1 bt150.2 bt152.1 bt152.2 t156 t156 ([] : List (S42)) (decide ((wrap64 (((rd_T42 l0 (wrap64 ((l0.length : Int) - 1))).f0) + a4)) > 1073741824))) else (none)) else (none)))) else (terrlaw4_CostLeaves.j0 k l0 a1 a2 a3 a4 bt150.1 bt150.2 bt152.1 bt152.2 t156 t156 ([] : List (S42)) false))))) = some r := h
 clear h
 replace H := Option.bind_eq_some_iff.mp H
 obtain ⟨⟨t150, t151⟩, A60, H⟩ := H
 replace H : ((cost_Later.f k l0 a4).bind fun bt152 => ((terrref4_CurveFault.f k l0).bind fun t156 => (if t156 = 0 then (if a4 < 0 then (terrlaw4_CostLeaves.j0 k l0 a1 a2 a3 a4 t150 t151 bt152.1 bt152.2 t156 t156 ([] : List (S42)) true) else (if a4 > 1073741824 then (terrlaw4_CostLeaves.j0 k l0 a1 a2 a3 a4 t150 t151 bt152.1 bt152.2 t156 t156 ([] : List (S42)) true) else (if 0 ≤ (wrap64 ((l0.length : Int) - 1)) then (if (wrap64 ((l0.length : Int) - 1)) < (l0.length : Int) then (terrlaw4_CostLeaves.j0 k l0 a1 a2 a3 a4 t150 t151 bt152.1 bt152.2 t156 t156 ([] : List (S42)) (decide ((wrap64 (((rd_T42 l0 (wrap64 ((l0.length : Int) - 1))).f0) + a4)) > 1073741824))) else (none)) else (none)))) else (terrlaw4_CostLeaves.j0 k l0 a1 a2 a3 a4 t150 t151 bt152.1 bt152.2 t156 t156 ([] : List (S42)) false)))) = some r := H
 have A6 := Aside0.mk A60
 clear A60
 replace H := Option.bind_eq_some_iff.mp H
 obtain ⟨⟨t152, t153⟩, A70, H⟩ := H
 replace H : ((terrref4_CurveFault.f k l0).bind fun t156 => (if t156 = 0 then (if a4 < 0 then (terrlaw4_CostLeaves.j0 k l0 a1 a2 a3 a4 t150 t151 t152 t153 t156 t156 ([] : List (S42)) true) else (if a4 > 1073741824 then (terrlaw4_CostLeaves.j0 k l0 a1 a2 a3 a4 t150 t151 t152 t153 t156 t156 ([] : List (S42)) true) else (if 0 ≤ (wrap64 ((l0.length : Int) - 1)) then (if (wrap64 ((l0.length : Int) - 1)) < (l0.length : Int) then (terrlaw4_CostLeaves.j0 k l0 a1 a2 a3 a4 t150 t151 t152 t153 t156 t156 ([] : List (S42)) (decide ((wrap64 (((rd_T42 l0 (wrap64 ((l0.length : Int) - 1))).f0) + a4)) > 1073741824))) else (none)) else (none)))) else (terrlaw4_CostLeaves.j0 k l0 a1 a2 a3 a4 t150 t151 t152 t153 t156 t156 ([] : List (S42)) false))) = some r := H
 have A7 := Aside0.mk A70
 clear A70
 replace H := Option.bind_eq_some_iff.mp H
 obtain ⟨t156, A80, H⟩ := H
 replace H : (if t156 = 0 then (if a4 < 0 then (terrlaw4_CostLeaves.j0 k l0 a1 a2 a3 a4 t150 t151 t152 t153 t156 t156 ([] : List (S42)) true) else (if a4 > 1073741824 then (terrlaw4_CostLeaves.j0 k l0 a1 a2 a3 a4 t150 t151 t152 t153 t156 t156 ([] : List (S42)) true) else (if 0 ≤ (wrap64 ((l0.length : Int) - 1)) then (if (wrap64 ((l0.length : Int) - 1)) < (l0.length : Int) then (terrlaw4_CostLeaves.j0 k l0 a1 a2 a3 a4 t150 t151 t152 t153 t156 t156 ([] : List (S42)) (decide ((wrap64 (((rd_T42 l0 (wrap64 ((l0.length : Int) - 1))).f0) + a4)) > 1073741824))) else (none)) else (none)))) else (terrlaw4_CostLeaves.j0 k l0 a1 a2 a3 a4 t150 t151 t152 t153 t156 t156 ([] : List (S42)) false)) = some r := H
 have A8 := Aside0.mk A80
 clear A80
 have HC9 := Aside0.mk H
 clear H
 go_enter Try.func9, Try.ntmps9
 go_upto_region 6 with (first | ((with_reducible refine gate_callee (f := 22) rfl ?_); refine goesL_ (some 28) rfl rfl Try.func22 (by kernel_rfl) rfl #[.slice A0 l0.length c0, .int .i64 a1, .int .i64 a2, .int .i64 a3] rfl (by (try simp only [List.map_toArray, List.map_cons, List.map_nil]); first | done | rfl | (simp only [List.length_drop, List.length_take]; rfl)) ?_; (with_reducible refine (cost_Leave.calls k _ _ l0 a1 a2 a3 t150 t151 _ ?side1 ?side2 A6.out).mono ?_); (case side1 => repeat (first | exact HR0.out | (with_reducible refine Kd.C_alloc ?_ _) | (with_reducible refine Kd.C_drewN ?_ _) | (with_reducible refine Kd.C_drew ?_))); (case side2 => exact HC0.out); rintro e w10 ⟨rfl, hb⟩; refine ⟨_, rfl, ?_⟩; have n0_ := Aside0.mk (below_step (by repeat (first | (with_reducible first | exact HB.out | apply below_alloc | apply pw_below_drewN | apply below_drew1) | exact HB.out)) hb); clear HB; have HB := n0_; clear n0_; (try clear hb); (try clear hb2); (try clear hk); (try clear hi)) | ((with_reducible refine gate_callee (f := 20) rfl ?_); refine goesL_ (some 34) rfl rfl Try.func20 (by kernel_rfl) rfl #[.slice A0 l0.length c0, .int .i64 a4] rfl (by (try simp only [List.map_toArray, List.map_cons, List.map_nil]); first | done | rfl | (simp only [List.length_drop, List.length_take]; rfl)) ?_; (with_reducible refine (cost_Later.calls k _ _ l0 a4 t152 t153 _ ?side1 ?side2 A7.out).mono ?_); (case side1 => repeat (first | exact (Kd.C_below HR0.out HB.out) | (with_reducible refine Kd.C_alloc ?_ _) | (with_reducible refine Kd.C_drewN ?_ _) | (with_reducible refine Kd.C_drew ?_))); (case side2 => exact HC0.out); rintro e w11 ⟨v154, rfl, ho0, hb⟩; refine ⟨_, rfl, ?_⟩; have n0_ := Aside0.mk (Kd.R_lower ho0 (below_size (by repeat (first | (with_reducible first | exact HB.out | apply below_alloc | apply pw_below_drewN | apply below_drew1) | exact HB.out)))); have n1_ := Aside0.mk (below_step (by repeat (first | (with_reducible first | exact HB.out | apply below_alloc | apply pw_below_drewN | apply below_drew1) | exact HB.out)) hb); clear HB; have HO155 := n0_; have HB := n1_; clear n0_ n1_; (try clear hb); (try clear hb2); (try clear hk); (try clear hi); (try clear ho0)) | ((with_reducible refine gate_callee (f := 23) rfl ?_); refine goesL_ (some 38) rfl rfl Try.func23 (by kernel_rfl) rfl #[.slice A0 l0.length c0] rfl (by (try simp only [List.map_toArray, List.map_cons, List.map_nil]); first | done | rfl | (simp only [List.length_drop, List.length_take]; rfl)) ?_; (with_reducible refine (terrref4_CurveFault.calls k _ _ l0 t156 _ ?side1 ?side2 A8.out).mono ?_); (case side1 => repeat (first | exact (Kd.C_below HR0.out HB.out) | (with_reducible refine Kd.C_alloc ?_ _) | (with_reducible refine Kd.C_drewN ?_ _) | (with_reducible refine Kd.C_drew ?_))); (case side2 => exact HC0.out); rintro e w12 ⟨rfl, hb⟩; refine ⟨_, rfl, ?_⟩; have n0_ := Aside0.mk (Kd.R_below (by (with_reducible repeat (first | apply Kd.R_alloc | apply Kd.R_drewN | apply Kd.R_drew)); exact HO155.out) hb); have n1_ := Aside0.mk (below_step (by repeat (first | (with_reducible first | exact HB.out | apply below_alloc | apply pw_below_drewN | apply below_drew1) | exact HB.out)) hb); clear HO155; clear HB; have HO155 := n0_; have HB := n1_; clear n0_ n1_; (try clear hb); (try clear hb2); (try clear hk); (try clear hi)))
 (try simp only [Act.put, List.setIfInBounds_toArray, List.set_cons_zero, List.set_cons_succ])
 go_cut [61] (fun v61 wc => ∃ (kq : Nat) (x61_8 : Bool), v61 = .bool x61_8 ∧ Aside0 (terrlaw4_CostLeaves.j0 kq l0 a1 a2 a3 a4 t150 t151 t152 t153 t156 t156 ([] : List (S42)) x61_8 = some r) ∧ Aside0 (kq ≤ k) ∧ Aside0 (Kd.R k42 42 wc w.heap.size (fun k_ => some k_ ≠ ((.slice none 0 0) : Value).ownBlock) v154 t152) ∧ Aside0 (Kd.R k42 42 wc w.heap.size (fun k_ => some k_ ≠ (v154 : Value).ownBlock) (.slice none 0 0) ([] : List (S42))) ∧ Aside0 (Below w.heap.size w wc))
 case first =>
  have H := HC9.out
  clear HC9
  by_cases c13 : t156 = 0
  ·
   rw [if_pos c13] at H
   have c13b0 : (t156 == 0) = true := beq_iff_eq.mpr c13
   have c13b1 : (t156 != 0) = false := bne_eq_false_iff_eq.mpr c13
   clear c13
   (first | rw [c13b0] | (simp only [i64_w, i32_w]; rw [c13b0]) | skip)
   by_cases c14 : a4 < 0
   ·
    rw [if_pos c14] at H
    have c14b0 : decide (a4 < 0) = true := decide_eq_true c14
    clear c14
    have H' := Aside0.mk H
    clear H
    go_wp2
    go_meet
    case rel => exact ⟨_, (true), (by first | rfl | (simp; done) | (simp [*]; done)), H', ⟨by first | omega | exact Nat.le_refl _⟩, ⟨by (with_reducible repeat (first | apply Kd.R_alloc | apply Kd.R_drewN | apply Kd.R_drew)); exact Kd.R_mono HO155.out (fun _ hk => (by simp [Value.ownBlock]))⟩, ⟨by first | exact Kd.R_nil _ _ _ _ _ | exact Kd.N_nil _ _ _ _ _ | exact Kd.V_nil _ _ _ _ _ | exact Kd.Q_nil _ _ _ _ _ | exact Kd.S_nil _ _ _ _ _⟩, ⟨by repeat (first | (with_reducible first | exact HB.out | apply below_alloc | apply pw_below_drewN | apply below_drew1) | exact HB.out)⟩⟩
   ·
    rw [if_neg c14] at H
    have c14b0 : decide (a4 < 0) = false := decide_eq_false c14
    clear c14
    by_cases c15 : a4 > 1073741824
    ·
     rw [if_pos c15] at H
     have c15b0 : decide (1073741824 < a4) = true := decide_eq_true c15
     clear c15
     have H' := Aside0.mk H
     clear H
     go_wp2
     go_meet
     case rel => exact ⟨_, (true), (by first | rfl | (simp; done) | (simp [*]; done)), H', ⟨by first | omega | exact Nat.le_refl _⟩, ⟨by (with_reducible repeat (first | apply Kd.R_alloc | apply Kd.R_drewN | apply Kd.R_drew)); exact Kd.R_mono HO155.out (fun _ hk => (by simp [Value.ownBlock]))⟩, ⟨by first | exact Kd.R_nil _ _ _ _ _ | exact Kd.N_nil _ _ _ _ _ | exact Kd.V_nil _ _ _ _ _ | exact Kd.Q_nil _ _ _ _ _ | exact Kd.S_nil _ _ _ _ _⟩, ⟨by repeat (first | (with_reducible first | exact HB.out | apply below_alloc | apply pw_below_drewN | apply below_drew1) | exact HB.out)⟩⟩
    ·
     rw [if_neg c15] at H
     have c15b0 : decide (1073741824 < a4) = false := decide_eq_false c15
     clear c15
     obtain ⟨ji16, hji16⟩ : ∃ j_ : Int, (wrap64 ((l0.length : Int) - 1)) = j_ := ⟨_, rfl⟩
     replace H : (if 0 ≤ (ji16) then (if (ji16) < (l0.length : Int) then (terrlaw4_CostLeaves.j0 k l0 a1 a2 a3 a4 t150 t151 t152 t153 t156 t156 ([] : List (S42)) (decide ((wrap64 (((rd_T42 l0 (ji16)).f0) + a4)) > 1073741824))) else (none)) else (none)) = some r := by first | (rw [hji16] at H; exact H) | (simp only [hji16] at H ⊢; exact H)
     have hji16w : (IntKind.i64.wrap ((l0.length : Int) - 1)) = ji16 := (i64_w _).trans hji16
     by_cases c17 : 0 ≤ (ji16)
     ·
      rw [if_pos c17] at H
      have c17b0 : decide (0 ≤ (ji16)) = true := decide_eq_true c17
      clear c17
      by_cases c18 : (ji16) < (l0.length : Int)
      ·
       rw [if_pos c18] at H
       have c18b0 : decide ((ji16) < (l0.length : Int)) = true := decide_eq_true c18
       clear c18
       have H' := Aside0.mk H
       clear H
       have p157 : 0 ≤ ((ji16) : Int) := of_decide_eq_true (by first | (with_reducible assumption) | assumption)
       have q157 : (ji16) < (l0.length : Int) := of_decide_eq_true (by first | (with_reducible assumption) | assumption)
       obtain ⟨ad157, e157, hx157_0, hx157_1⟩ := at_T42 HR0.out (ji16) p157 q157
       cases e157
       replace hx157_0 := (HB.out.cell (World.block_lt_of_cell? w _ hx157_0)).trans hx157_0
       replace hx157_1 := (HB.out.cell (World.block_lt_of_cell? w _ hx157_1)).trans hx157_1
       replace p157 := eq_true p157
       replace q157 := eq_true q157
       go_wp2
       go_meet
       case rel => exact ⟨_, (decide ((wrap64 (((rd_T42 l0 (ji16)).f0) + a4)) > 1073741824)), (by first | rfl | (simp; done) | (simp only [← hji16] <;> (first | rfl | simp)) | (simp [*]; done)), H', ⟨by first | omega | exact Nat.le_refl _⟩, ⟨by (with_reducible repeat (first | apply Kd.R_alloc | apply Kd.R_drewN | apply Kd.R_drew)); exact Kd.R_mono HO155.out (fun _ hk => (by simp [Value.ownBlock]))⟩, ⟨by first | exact Kd.R_nil _ _ _ _ _ | exact Kd.N_nil _ _ _ _ _ | exact Kd.V_nil _ _ _ _ _ | exact Kd.Q_nil _ _ _ _ _ | exact Kd.S_nil _ _ _ _ _⟩, ⟨by repeat (first | (with_reducible first | exact HB.out | apply below_alloc | apply pw_below_drewN | apply below_drew1) | exact HB.out)⟩⟩
      ·
       rw [if_neg c18] at H
       exact absurd H (by simp)
     ·
      rw [if_neg c17] at H
      exact absurd H (by simp)
  ·
   rw [if_neg c13] at H
   have c13b0 : (t156 == 0) = false := beq_eq_false_iff_ne.mpr c13
   have c13b1 : (t156 != 0) = true := bne_iff_ne.mpr c13
   (first | rw [c13b0] | (simp only [i64_w, i32_w]; rw [c13b0]) | skip)
   have H' := Aside0.mk H
   clear H
   go_wp2
   go_meet
   case rel => exact ⟨_, (false), (by first | rfl | (simp; done) | (simp [*]; done)), H', ⟨by first | omega | exact Nat.le_refl _⟩, ⟨by (with_reducible repeat (first | apply Kd.R_alloc | apply Kd.R_drewN | apply Kd.R_drew)); exact Kd.R_mono HO155.out (fun _ hk => (by simp [Value.ownBlock]))⟩, ⟨by first | exact Kd.R_nil _ _ _ _ _ | exact Kd.N_nil _ _ _ _ _ | exact Kd.V_nil _ _ _ _ _ | exact Kd.Q_nil _ _ _ _ _ | exact Kd.S_nil _ _ _ _ _⟩, ⟨by repeat (first | (with_reducible first | exact HB.out | apply below_alloc | apply pw_below_drewN | apply below_drew1) | exact HB.out)⟩⟩
 case rest =>
  clear HC9
  (try clear c1); (try clear p1); (try clear q1); (try clear hx1); (try clear c2); (try clear p2); (try clear p6); (try clear c9); (try clear c13); (try clear c13b0); (try clear c13b1); (try clear c14); (try clear c14b0); (try clear c15); (try clear c15b0); (try clear p15); (try clear q15); (try clear hx15); (try clear c17); (try clear c17b0); (try clear c18); (try clear c18b0); (try clear hx157_0); (try clear hx157_1); (try clear p157); (try clear q157)
  obtain ⟨kq, x61_8, rfl, HA, HJ8, HO_13, HO_17, HB⟩ := hcut
  cases kq with
  | zero => exact absurd HA.out (by simp [terrlaw4_CostLeaves.j0])
  | succ kj8 =>
   have H := HA.out
   clear HA
   simp only [terrlaw4_CostLeaves.j0] at H
   have HC19 := Aside0.mk H
   clear H
   go_upto_if 61 with (fail)
   go_cut [16] (fun v16 wc => ∃ (kq : Nat) (x16_18 : Int), v16 = .int .i64 x16_18 ∧ Aside0 (terrlaw4_CostLeaves.j1 kq l0 a1 a2 a3 a4 t150 t151 t152 t153 t156 x16_18 ([] : List (S42)) = some r) ∧ Aside0 (kq ≤ kj8) ∧ Aside0 (Kd.R k42 42 wc w.heap.size (fun k_ => some k_ ≠ ((.slice none 0 0) : Value).ownBlock) v154 t152) ∧ Aside0 (Kd.R k42 42 wc w.heap.size (fun k_ => some k_ ≠ (v154 : Value).ownBlock) (.slice none 0 0) ([] : List (S42))) ∧ Aside0 (Below w.heap.size w wc))
   case first =>
    have H := HC19.out
    clear HC19
    by_cases c20 : x61_8 = true
    ·
     subst c20
     have H1 : (terrlaw4_CostLeaves.j1 kj8 l0 a1 a2 a3 a4 t150 t151 t152 t153 t156 1 ([] : List (S42))) = some r := by rw [if_pos rfl] at H; exact H
     clear H
     have H := H1
     clear H1
     have H' := Aside0.mk H
     clear H
     go_wp2
     go_meet
     case rel => exact ⟨_, (1), (by first | rfl | (simp; done) | (simp [*]; done)), H', ⟨by have := HJ8.out; first | omega | exact Nat.le_refl _⟩, ⟨by (with_reducible repeat (first | apply Kd.R_alloc | apply Kd.R_drewN | apply Kd.R_drew)); exact HO_13.out⟩, ⟨by (with_reducible repeat (first | apply Kd.R_alloc | apply Kd.R_drewN | apply Kd.R_drew)); exact HO_17.out⟩, ⟨by repeat (first | (with_reducible first | exact HB.out | apply below_alloc | apply pw_below_drewN | apply below_drew1) | exact HB.out)⟩⟩
    ·
     replace c20 := Bool.eq_false_iff.mpr c20
     subst c20
     have H1 : (terrlaw4_CostLeaves.j1 kj8 l0 a1 a2 a3 a4 t150 t151 t152 t153 t156 t156 ([] : List (S42))) = some r := by rw [if_neg (show ¬ (false = true) by decide)] at H; exact H
     clear H
     have H := H1
     clear H1
     have H' := Aside0.mk H
     clear H
     go_wp2
     go_meet
     case rel => exact ⟨_, (t156), (by first | rfl | (simp; done) | (simp [*]; done)), H', ⟨by have := HJ8.out; first | omega | exact Nat.le_refl _⟩, ⟨by (with_reducible repeat (first | apply Kd.R_alloc | apply Kd.R_drewN | apply Kd.R_drew)); exact HO_13.out⟩, ⟨by (with_reducible repeat (first | apply Kd.R_alloc | apply Kd.R_drewN | apply Kd.R_drew)); exact HO_17.out⟩, ⟨by repeat (first | (with_reducible first | exact HB.out | apply below_alloc | apply pw_below_drewN | apply below_drew1) | exact HB.out)⟩⟩
   case rest =>
    clear HC19
    (try clear c1); (try clear p1); (try clear q1); (try clear hx1); (try clear c2); (try clear p2); (try clear p6); (try clear c9); (try clear c13); (try clear c13b0); (try clear c13b1); (try clear c14); (try clear c14b0); (try clear c15); (try clear c15b0); (try clear p15); (try clear q15); (try clear hx15); (try clear c17); (try clear c17b0); (try clear c18); (try clear c18b0); (try clear c20); (try clear hx157_0); (try clear hx157_1); (try clear p1); (try clear p15); (try clear p157); (try clear p2); (try clear p6); (try clear q1); (try clear q15); (try clear q157)
    obtain ⟨kq, x16_18, rfl, HA, HJ18, HO_13, HO_17, HB⟩ := hcut
    cases kq with
    | zero => exact absurd HA.out (by simp [terrlaw4_CostLeaves.j1])
    | succ kj18 =>
     have H := HA.out
     clear HA
     simp only [terrlaw4_CostLeaves.j1] at H
     have H' := Aside0.mk H
     clear H
     go_wp2
     go_loopg [17, 64] kj18 (fun kq v17 v64 w' => ∃ (x17_3 : List (S42)) (x64_3 : Int), v64 = .int .i64 x64_3 ∧ Aside0 (terrlaw4_CostLeaves.l0 kq l0 a1 a2 a3 a4 t150 t151 t152 t153 t156 x16_18 x17_3 l0 (l0.length : Int) x64_3 = some r) ∧ Aside0 (kq ≤ kj18) ∧ Aside0 (Kd.R k42 42 w' w.heap.size (fun k_ => some k_ ≠ (v17 : Value).ownBlock) v154 t152) ∧ Aside0 (Kd.R k42 42 w' w.heap.size (fun k_ => some k_ ≠ (v154 : Value).ownBlock) v17 x17_3) ∧ Aside0 (Below w.heap.size w w'))
     case atStart => exact ⟨(([] : List (S42))), (0), (by first | rfl | (simp; done) | (simp [*]; done)), H', ⟨Nat.le_refl _⟩, ⟨by (with_reducible repeat (first | apply Kd.R_alloc | apply Kd.R_drewN | apply Kd.R_drew)); exact HO_13.out⟩, ⟨by (with_reducible repeat (first | apply Kd.R_alloc | apply Kd.R_drewN | apply Kd.R_drew)); exact HO_17.out⟩, ⟨by repeat (first | (with_reducible first | exact HB.out | apply below_alloc | apply pw_below_drewN | apply below_drew1) | exact HB.out)⟩⟩
     case round =>
      clear H'
      (try clear c1); (try clear p1); (try clear q1); (try clear hx1); (try clear c2); (try clear p2); (try clear p6); (try clear c9); (try clear c13); (try clear c13b0); (try clear c13b1); (try clear c14); (try clear c14b0); (try clear c15); (try clear c15b0); (try clear p15); (try clear q15); (try clear hx15); (try clear c17); (try clear c17b0); (try clear c18); (try clear c18b0); (try clear c20); (try clear hx157_0); (try clear hx157_1); (try clear p1); (try clear p15); (try clear p157); (try clear p2); (try clear p6); (try clear q1); (try clear q15); (try clear q157)
      obtain ⟨x17_3, x64_3, rfl, HA, HK3, HO_13, HO_17, HB⟩ := hrel
      cases gk with
      | zero => exact absurd HA.out (by simp [terrlaw4_CostLeaves.l0])
      | succ k3 =>
       have H := HA.out
       clear HA
       simp only [terrlaw4_CostLeaves.l0] at H
       by_cases c21 : x64_3 < (l0.length : Int)
       ·
        rw [if_pos c21] at H
        have c21b0 : decide (x64_3 < (l0.length : Int)) = true := decide_eq_true c21
        clear c21
        by_cases c22 : 0 ≤ x64_3
        ·
         rw [if_pos c22] at H
         have c22b0 : decide (0 ≤ x64_3) = true := decide_eq_true c22
         clear c22
         by_cases c23 : x64_3 < (l0.length : Int)
         ·
          rw [if_pos c23] at H
          have c23b0 : decide (x64_3 < (l0.length : Int)) = true := decide_eq_true c23
          clear c23
          by_cases c24 : x16_18 = 0
          ·
           rw [if_pos c24] at H
           have c24b0 : (x16_18 == 0) = true := beq_iff_eq.mpr c24
           have c24b1 : (x16_18 != 0) = false := bne_eq_false_iff_eq.mpr c24
           clear c24
           by_cases c25 : x17_3.length < 8796093022208
           ·
            rw [if_pos c25] at H
            have LMc25 := Aside0.mk c25
            clear c25
            obtain ⟨y160, hy160⟩ : ∃ y_ : List (S42), y_ = (x17_3 ++ [(⟨wrap64 (((rd_T42 l0 x64_3).f0) + a4), (rd_T42 l0 x64_3).f1⟩ : S42)]) := ⟨_, rfl⟩
            replace H : (terrlaw4_CostLeaves.l0 k3 l0 a1 a2 a3 a4 t150 t151 t152 t153 t156 x16_18 y160 l0 (l0.length : Int) (wrap64 (x64_3 + 1))) = some r := by first | (rw [hy160]; with_reducible exact H) | (have H2_ := (Option.bind_some _ _).symm.trans H; rw [hy160]; with_reducible exact H2_) | (have H2_ := (Option.bind_some _ _).symm.trans H; with_reducible exact H2_) | with_reducible exact H | (rw [hy160]; exact H) | exact H
            have Ny160 := Aside0.mk hy160
            clear hy160
            have H' := Aside0.mk H
            clear H
            have p158 : 0 ≤ (x64_3 : Int) := of_decide_eq_true (by first | (with_reducible assumption) | assumption)
            have q158 : x64_3 < (l0.length : Int) := of_decide_eq_true (by first | (with_reducible assumption) | assumption)
            obtain ⟨ad158, e158, hx158_0, hx158_1⟩ := at_T42 HR0.out x64_3 p158 q158
            cases e158
            replace hx158_0 := (HB.out.cell (World.block_lt_of_cell? w _ hx158_0)).trans hx158_0
            replace hx158_1 := (HB.out.cell (World.block_lt_of_cell? w _ hx158_1)).trans hx158_1
            replace p158 := eq_true p158
            replace q158 := eq_true q158
            go_wp2_with (first | ((with_reducible refine gate_dst (N := 19) rfl ?_); (try (refine gate_guard (by rfl) ?_; dsimp only)); refine box_event ?hg (N := 19) ?hd (cs := #[.int .i64 0, .int .i64 0]) (t := 42) ?hr ?_; (case hd => rfl); (case hg => rfl); (case hr => first | (go_simp; done) | (go_simp; rfl)); intro gb159 hg w26 hbox hb; have n0_ := Aside0.mk (Kd.R_below (Kd.R_elderB (by (with_reducible repeat (first | apply Kd.R_alloc | apply Kd.R_drewN | apply Kd.R_drew)); exact HO_13.out) gb159 (Nat.le_of_eq hg.symm)) hb); have n1_ := Aside0.mk (Kd.R_below (Kd.R_elderB (by (with_reducible repeat (first | apply Kd.R_alloc | apply Kd.R_drewN | apply Kd.R_drew)); exact HO_17.out) gb159 (Nat.le_of_eq hg.symm)) hb); have n2_ := Aside0.mk (below_step (by repeat (first | (with_reducible first | exact HB.out | apply below_alloc | apply pw_below_drewN | apply below_drew1) | exact HB.out)) hb); have n3_ := Aside0.mk (hbox); have n4_ := Aside0.mk ((by rw [hg]; exact (below_size (by repeat (first | (with_reducible first | exact HB.out | apply below_alloc | apply pw_below_drewN | apply below_drew1) | exact HB.out))) : w.heap.size ≤ gb159)); have n5_ := Aside0.mk ((by rw [hg]; exact (below_size (by repeat (first | (with_reducible first | exact HB.out | apply below_alloc | apply pw_below_drewN | apply below_drew1) | exact HB.out))) : w.heap.size ≤ gb159)); clear HO_13; clear HO_17; clear HB; have HO_13 := n0_; have HO_17 := n1_; have HB := n2_; have BK159 := n3_; have GW159 := n4_; have GE159 := n5_; clear n0_ n1_ n2_ n3_ n4_ n5_; clear hb hbox hg; have hcz27_0 : w26.cell? ⟨gb159, 0, none⟩ = some (.int .i64 0) := (blk_cell BK159.out 0).trans rfl; have hcz27_1 : w26.cell? ⟨gb159, 1, none⟩ = some (.int .i64 0) := (blk_cell BK159.out 1).trans rfl; have hfz27_0 := blk_frozen BK159.out 0; have hfz27_1 := blk_frozen BK159.out 1) | ((with_reducible refine gate_builtin (b := .append) (xs := #[.tmp 70, .tmp 78]) rfl ?_); (try (refine gate_guard (by rfl) ?_; dsimp only)); at_builtin; refine Kd.R_append k42 (w0 := w) w.heap.size rfl (.tmp 70) (.tmp 78) 24 42 (.agg #[(.int .i64 0), (.int .i64 0)]) 16 rfl Try.underlying24 info42 rfl (by decide) (by omega) u17 x17_3 (⟨wrap64 (((rd_T42 l0 x64_3).f0) + a4), (rd_T42 l0 x64_3).f1⟩ : S42) [.int .i64 (wrap64 (((rd_T42 l0 x64_3).f0) + a4)), .int .i64 ((rd_T42 l0 x64_3).f1)] (fun k_ => some k_ ≠ (v154 : Value).ownBlock ∧ k_ ≠ gb159) (fun _ => False) rfl (by first | (go_simp; done) | (go_simp; rfl)) ?aP (fun _ hk => hk.elim) ?aF ?aO ?aB ?aS ?aL ?_; (case aP => exact k42_mkM _ _ _ (⟨wrap64 (((rd_T42 l0 x64_3).f0) + a4), (rd_T42 l0 x64_3).f1⟩ : S42)); (case aB => exact (by repeat (first | (with_reducible first | exact HB.out | apply below_alloc | apply pw_below_drewN | apply below_drew1 | refine below_set ?_ GE159.out) | exact HB.out))); (case aF => exact (fun k_ hk => ⟨Kd.fresh' (Kd.R_lt (by (with_reducible repeat (first | apply Kd.R_alloc | apply Kd.R_drewN | apply Kd.R_drew)); exact (Kd.R_mono (Kd.R_far (p := ⟨gb159, 1, none⟩) (Kd.R_far (p := ⟨gb159, 0, none⟩) (Kd.R_mono HO_13.out (fun k_ hk => (⟨hk, hk.2⟩ : _ ∧ k_ ≠ gb159))) (fun _ hk => hk.2) (.int .i64 ((rd_T42 l0 x64_3).f0))) (fun _ hk => hk.2) (.int .i64 ((rd_T42 l0 x64_3).f1))) (fun _ h_ => h_.1)))) k_ hk, Kd.freshB (g := gb159) (o := .cells #[.int .i64 ((rd_T42 l0 x64_3).f0), .int .i64 ((rd_T42 l0 x64_3).f1)] 42 (0, 0)) (by (with_reducible repeat (first | refine blk_drewN ?_ _ | refine blk_drew ?_ | refine blk_alloc ?_ _)); refine blk_put (cs := #[.int .i64 ((rd_T42 l0 x64_3).f0), .int .i64 0]) ?_ 1 _ rfl; (with_reducible repeat (first | refine blk_drewN ?_ _ | refine blk_drew ?_ | refine blk_alloc ?_ _)); refine blk_put (cs := #[.int .i64 0, .int .i64 0]) ?_ 0 _ rfl; (with_reducible repeat (first | refine blk_drewN ?_ _ | refine blk_drew ?_ | refine blk_alloc ?_ _)); exact BK159.out) k_ hk⟩)); (case aO => exact (by (with_reducible repeat (first | apply Kd.R_alloc | apply Kd.R_drewN | apply Kd.R_drew)); exact Kd.R_mono (Kd.R_far (p := ⟨gb159, 1, none⟩) (Kd.R_far (p := ⟨gb159, 0, none⟩) (Kd.R_mono HO_17.out (fun k_ hk => (⟨hk, hk.2⟩ : _ ∧ k_ ≠ gb159))) (fun _ hk => hk.2) (.int .i64 ((rd_T42 l0 x64_3).f0))) (fun _ hk => hk.2) (.int .i64 ((rd_T42 l0 x64_3).f1))) (fun _ hk => ⟨hk.1.1, hk.1.2⟩))); (case aS => exact (below_size (by repeat (first | (with_reducible first | exact HB.out | apply below_alloc | apply pw_below_drewN | apply below_drew1 | refine below_set ?_ GE159.out) | exact HB.out)))); (case aL => have := LMc25.out; omega); intro v161 w28 ho hb hg hat; rw [← Ny160.out] at ho; have n0_ := Aside0.mk (Kd.R_after (ok := (fun k_ => k_ ≠ gb159)) (by (with_reducible repeat (first | apply Kd.R_alloc | apply Kd.R_drewN | apply Kd.R_drew)); exact Kd.R_mono (Kd.R_far (p := ⟨gb159, 1, none⟩) (Kd.R_far (p := ⟨gb159, 0, none⟩) (Kd.R_mono HO_13.out (fun k_ hk => (⟨hk, hk.2⟩ : _ ∧ k_ ≠ gb159))) (fun _ hk => hk.2) (.int .i64 ((rd_T42 l0 x64_3).f0))) (fun _ hk => hk.2) (.int .i64 ((rd_T42 l0 x64_3).f1))) (fun _ hk => ⟨hk.1.2, hk.1.1⟩)) hg hat); have n1_ := Aside0.mk (blk_grown (g := gb159) (o := .cells #[.int .i64 ((rd_T42 l0 x64_3).f0), .int .i64 ((rd_T42 l0 x64_3).f1)] 42 (0, 0)) (by (with_reducible repeat (first | refine blk_drewN ?_ _ | refine blk_drew ?_ | refine blk_alloc ?_ _)); refine blk_put (cs := #[.int .i64 ((rd_T42 l0 x64_3).f0), .int .i64 0]) ?_ 1 _ rfl; (with_reducible repeat (first | refine blk_drewN ?_ _ | refine blk_drew ?_ | refine blk_alloc ?_ _)); refine blk_put (cs := #[.int .i64 0, .int .i64 0]) ?_ 0 _ rfl; (with_reducible repeat (first | refine blk_drewN ?_ _ | refine blk_drew ?_ | refine blk_alloc ?_ _)); exact BK159.out) hg (Kd.R_away HO_17.out (fun _ hk => hk.2))); have n2_ := Aside0.mk (hb); have n3_ := Aside0.mk (ho); clear HO_13; clear BK159; clear HB; clear HO_17; have HO_13 := n0_; have BK159 := n1_; have HB := n2_; have HO162 := n3_; clear n0_ n1_ n2_ n3_; clear ho hb hg hat))
            go_roundg k3
            case measure => have := HJ8.out; have := HJ18.out; have := HK3.out; omega
            case rel => exact ⟨(y160), (wrap64 (x64_3 + 1)), (by first | rfl | (simp; done) | (simp [*]; done)), H', ⟨by have := HJ8.out; have := HJ18.out; have := HK3.out; omega⟩, ⟨by (with_reducible repeat (first | apply Kd.R_alloc | apply Kd.R_drewN | apply Kd.R_drew)); exact Kd.R_mono HO_13.out (fun _ hk => hk.2)⟩, ⟨by (with_reducible repeat (first | apply Kd.R_alloc | apply Kd.R_drewN | apply Kd.R_drew)); exact Kd.R_mono HO162.out (fun _ hk => hk.1)⟩, ⟨by repeat (first | (with_reducible first | exact HB.out | apply below_alloc | apply pw_below_drewN | apply below_drew1 | refine below_set ?_ GE159.out) | exact HB.out)⟩⟩
           ·
            rw [if_neg c25] at H
            exact absurd H (by simp)
          ·
           rw [if_neg c24] at H
           have c24b0 : (x16_18 == 0) = false := beq_eq_false_iff_ne.mpr c24
           have c24b1 : (x16_18 != 0) = true := bne_iff_ne.mpr c24
           have H' := Aside0.mk H
           clear H
           have p158 : 0 ≤ (x64_3 : Int) := of_decide_eq_true (by first | (with_reducible assumption) | assumption)
           have q158 : x64_3 < (l0.length : Int) := of_decide_eq_true (by first | (with_reducible assumption) | assumption)
           obtain ⟨ad158, e158, hx158_0, hx158_1⟩ := at_T42 HR0.out x64_3 p158 q158
           cases e158
           replace hx158_0 := (HB.out.cell (World.block_lt_of_cell? w _ hx158_0)).trans hx158_0
           replace hx158_1 := (HB.out.cell (World.block_lt_of_cell? w _ hx158_1)).trans hx158_1
           replace p158 := eq_true p158
           replace q158 := eq_true q158
           go_wp2_with (first | ((with_reducible refine gate_dst (N := 19) rfl ?_); (try (refine gate_guard (by rfl) ?_; dsimp only)); refine box_event ?hg (N := 19) ?hd (cs := #[.int .i64 0, .int .i64 0]) (t := 42) ?hr ?_; (case hd => rfl); (case hg => rfl); (case hr => first | (go_simp; done) | (go_simp; rfl)); intro gb159 hg w29 hbox hb; have n0_ := Aside0.mk (Kd.R_below (Kd.R_elderB (by (with_reducible repeat (first | apply Kd.R_alloc | apply Kd.R_drewN | apply Kd.R_drew)); exact HO_13.out) gb159 (Nat.le_of_eq hg.symm)) hb); have n1_ := Aside0.mk (Kd.R_below (Kd.R_elderB (by (with_reducible repeat (first | apply Kd.R_alloc | apply Kd.R_drewN | apply Kd.R_drew)); exact HO_17.out) gb159 (Nat.le_of_eq hg.symm)) hb); have n2_ := Aside0.mk (below_step (by repeat (first | (with_reducible first | exact HB.out | apply below_alloc | apply pw_below_drewN | apply below_drew1) | exact HB.out)) hb); have n3_ := Aside0.mk (hbox); have n4_ := Aside0.mk ((by rw [hg]; exact (below_size (by repeat (first | (with_reducible first | exact HB.out | apply below_alloc | apply pw_below_drewN | apply below_drew1) | exact HB.out))) : w.heap.size ≤ gb159)); have n5_ := Aside0.mk ((by rw [hg]; exact (below_size (by repeat (first | (with_reducible first | exact HB.out | apply below_alloc | apply pw_below_drewN | apply below_drew1) | exact HB.out))) : w.heap.size ≤ gb159)); clear HO_13; clear HO_17; clear HB; have HO_13 := n0_; have HO_17 := n1_; have HB := n2_; have BK159 := n3_; have GW159 := n4_; have GE159 := n5_; clear n0_ n1_ n2_ n3_ n4_ n5_; clear hb hbox hg; have hcz30_0 : w29.cell? ⟨gb159, 0, none⟩ = some (.int .i64 0) := (blk_cell BK159.out 0).trans rfl; have hcz30_1 : w29.cell? ⟨gb159, 1, none⟩ = some (.int .i64 0) := (blk_cell BK159.out 1).trans rfl; have hfz30_0 := blk_frozen BK159.out 0; have hfz30_1 := blk_frozen BK159.out 1))
           go_roundg k3
           case measure => have := HJ8.out; have := HJ18.out; have := HK3.out; omega
           case rel => exact ⟨(x17_3), (wrap64 (x64_3 + 1)), (by first | rfl | (simp; done) | (simp [*]; done)), H', ⟨by have := HJ8.out; have := HJ18.out; have := HK3.out; omega⟩, ⟨by (with_reducible repeat (first | apply Kd.R_alloc | apply Kd.R_drewN | apply Kd.R_drew)); exact Kd.R_mono (Kd.R_far (p := ⟨gb159, 1, none⟩) (Kd.R_far (p := ⟨gb159, 0, none⟩) (Kd.R_mono HO_13.out (fun k_ hk => (⟨hk, hk.2⟩ : _ ∧ k_ ≠ gb159))) (fun _ hk => hk.2) (.int .i64 ((rd_T42 l0 x64_3).f0))) (fun _ hk => hk.2) (.int .i64 ((rd_T42 l0 x64_3).f1))) (fun _ hk => hk.1.1)⟩, ⟨by (with_reducible repeat (first | apply Kd.R_alloc | apply Kd.R_drewN | apply Kd.R_drew)); exact Kd.R_mono (Kd.R_far (p := ⟨gb159, 1, none⟩) (Kd.R_far (p := ⟨gb159, 0, none⟩) (Kd.R_mono HO_17.out (fun k_ hk => (⟨hk, hk.2⟩ : _ ∧ k_ ≠ gb159))) (fun _ hk => hk.2) (.int .i64 ((rd_T42 l0 x64_3).f0))) (fun _ hk => hk.2) (.int .i64 ((rd_T42 l0 x64_3).f1))) (fun _ hk => hk.1.1)⟩, ⟨by repeat (first | (with_reducible first | exact HB.out | apply below_alloc | apply pw_below_drewN | apply below_drew1 | refine below_set ?_ GE159.out) | exact HB.out)⟩⟩
         ·
          rw [if_neg c23] at H
          exact absurd H (by simp)
        ·
         rw [if_neg c22] at H
         exact absurd H (by simp)
       ·
        rw [if_neg c21] at H
        have c21b0 : decide (x64_3 < (l0.length : Int)) = false := decide_eq_false c21
        clear c21
        have HC31 := Aside0.mk H
        clear H
        go_upto_region 14 with (fail)
        go_cut [93] (fun v93 wc => ∃ (kq : Nat) (x93_30 : Bool), v93 = .bool x93_30 ∧ Aside0 (terrlaw4_CostLeaves.j3 kq l0 a1 a2 a3 t150 t151 t156 x93_30 = some r) ∧ Aside0 (kq ≤ k3) ∧ Aside0 (Below w.heap.size w wc))
        case first =>
         have H := HC31.out
         clear HC31
         replace H := Option.bind_eq_some_iff.mp H
         obtain ⟨t163, A320, H⟩ := H
         replace H : (if t163 = true then (if t153 = x16_18 then ((cost_Step_27.f k3 t152 x17_3).bind fun t164 => (terrlaw4_CostLeaves.j3 k3 l0 a1 a2 a3 t150 t151 t156 (!t164))) else (terrlaw4_CostLeaves.j3 k3 l0 a1 a2 a3 t150 t151 t156 true)) else (terrlaw4_CostLeaves.j3 k3 l0 a1 a2 a3 t150 t151 t156 true)) = some r := H
         have A32 := Aside0.mk A320
         clear A320
         by_cases c33 : t163 = true
         ·
          subst c33
          have H1 : (if t153 = x16_18 then ((cost_Step_27.f k3 t152 x17_3).bind fun t164 => (terrlaw4_CostLeaves.j3 k3 l0 a1 a2 a3 t150 t151 t156 (!t164))) else (terrlaw4_CostLeaves.j3 k3 l0 a1 a2 a3 t150 t151 t156 true)) = some r := by rw [if_pos rfl] at H; exact H
          clear H
          have H := H1
          clear H1
          by_cases c34 : t153 = x16_18
          ·
           rw [if_pos c34] at H
           have c34b0 : (t153 == x16_18) = true := beq_iff_eq.mpr c34
           have c34b1 : (t153 != x16_18) = false := bne_eq_false_iff_eq.mpr c34
           clear c34
           (first | rw [c34b0] | (simp only [i64_w, i32_w]; rw [c34b0]) | skip)
           replace H := Option.bind_eq_some_iff.mp H
           obtain ⟨t164, A350, H⟩ := H
           replace H : (terrlaw4_CostLeaves.j3 k3 l0 a1 a2 a3 t150 t151 t156 (!t164)) = some r := H
           have A35 := Aside0.mk A350
           clear A350
           have H' := Aside0.mk H
           clear H
           go_wp2_with (first | ((with_reducible refine gate_callee (f := 25) rfl ?_); refine goesL_ (some 81) rfl rfl Try.func25 (by kernel_rfl) rfl #[] rfl (by (try simp only [List.map_toArray, List.map_cons, List.map_nil]); first | done | rfl | (simp only [List.length_drop, List.length_take]; rfl)) ?_; (with_reducible refine (terrlaw4_costed.calls k3  true _ A32.out).mono ?_); rintro e w36 ⟨rfl, hb⟩; refine ⟨_, rfl, ?_⟩; have n0_ := Aside0.mk (Kd.R_below (by (with_reducible repeat (first | apply Kd.R_alloc | apply Kd.R_drewN | apply Kd.R_drew)); exact HO_13.out) hb); have n1_ := Aside0.mk (Kd.R_below (by (with_reducible repeat (first | apply Kd.R_alloc | apply Kd.R_drewN | apply Kd.R_drew)); exact HO_17.out) hb); have n2_ := Aside0.mk (below_step (by repeat (first | (with_reducible first | exact HB.out | apply below_alloc | apply pw_below_drewN | apply below_drew1) | exact HB.out)) hb); clear HO_13; clear HO_17; clear HB; have HO_13 := n0_; have HO_17 := n1_; have HB := n2_; clear n0_ n1_ n2_; (try clear hb); (try clear hb2); (try clear hk); (try clear hi); obtain ⟨Ao37, co37, eo37⟩ := Kd.R_slice HO_13.out; subst eo37; obtain ⟨Ao38, co38, eo38⟩ := Kd.R_slice HO_17.out; subst eo38) | (go_at_call 27; (with_reducible refine (cost_Step_27.calls k3 _ _ t152 _ _ x17_3 t164 _ ?side1 ?side2 ?side3 ?side4 A35.out).mono ?_); (case side1 => repeat (first | exact (Kd.R_reads' HO_13.out).2.2 | (with_reducible refine Kd.C_alloc ?_ _) | (with_reducible refine Kd.C_drewN ?_ _) | (with_reducible refine Kd.C_drew ?_))); (case side2 => exact (Kd.R_reads' HO_13.out).2.1); (case side3 => repeat (first | exact (Kd.R_reads' HO_17.out).2.2 | (with_reducible refine Kd.C_alloc ?_ _) | (with_reducible refine Kd.C_drewN ?_ _) | (with_reducible refine Kd.C_drew ?_))); (case side4 => exact (Kd.R_reads' HO_17.out).2.1); rintro e w' ⟨rfl, ⟨nd, rfl⟩⟩))
           go_meet
           case rel => exact ⟨_, (!t164), (by first | rfl | (simp; done) | (simp [*]; done)), H', ⟨by have := HJ8.out; have := HJ18.out; have := HK3.out; first | omega | exact Nat.le_refl _⟩, ⟨by repeat (first | (with_reducible first | exact HB.out | apply below_alloc | apply pw_below_drewN | apply below_drew1) | exact HB.out)⟩⟩
          ·
           rw [if_neg c34] at H
           have c34b0 : (t153 == x16_18) = false := beq_eq_false_iff_ne.mpr c34
           have c34b1 : (t153 != x16_18) = true := bne_iff_ne.mpr c34
           (first | rw [c34b0] | (simp only [i64_w, i32_w]; rw [c34b0]) | skip)
           have H' := Aside0.mk H
           clear H
           go_wp2_with (first | ((with_reducible refine gate_callee (f := 25) rfl ?_); refine goesL_ (some 81) rfl rfl Try.func25 (by kernel_rfl) rfl #[] rfl (by (try simp only [List.map_toArray, List.map_cons, List.map_nil]); first | done | rfl | (simp only [List.length_drop, List.length_take]; rfl)) ?_; (with_reducible refine (terrlaw4_costed.calls k3  true _ A32.out).mono ?_); rintro e w39 ⟨rfl, hb⟩; refine ⟨_, rfl, ?_⟩; have n0_ := Aside0.mk (Kd.R_below (by (with_reducible repeat (first | apply Kd.R_alloc | apply Kd.R_drewN | apply Kd.R_drew)); exact HO_13.out) hb); have n1_ := Aside0.mk (Kd.R_below (by (with_reducible repeat (first | apply Kd.R_alloc | apply Kd.R_drewN | apply Kd.R_drew)); exact HO_17.out) hb); have n2_ := Aside0.mk (below_step (by repeat (first | (with_reducible first | exact HB.out | apply below_alloc | apply pw_below_drewN | apply below_drew1) | exact HB.out)) hb); clear HO_13; clear HO_17; clear HB; have HO_13 := n0_; have HO_17 := n1_; have HB := n2_; clear n0_ n1_ n2_; (try clear hb); (try clear hb2); (try clear hk); (try clear hi)))
           go_meet
           case rel => exact ⟨_, (true), (by first | rfl | (simp; done) | (simp [*]; done)), H', ⟨by have := HJ8.out; have := HJ18.out; have := HK3.out; first | omega | exact Nat.le_refl _⟩, ⟨by repeat (first | (with_reducible first | exact HB.out | apply below_alloc | apply pw_below_drewN | apply below_drew1) | exact HB.out)⟩⟩
         ·
          replace c33 := Bool.eq_false_iff.mpr c33
          subst c33
          have H1 : (terrlaw4_CostLeaves.j3 k3 l0 a1 a2 a3 t150 t151 t156 true) = some r := by rw [if_neg (show ¬ (false = true) by decide)] at H; exact H
          clear H
          have H := H1
          clear H1
          have H' := Aside0.mk H
          clear H
          go_wp2_with (first | ((with_reducible refine gate_callee (f := 25) rfl ?_); refine goesL_ (some 81) rfl rfl Try.func25 (by kernel_rfl) rfl #[] rfl (by (try simp only [List.map_toArray, List.map_cons, List.map_nil]); first | done | rfl | (simp only [List.length_drop, List.length_take]; rfl)) ?_; (with_reducible refine (terrlaw4_costed.calls k3  false _ A32.out).mono ?_); rintro e w40 ⟨rfl, hb⟩; refine ⟨_, rfl, ?_⟩; have n0_ := Aside0.mk (Kd.R_below (by (with_reducible repeat (first | apply Kd.R_alloc | apply Kd.R_drewN | apply Kd.R_drew)); exact HO_13.out) hb); have n1_ := Aside0.mk (Kd.R_below (by (with_reducible repeat (first | apply Kd.R_alloc | apply Kd.R_drewN | apply Kd.R_drew)); exact HO_17.out) hb); have n2_ := Aside0.mk (below_step (by repeat (first | (with_reducible first | exact HB.out | apply below_alloc | apply pw_below_drewN | apply below_drew1) | exact HB.out)) hb); clear HO_13; clear HO_17; clear HB; have HO_13 := n0_; have HO_17 := n1_; have HB := n2_; clear n0_ n1_ n2_; (try clear hb); (try clear hb2); (try clear hk); (try clear hi)))
          go_meet
          case rel => exact ⟨_, (true), (by first | rfl | (simp; done) | (simp [*]; done)), H', ⟨by have := HJ8.out; have := HJ18.out; have := HK3.out; first | omega | exact Nat.le_refl _⟩, ⟨by repeat (first | (with_reducible first | exact HB.out | apply below_alloc | apply pw_below_drewN | apply below_drew1) | exact HB.out)⟩⟩
        case rest =>
         clear HC31
         (try clear c1); (try clear p1); (try clear q1); (try clear hx1); (try clear c2); (try clear p2); (try clear c3); (try clear p6); (try clear c9); (try clear c13); (try clear c13b0); (try clear c13b1); (try clear c14); (try clear c14b0); (try clear c15); (try clear c15b0); (try clear p15); (try clear q15); (try clear hx15); (try clear c17); (try clear c17b0); (try clear c18); (try clear c18b0); (try clear c20); (try clear c21); (try clear c21b0); (try clear c22); (try clear c22b0); (try clear c23); (try clear c23b0); (try clear c24); (try clear c24b0); (try clear c24b1); (try clear c25); (try clear c33); (try clear c34); (try clear c34b0); (try clear c34b1); (try clear hcz27_0); (try clear hcz27_1); (try clear hcz30_0); (try clear hcz30_1); (try clear hfz27_0); (try clear hfz27_1); (try clear hfz30_0); (try clear hfz30_1); (try clear hx157_0); (try clear hx157_1); (try clear hx158_0); (try clear hx158_1); (try clear p1); (try clear p15); (try clear p157); (try clear p158); (try clear p2); (try clear p6); (try clear q1); (try clear q15); (try clear q157); (try clear q158)
         obtain ⟨kq, x93_30, rfl, HA, HJ30, HB⟩ := hcut
         cases kq with
         | zero => exact absurd HA.out (by simp [terrlaw4_CostLeaves.j3])
         | succ kj30 =>
          have H := HA.out
          clear HA
          simp only [terrlaw4_CostLeaves.j3] at H
          by_cases c41 : x93_30 = true
          ·
           subst c41
           have H1 : (some false) = some r := by rw [if_pos rfl] at H; exact H
           clear H
           have H := H1
           clear H1
           obtain rfl := Option.some.inj H
           go_wp2
           go_ret
           exact ⟨by first | rfl | (simp [errW_none, errW_some] <;> rfl) | (simp [*, errW_none, errW_some] <;> rfl), by repeat (first | (with_reducible first | exact HB.out | apply below_alloc | apply pw_below_drewN | apply below_drew1) | exact HB.out)⟩
          ·
           replace c41 := Bool.eq_false_iff.mpr c41
           subst c41
           have H1 : (if t156 = 0 then (if a1 < 0 then (terrlaw4_CostLeaves.j4 kj30 l0 a1 a2 a3 t150 t151 t156 true) else (if a2 < a1 then (terrlaw4_CostLeaves.j4 kj30 l0 a1 a2 a3 t150 t151 t156 true) else (terrlaw4_CostLeaves.j4 kj30 l0 a1 a2 a3 t150 t151 t156 (decide (a2 > 1073741824))))) else (terrlaw4_CostLeaves.j4 kj30 l0 a1 a2 a3 t150 t151 t156 false)) = some r := by rw [if_neg (show ¬ (false = true) by decide)] at H; exact H
           clear H
           have H := H1
           clear H1
           have HC42 := Aside0.mk H
           clear H
           go_upto_region 16 with (fail)
           go_cut [108] (fun v108 wc => ∃ (kq : Nat) (x108_41 : Bool), v108 = .bool x108_41 ∧ Aside0 (terrlaw4_CostLeaves.j4 kq l0 a1 a2 a3 t150 t151 t156 x108_41 = some r) ∧ Aside0 (kq ≤ kj30) ∧ Aside0 (Below w.heap.size w wc))
           case first =>
            have H := HC42.out
            clear HC42
            by_cases c43 : t156 = 0
            ·
             rw [if_pos c43] at H
             have c43b0 : (t156 == 0) = true := beq_iff_eq.mpr c43
             have c43b1 : (t156 != 0) = false := bne_eq_false_iff_eq.mpr c43
             clear c43
             (first | rw [c43b0] | (simp only [i64_w, i32_w]; rw [c43b0]) | skip)
             by_cases c44 : a1 < 0
             ·
              rw [if_pos c44] at H
              have c44b0 : decide (a1 < 0) = true := decide_eq_true c44
              clear c44
              have H' := Aside0.mk H
              clear H
              go_wp2
              go_meet
              case rel => exact ⟨_, (true), (by first | rfl | (simp; done) | (simp [*]; done)), H', ⟨by have := HJ8.out; have := HJ18.out; have := HK3.out; have := HJ30.out; first | omega | exact Nat.le_refl _⟩, ⟨by repeat (first | (with_reducible first | exact HB.out | apply below_alloc | apply pw_below_drewN | apply below_drew1) | exact HB.out)⟩⟩
             ·
              rw [if_neg c44] at H
              have c44b0 : decide (a1 < 0) = false := decide_eq_false c44
              clear c44
              by_cases c45 : a2 < a1
              ·
               rw [if_pos c45] at H
               have c45b0 : decide (a2 < a1) = true := decide_eq_true c45
               clear c45
               have H' := Aside0.mk H
               clear H
               go_wp2
               go_meet
               case rel => exact ⟨_, (true), (by first | rfl | (simp; done) | (simp [*]; done)), H', ⟨by have := HJ8.out; have := HJ18.out; have := HK3.out; have := HJ30.out; first | omega | exact Nat.le_refl _⟩, ⟨by repeat (first | (with_reducible first | exact HB.out | apply below_alloc | apply pw_below_drewN | apply below_drew1) | exact HB.out)⟩⟩
              ·
               rw [if_neg c45] at H
               have c45b0 : decide (a2 < a1) = false := decide_eq_false c45
               clear c45
               have H' := Aside0.mk H
               clear H
               go_wp2
               go_meet
               case rel => exact ⟨_, (decide (a2 > 1073741824)), (by first | rfl | (simp; done) | (simp [*]; done)), H', ⟨by have := HJ8.out; have := HJ18.out; have := HK3.out; have := HJ30.out; first | omega | exact Nat.le_refl _⟩, ⟨by repeat (first | (with_reducible first | exact HB.out | apply below_alloc | apply pw_below_drewN | apply below_drew1) | exact HB.out)⟩⟩
            ·
             rw [if_neg c43] at H
             have c43b0 : (t156 == 0) = false := beq_eq_false_iff_ne.mpr c43
             have c43b1 : (t156 != 0) = true := bne_iff_ne.mpr c43
             (first | rw [c43b0] | (simp only [i64_w, i32_w]; rw [c43b0]) | skip)
             have H' := Aside0.mk H
             clear H
             go_wp2
             go_meet
             case rel => exact ⟨_, (false), (by first | rfl | (simp; done) | (simp [*]; done)), H', ⟨by have := HJ8.out; have := HJ18.out; have := HK3.out; have := HJ30.out; first | omega | exact Nat.le_refl _⟩, ⟨by repeat (first | (with_reducible first | exact HB.out | apply below_alloc | apply pw_below_drewN | apply below_drew1) | exact HB.out)⟩⟩
           case rest =>
            clear HC42
            (try clear c1); (try clear p1); (try clear q1); (try clear hx1); (try clear c2); (try clear p2); (try clear c3); (try clear c4); (try clear p6); (try clear c9); (try clear c13); (try clear c13b0); (try clear c13b1); (try clear c14); (try clear c14b0); (try clear c15); (try clear c15b0); (try clear p15); (try clear q15); (try clear hx15); (try clear c17); (try clear c17b0); (try clear c18); (try clear c18b0); (try clear c20); (try clear c21); (try clear c21b0); (try clear c22); (try clear c22b0); (try clear c23); (try clear c23b0); (try clear c24); (try clear c24b0); (try clear c24b1); (try clear c25); (try clear c33); (try clear c34); (try clear c34b0); (try clear c34b1); (try clear c41); (try clear c43); (try clear c43b0); (try clear c43b1); (try clear c44); (try clear c44b0); (try clear c45); (try clear c45b0); (try clear hcz27_0); (try clear hcz27_1); (try clear hcz30_0); (try clear hcz30_1); (try clear hfz27_0); (try clear hfz27_1); (try clear hfz30_0); (try clear hfz30_1); (try clear hx157_0); (try clear hx157_1); (try clear hx158_0); (try clear hx158_1); (try clear p1); (try clear p15); (try clear p157); (try clear p158); (try clear p2); (try clear p6); (try clear q1); (try clear q15); (try clear q157); (try clear q158)
            obtain ⟨kq, x108_41, rfl, HA, HJ41, HB⟩ := hcut
            cases kq with
            | zero => exact absurd HA.out (by simp [terrlaw4_CostLeaves.j4])
            | succ kj41 =>
             have H := HA.out
             clear HA
             simp only [terrlaw4_CostLeaves.j4] at H
             have HC46 := Aside0.mk H
             clear H
             go_upto_if 108 with (fail)
             go_cut [15] (fun v15 wc => ∃ (kq : Nat) (x15_45 : Int), v15 = .int .i64 x15_45 ∧ Aside0 (terrlaw4_CostLeaves.j5 kq l0 a1 a2 a3 t150 t151 x15_45 = some r) ∧ Aside0 (kq ≤ kj41) ∧ Aside0 (Below w.heap.size w wc))
             case first =>
              have H := HC46.out
              clear HC46
              by_cases c47 : x108_41 = true
              ·
               subst c47
               have H1 : (terrlaw4_CostLeaves.j5 kj41 l0 a1 a2 a3 t150 t151 1) = some r := by rw [if_pos rfl] at H; exact H
               clear H
               have H := H1
               clear H1
               have H' := Aside0.mk H
               clear H
               go_wp2
               go_meet
               case rel => exact ⟨_, (1), (by first | rfl | (simp; done) | (simp [*]; done)), H', ⟨by have := HJ8.out; have := HJ18.out; have := HK3.out; have := HJ30.out; have := HJ41.out; first | omega | exact Nat.le_refl _⟩, ⟨by repeat (first | (with_reducible first | exact HB.out | apply below_alloc | apply pw_below_drewN | apply below_drew1) | exact HB.out)⟩⟩
              ·
               replace c47 := Bool.eq_false_iff.mpr c47
               subst c47
               have H1 : (terrlaw4_CostLeaves.j5 kj41 l0 a1 a2 a3 t150 t151 t156) = some r := by rw [if_neg (show ¬ (false = true) by decide)] at H; exact H
               clear H
               have H := H1
               clear H1
               have H' := Aside0.mk H
               clear H
               go_wp2
               go_meet
               case rel => exact ⟨_, (t156), (by first | rfl | (simp; done) | (simp [*]; done)), H', ⟨by have := HJ8.out; have := HJ18.out; have := HK3.out; have := HJ30.out; have := HJ41.out; first | omega | exact Nat.le_refl _⟩, ⟨by repeat (first | (with_reducible first | exact HB.out | apply below_alloc | apply pw_below_drewN | apply below_drew1) | exact HB.out)⟩⟩
             case rest =>
              clear HC46
              (try clear c1); (try clear p1); (try clear q1); (try clear hx1); (try clear c2); (try clear p2); (try clear c3); (try clear c4); (try clear p6); (try clear c9); (try clear c13); (try clear c13b0); (try clear c13b1); (try clear c14); (try clear c14b0); (try clear c15); (try clear c15b0); (try clear p15); (try clear q15); (try clear hx15); (try clear c17); (try clear c17b0); (try clear c18); (try clear c18b0); (try clear c20); (try clear c21); (try clear c21b0); (try clear c22); (try clear c22b0); (try clear c23); (try clear c23b0); (try clear c24); (try clear c24b0); (try clear c24b1); (try clear c25); (try clear c33); (try clear c34); (try clear c34b0); (try clear c34b1); (try clear c41); (try clear c43); (try clear c43b0); (try clear c43b1); (try clear c44); (try clear c44b0); (try clear c45); (try clear c45b0); (try clear c47); (try clear hcz27_0); (try clear hcz27_1); (try clear hcz30_0); (try clear hcz30_1); (try clear hfz27_0); (try clear hfz27_1); (try clear hfz30_0); (try clear hfz30_1); (try clear hx157_0); (try clear hx157_1); (try clear hx158_0); (try clear hx158_1); (try clear p1); (try clear p15); (try clear p157); (try clear p158); (try clear p2); (try clear p6); (try clear q1); (try clear q15); (try clear q157); (try clear q158)
              obtain ⟨kq, x15_45, rfl, HA, HJ45, HB⟩ := hcut
              cases kq with
              | zero => exact absurd HA.out (by simp [terrlaw4_CostLeaves.j5])
              | succ kj45 =>
               have H := HA.out
               clear HA
               simp only [terrlaw4_CostLeaves.j5] at H
               have H' := Aside0.mk H
               clear H
               go_wp2
               go_loopg [20, 21] kj45 (fun kq v20 v21 w' => ∃ (x20_7 : Int) (x21_7 : Int), v20 = .int .i64 x20_7 ∧ v21 = .int .i64 x21_7 ∧ Aside0 (terrlaw4_CostLeaves.l1 kq l0 a1 a3 t150 t151 x15_45 x20_7 x21_7 = some r) ∧ Aside0 (kq ≤ kj45) ∧ Aside0 (Below w.heap.size w w'))
               case atStart => exact ⟨(a1), (wrap64 (a2 + 1)), (by first | rfl | (simp; done) | (simp [*]; done)), (by first | rfl | (simp; done) | (simp [*]; done)), H', ⟨Nat.le_refl _⟩, ⟨by repeat (first | (with_reducible first | exact HB.out | apply below_alloc | apply pw_below_drewN | apply below_drew1) | exact HB.out)⟩⟩
               case round =>
                clear H'
                (try clear c1); (try clear p1); (try clear q1); (try clear hx1); (try clear c2); (try clear p2); (try clear c3); (try clear c4); (try clear p6); (try clear c9); (try clear c13); (try clear c13b0); (try clear c13b1); (try clear c14); (try clear c14b0); (try clear c15); (try clear c15b0); (try clear p15); (try clear q15); (try clear hx15); (try clear c17); (try clear c17b0); (try clear c18); (try clear c18b0); (try clear c20); (try clear c21); (try clear c21b0); (try clear c22); (try clear c22b0); (try clear c23); (try clear c23b0); (try clear c24); (try clear c24b0); (try clear c24b1); (try clear c25); (try clear c33); (try clear c34); (try clear c34b0); (try clear c34b1); (try clear c41); (try clear c43); (try clear c43b0); (try clear c43b1); (try clear c44); (try clear c44b0); (try clear c45); (try clear c45b0); (try clear c47); (try clear hcz27_0); (try clear hcz27_1); (try clear hcz30_0); (try clear hcz30_1); (try clear hfz27_0); (try clear hfz27_1); (try clear hfz30_0); (try clear hfz30_1); (try clear hx157_0); (try clear hx157_1); (try clear hx158_0); (try clear hx158_1); (try clear p1); (try clear p15); (try clear p157); (try clear p158); (try clear p2); (try clear p6); (try clear q1); (try clear q15); (try clear q157); (try clear q158)
                obtain ⟨x20_7, x21_7, rfl, rfl, HA, HK7, HB⟩ := hrel
                cases gk with
                | zero => exact absurd HA.out (by simp [terrlaw4_CostLeaves.l1])
                | succ k7 =>
                 have H := HA.out
                 clear HA
                 simp only [terrlaw4_CostLeaves.l1] at H
                 have HC48 := Aside0.mk H
                 clear H
                 go_upto_region 19 with (fail)
                 go_cut [118] (fun v118 wc => ∃ (kq : Nat) (x118_47 : Bool), v118 = .bool x118_47 ∧ Aside0 (terrlaw4_CostLeaves.j7 kq l0 a1 a3 t150 t151 x15_45 x20_7 x21_7 x118_47 = some r) ∧ Aside0 (kq ≤ k7) ∧ Aside0 (Below w.heap.size w wc))
                 case first =>
                  have H := HC48.out
                  clear HC48
                  by_cases c49 : x15_45 = 0
                  ·
                   rw [if_pos c49] at H
                   have c49b0 : (x15_45 == 0) = true := beq_iff_eq.mpr c49
                   have c49b1 : (x15_45 != 0) = false := bne_eq_false_iff_eq.mpr c49
                   clear c49
                   (first | rw [c49b0] | (simp only [i64_w, i32_w]; rw [c49b0]) | skip)
                   have H' := Aside0.mk H
                   clear H
                   go_wp2
                   go_meet
                   case rel => exact ⟨_, (decide (x20_7 < x21_7)), (by first | rfl | (simp; done) | (simp [*]; done)), H', ⟨by have := HJ8.out; have := HJ18.out; have := HK3.out; have := HJ30.out; have := HJ41.out; have := HJ45.out; have := HK7.out; first | omega | exact Nat.le_refl _⟩, ⟨by repeat (first | (with_reducible first | exact HB.out | apply below_alloc | apply pw_below_drewN | apply below_drew1) | exact HB.out)⟩⟩
                  ·
                   rw [if_neg c49] at H
                   have c49b0 : (x15_45 == 0) = false := beq_eq_false_iff_ne.mpr c49
                   have c49b1 : (x15_45 != 0) = true := bne_iff_ne.mpr c49
                   (first | rw [c49b0] | (simp only [i64_w, i32_w]; rw [c49b0]) | skip)
                   have H' := Aside0.mk H
                   clear H
                   go_wp2
                   go_meet
                   case rel => exact ⟨_, (false), (by first | rfl | (simp; done) | (simp [*]; done)), H', ⟨by have := HJ8.out; have := HJ18.out; have := HK3.out; have := HJ30.out; have := HJ41.out; have := HJ45.out; have := HK7.out; first | omega | exact Nat.le_refl _⟩, ⟨by repeat (first | (with_reducible first | exact HB.out | apply below_alloc | apply pw_below_drewN | apply below_drew1) | exact HB.out)⟩⟩
                 case rest =>
                  clear HC48
                  (try clear c1); (try clear p1); (try clear q1); (try clear hx1); (try clear c2); (try clear p2); (try clear c3); (try clear c4); (try clear p6); (try clear c9); (try clear c13); (try clear c13b0); (try clear c13b1); (try clear c14); (try clear c14b0); (try clear c15); (try clear c15b0); (try clear p15); (try clear q15); (try clear hx15); (try clear c17); (try clear c17b0); (try clear c18); (try clear c18b0); (try clear c20); (try clear c21); (try clear c21b0); (try clear c22); (try clear c22b0); (try clear c23); (try clear c23b0); (try clear c24); (try clear c24b0); (try clear c24b1); (try clear c25); (try clear c33); (try clear c34); (try clear c34b0); (try clear c34b1); (try clear c41); (try clear c43); (try clear c43b0); (try clear c43b1); (try clear c44); (try clear c44b0); (try clear c45); (try clear c45b0); (try clear c47); (try clear c49); (try clear c49b0); (try clear c49b1); (try clear hcz27_0); (try clear hcz27_1); (try clear hcz30_0); (try clear hcz30_1); (try clear hfz27_0); (try clear hfz27_1); (try clear hfz30_0); (try clear hfz30_1); (try clear hx157_0); (try clear hx157_1); (try clear hx158_0); (try clear hx158_1); (try clear p1); (try clear p15); (try clear p157); (try clear p158); (try clear p2); (try clear p6); (try clear q1); (try clear q15); (try clear q157); (try clear q158)
                  obtain ⟨kq, x118_47, rfl, HA, HJ47, HB⟩ := hcut
                  cases kq with
                  | zero => exact absurd HA.out (by simp [terrlaw4_CostLeaves.j7])
                  | succ kj47 =>
                   have H := HA.out
                   clear HA
                   simp only [terrlaw4_CostLeaves.j7] at H
                   by_cases c50 : x118_47 = true
                   ·
                    subst c50
                    have H1 : ((terrref4_CostAt.f kj47 l0 (wrap64 (Int.tdiv (wrap64 (x20_7 + x21_7)) 2))).bind fun t165 => (if (wrap64 ((wrap64 (Int.tdiv (wrap64 (x20_7 + x21_7)) 2)) + t165)) ≤ a3 then (terrlaw4_CostLeaves.l1 kj47 l0 a1 a3 t150 t151 x15_45 (wrap64 ((wrap64 (Int.tdiv (wrap64 (x20_7 + x21_7)) 2)) + 1)) x21_7) else (terrlaw4_CostLeaves.l1 kj47 l0 a1 a3 t150 t151 x15_45 x20_7 (wrap64 (Int.tdiv (wrap64 (x20_7 + x21_7)) 2))))) = some r := by rw [if_pos rfl] at H; exact H
                    clear H
                    have H := H1
                    clear H1
                    replace H := Option.bind_eq_some_iff.mp H
                    obtain ⟨t165, A510, H⟩ := H
                    replace H : (if (wrap64 ((wrap64 (Int.tdiv (wrap64 (x20_7 + x21_7)) 2)) + t165)) ≤ a3 then (terrlaw4_CostLeaves.l1 kj47 l0 a1 a3 t150 t151 x15_45 (wrap64 ((wrap64 (Int.tdiv (wrap64 (x20_7 + x21_7)) 2)) + 1)) x21_7) else (terrlaw4_CostLeaves.l1 kj47 l0 a1 a3 t150 t151 x15_45 x20_7 (wrap64 (Int.tdiv (wrap64 (x20_7 + x21_7)) 2)))) = some r := H
                    have A51 := Aside0.mk A510
                    clear A510
                    by_cases c52 : (wrap64 ((wrap64 (Int.tdiv (wrap64 (x20_7 + x21_7)) 2)) + t165)) ≤ a3
                    ·
                     rw [if_pos c52] at H
                     have c52b0 : decide ((wrap64 ((wrap64 (Int.tdiv (wrap64 (x20_7 + x21_7)) 2)) + t165)) ≤ a3) = true := decide_eq_true c52
                     clear c52
                     have H' := Aside0.mk H
                     clear H
                     go_wp2_with (first | ((with_reducible refine gate_callee (f := 28) rfl ?_); refine goesL_ (some 126) rfl rfl Try.func28 (by kernel_rfl) rfl #[.slice A0 l0.length c0, .int .i64 (wrap64 (Int.tdiv (wrap64 (x20_7 + x21_7)) 2))] rfl (by (try simp only [List.map_toArray, List.map_cons, List.map_nil]); first | done | rfl | (simp only [List.length_drop, List.length_take]; rfl)) ?_; (with_reducible refine (terrref4_CostAt.calls kj47 _ _ l0 (wrap64 (Int.tdiv (wrap64 (x20_7 + x21_7)) 2)) t165 _ ?side1 ?side2 A51.out).mono ?_); (case side1 => repeat (first | exact (Kd.C_below HR0.out HB.out) | (with_reducible refine Kd.C_alloc ?_ _) | (with_reducible refine Kd.C_drewN ?_ _) | (with_reducible refine Kd.C_drew ?_))); (case side2 => exact HC0.out); rintro e w53 ⟨rfl, hb⟩; refine ⟨_, rfl, ?_⟩; have n0_ := Aside0.mk (below_step (by repeat (first | (with_reducible first | exact HB.out | apply below_alloc | apply pw_below_drewN | apply below_drew1) | exact HB.out)) hb); clear HB; have HB := n0_; clear n0_; (try clear hb); (try clear hb2); (try clear hk); (try clear hi)))
                     go_roundg kj47
                     case measure => have := HJ8.out; have := HJ18.out; have := HK3.out; have := HJ30.out; have := HJ41.out; have := HJ45.out; have := HK7.out; have := HJ47.out; omega
                     case rel => exact ⟨(wrap64 ((wrap64 (Int.tdiv (wrap64 (x20_7 + x21_7)) 2)) + 1)), (x21_7), (by first | rfl | (simp; done) | (simp [*]; done)), (by first | rfl | (simp; done) | (simp [*]; done)), H', ⟨by have := HJ8.out; have := HJ18.out; have := HK3.out; have := HJ30.out; have := HJ41.out; have := HJ45.out; have := HK7.out; have := HJ47.out; omega⟩, ⟨by repeat (first | (with_reducible first | exact HB.out | apply below_alloc | apply pw_below_drewN | apply below_drew1) | exact HB.out)⟩⟩
                    ·
                     rw [if_neg c52] at H
                     have c52b0 : decide ((wrap64 ((wrap64 (Int.tdiv (wrap64 (x20_7 + x21_7)) 2)) + t165)) ≤ a3) = false := decide_eq_false c52
                     clear c52
                     have H' := Aside0.mk H
                     clear H
                     go_wp2_with (first | ((with_reducible refine gate_callee (f := 28) rfl ?_); refine goesL_ (some 126) rfl rfl Try.func28 (by kernel_rfl) rfl #[.slice A0 l0.length c0, .int .i64 (wrap64 (Int.tdiv (wrap64 (x20_7 + x21_7)) 2))] rfl (by (try simp only [List.map_toArray, List.map_cons, List.map_nil]); first | done | rfl | (simp only [List.length_drop, List.length_take]; rfl)) ?_; (with_reducible refine (terrref4_CostAt.calls kj47 _ _ l0 (wrap64 (Int.tdiv (wrap64 (x20_7 + x21_7)) 2)) t165 _ ?side1 ?side2 A51.out).mono ?_); (case side1 => repeat (first | exact (Kd.C_below HR0.out HB.out) | (with_reducible refine Kd.C_alloc ?_ _) | (with_reducible refine Kd.C_drewN ?_ _) | (with_reducible refine Kd.C_drew ?_))); (case side2 => exact HC0.out); rintro e w54 ⟨rfl, hb⟩; refine ⟨_, rfl, ?_⟩; have n0_ := Aside0.mk (below_step (by repeat (first | (with_reducible first | exact HB.out | apply below_alloc | apply pw_below_drewN | apply below_drew1) | exact HB.out)) hb); clear HB; have HB := n0_; clear n0_; (try clear hb); (try clear hb2); (try clear hk); (try clear hi)))
                     go_roundg kj47
                     case measure => have := HJ8.out; have := HJ18.out; have := HK3.out; have := HJ30.out; have := HJ41.out; have := HJ45.out; have := HK7.out; have := HJ47.out; omega
                     case rel => exact ⟨(x20_7), (wrap64 (Int.tdiv (wrap64 (x20_7 + x21_7)) 2)), (by first | rfl | (simp; done) | (simp [*]; done)), (by first | rfl | (simp; done) | (simp [*]; done)), H', ⟨by have := HJ8.out; have := HJ18.out; have := HK3.out; have := HJ30.out; have := HJ41.out; have := HJ45.out; have := HK7.out; have := HJ47.out; omega⟩, ⟨by repeat (first | (with_reducible first | exact HB.out | apply below_alloc | apply pw_below_drewN | apply below_drew1) | exact HB.out)⟩⟩
                   ·
                    replace c50 := Bool.eq_false_iff.mpr c50
                    subst c50
                    have H1 : (if x15_45 = 0 then (terrlaw4_CostLeaves.j8 kj47 t150 t151 x15_45 x20_7 (x20_7 == a1)) else (terrlaw4_CostLeaves.j8 kj47 t150 t151 x15_45 x20_7 false)) = some r := by rw [if_neg (show ¬ (false = true) by decide)] at H; exact H
                    clear H
                    have H := H1
                    clear H1
                    have HC55 := Aside0.mk H
                    clear H
                    go_upto_region 24 with (fail)
                    go_cut [139] (fun v139 wc => ∃ (kq : Nat) (x139_54 : Bool), v139 = .bool x139_54 ∧ Aside0 (terrlaw4_CostLeaves.j8 kq t150 t151 x15_45 x20_7 x139_54 = some r) ∧ Aside0 (kq ≤ kj47) ∧ Aside0 (Below w.heap.size w wc))
                    case first =>
                     have H := HC55.out
                     clear HC55
                     by_cases c56 : x15_45 = 0
                     ·
                      rw [if_pos c56] at H
                      have c56b0 : (x15_45 == 0) = true := beq_iff_eq.mpr c56
                      have c56b1 : (x15_45 != 0) = false := bne_eq_false_iff_eq.mpr c56
                      clear c56
                      (first | rw [c56b0] | (simp only [i64_w, i32_w]; rw [c56b0]) | skip)
                      have H' := Aside0.mk H
                      clear H
                      go_wp2
                      go_meet
                      case rel => exact ⟨_, ((x20_7 == a1)), (by first | rfl | (simp; done) | (simp [*]; done)), H', ⟨by have := HJ8.out; have := HJ18.out; have := HK3.out; have := HJ30.out; have := HJ41.out; have := HJ45.out; have := HK7.out; have := HJ47.out; first | omega | exact Nat.le_refl _⟩, ⟨by repeat (first | (with_reducible first | exact HB.out | apply below_alloc | apply pw_below_drewN | apply below_drew1) | exact HB.out)⟩⟩
                     ·
                      rw [if_neg c56] at H
                      have c56b0 : (x15_45 == 0) = false := beq_eq_false_iff_ne.mpr c56
                      have c56b1 : (x15_45 != 0) = true := bne_iff_ne.mpr c56
                      (first | rw [c56b0] | (simp only [i64_w, i32_w]; rw [c56b0]) | skip)
                      have H' := Aside0.mk H
                      clear H
                      go_wp2
                      go_meet
                      case rel => exact ⟨_, (false), (by first | rfl | (simp; done) | (simp [*]; done)), H', ⟨by have := HJ8.out; have := HJ18.out; have := HK3.out; have := HJ30.out; have := HJ41.out; have := HJ45.out; have := HK7.out; have := HJ47.out; first | omega | exact Nat.le_refl _⟩, ⟨by repeat (first | (with_reducible first | exact HB.out | apply below_alloc | apply pw_below_drewN | apply below_drew1) | exact HB.out)⟩⟩
                    case rest =>
                     clear HC55
                     (try clear c1); (try clear p1); (try clear q1); (try clear hx1); (try clear c2); (try clear p2); (try clear c3); (try clear c4); (try clear c5); (try clear p6); (try clear c9); (try clear c13); (try clear c13b0); (try clear c13b1); (try clear c14); (try clear c14b0); (try clear c15); (try clear c15b0); (try clear p15); (try clear q15); (try clear hx15); (try clear c17); (try clear c17b0); (try clear c18); (try clear c18b0); (try clear c20); (try clear c21); (try clear c21b0); (try clear c22); (try clear c22b0); (try clear c23); (try clear c23b0); (try clear c24); (try clear c24b0); (try clear c24b1); (try clear c25); (try clear c28); (try clear c33); (try clear c34); (try clear c34b0); (try clear c34b1); (try clear c41); (try clear c43); (try clear c43b0); (try clear c43b1); (try clear c44); (try clear c44b0); (try clear c45); (try clear c45b0); (try clear c47); (try clear c49); (try clear c49b0); (try clear c49b1); (try clear c50); (try clear c52); (try clear c52b0); (try clear c56); (try clear c56b0); (try clear c56b1); (try clear hcz27_0); (try clear hcz27_1); (try clear hcz30_0); (try clear hcz30_1); (try clear hfz27_0); (try clear hfz27_1); (try clear hfz30_0); (try clear hfz30_1); (try clear hx157_0); (try clear hx157_1); (try clear hx158_0); (try clear hx158_1); (try clear p1); (try clear p15); (try clear p157); (try clear p158); (try clear p2); (try clear p6); (try clear q1); (try clear q15); (try clear q157); (try clear q158)
                     obtain ⟨kq, x139_54, rfl, HA, HJ54, HB⟩ := hcut
                     cases kq with
                     | zero => exact absurd HA.out (by simp [terrlaw4_CostLeaves.j8])
                     | succ kj54 =>
                      have H := HA.out
                      clear HA
                      simp only [terrlaw4_CostLeaves.j8] at H
                      by_cases c57 : x139_54 = true
                      ·
                       subst c57
                       have H1 : (if 17 = 0 then (if t151 = 0 then (some (t150 == (wrap64 (x20_7 - 1)))) else (some false)) else (if t151 = 17 then (some (t150 == 0)) else (some false))) = some r := by rw [if_pos rfl] at H; exact H
                       clear H
                       have H := H1
                       clear H1
                       by_cases c58 : 17 = 0
                       ·
                        exact absurd c58 (by decide)
                       ·
                        rw [if_neg c58] at H
                        have c58b0 : (17 == 0) = false := beq_eq_false_iff_ne.mpr c58
                        have c58b1 : (17 != 0) = true := bne_iff_ne.mpr c58
                        by_cases c60 : t151 = 17
                        ·
                         rw [if_pos c60] at H
                         have c60b0 : (t151 == 17) = true := beq_iff_eq.mpr c60
                         have c60b1 : (t151 != 17) = false := bne_eq_false_iff_eq.mpr c60
                         clear c60
                         obtain rfl := Option.some.inj H
                         go_wp2
                         go_ret
                         exact ⟨by first | rfl | (simp [errW_none, errW_some] <;> rfl) | (simp [*, errW_none, errW_some] <;> rfl), by repeat (first | (with_reducible first | exact HB.out | apply below_alloc | apply pw_below_drewN | apply below_drew1) | exact HB.out)⟩
                        ·
                         rw [if_neg c60] at H
                         have c60b0 : (t151 == 17) = false := beq_eq_false_iff_ne.mpr c60
                         have c60b1 : (t151 != 17) = true := bne_iff_ne.mpr c60
                         obtain rfl := Option.some.inj H
                         go_wp2
                         go_ret
                         exact ⟨by first | rfl | (simp [errW_none, errW_some] <;> rfl) | (simp [*, errW_none, errW_some] <;> rfl), by repeat (first | (with_reducible first | exact HB.out | apply below_alloc | apply pw_below_drewN | apply below_drew1) | exact HB.out)⟩
                      ·
                       replace c57 := Bool.eq_false_iff.mpr c57
                       subst c57
                       have H1 : (if x15_45 = 0 then (if t151 = 0 then (some (t150 == (wrap64 (x20_7 - 1)))) else (some false)) else (if t151 = x15_45 then (some (t150 == 0)) else (some false))) = some r := by rw [if_neg (show ¬ (false = true) by decide)] at H; exact H
                       clear H
                       have H := H1
                       clear H1
                       by_cases c61 : x15_45 = 0
                       ·
                        rw [if_pos c61] at H
                        have c61b0 : (x15_45 == 0) = true := beq_iff_eq.mpr c61
                        have c61b1 : (x15_45 != 0) = false := bne_eq_false_iff_eq.mpr c61
                        clear c61
                        by_cases c62 : t151 = 0
                        ·
                         rw [if_pos c62] at H
                         have c62b0 : (t151 == 0) = true := beq_iff_eq.mpr c62
                         have c62b1 : (t151 != 0) = false := bne_eq_false_iff_eq.mpr c62
                         clear c62
                         obtain rfl := Option.some.inj H
                         go_wp2
                         go_ret
                         exact ⟨by first | rfl | (simp [errW_none, errW_some] <;> rfl) | (simp [*, errW_none, errW_some] <;> rfl), by repeat (first | (with_reducible first | exact HB.out | apply below_alloc | apply pw_below_drewN | apply below_drew1) | exact HB.out)⟩
                        ·
                         rw [if_neg c62] at H
                         have c62b0 : (t151 == 0) = false := beq_eq_false_iff_ne.mpr c62
                         have c62b1 : (t151 != 0) = true := bne_iff_ne.mpr c62
                         obtain rfl := Option.some.inj H
                         go_wp2
                         go_ret
                         exact ⟨by first | rfl | (simp [errW_none, errW_some] <;> rfl) | (simp [*, errW_none, errW_some] <;> rfl), by repeat (first | (with_reducible first | exact HB.out | apply below_alloc | apply pw_below_drewN | apply below_drew1) | exact HB.out)⟩
                       ·
                        rw [if_neg c61] at H
                        have c61b0 : (x15_45 == 0) = false := beq_eq_false_iff_ne.mpr c61
                        have c61b1 : (x15_45 != 0) = true := bne_iff_ne.mpr c61
                        by_cases c63 : t151 = x15_45
                        ·
                         rw [if_pos c63] at H
                         have c63b0 : (t151 == x15_45) = true := beq_iff_eq.mpr c63
                         have c63b1 : (t151 != x15_45) = false := bne_eq_false_iff_eq.mpr c63
                         clear c63
                         obtain rfl := Option.some.inj H
                         go_wp2
                         go_ret
                         exact ⟨by first | rfl | (simp [errW_none, errW_some] <;> rfl) | (simp [*, errW_none, errW_some] <;> rfl), by repeat (first | (with_reducible first | exact HB.out | apply below_alloc | apply pw_below_drewN | apply below_drew1) | exact HB.out)⟩
                        ·
                         rw [if_neg c63] at H
                         have c63b0 : (t151 == x15_45) = false := beq_eq_false_iff_ne.mpr c63
                         have c63b1 : (t151 != x15_45) = true := bne_iff_ne.mpr c63
                         obtain rfl := Option.some.inj H
                         go_wp2
                         go_ret
                         exact ⟨by first | rfl | (simp [errW_none, errW_some] <;> rfl) | (simp [*, errW_none, errW_some] <;> rfl), by repeat (first | (with_reducible first | exact HB.out | apply below_alloc | apply pw_below_drewN | apply below_drew1) | exact HB.out)⟩

end Go.Proofs.Ythjejgaekoopnaa.PCostLeaves
