/- Timetables: what is wrong with stops and a time. No condition. -/
import Derived.Test.YtpbmlhlpfbcnbaaPlTimedPlansf
namespace Go.Proofs.Ytpbmlhlpfbcnbaa.Rw
open Go.Rx
set_option linter.unusedVariables false
set_option linter.unusedSimpArgs false
theorem fault_ev (S C : Int) (l : List Ride) (a b at_ : Int) : Ev (fun k => f16 k (S, (C, l)) at_ [a, b]) (faultF S C l a b at_, ()) := by
  simp only [f16, f16_entry_B]
  refine (f76_ev S C l).bind ?_
  have w1 : w64 1 = 1 := rfl
  have w2 : w64 2 = 2 := rfl
  unfold faultF
  by_cases h0 : tabF S C l = 0
  · simp only [h0, if_true]
    refine Ev.off 3 (fun j => ?_)
    have hat : ∀ x : Int, (if x = 0 then if at_ < 0 then f16_r8 (j + 3) true x else f16_r8 (j + 3) (decide (1073741824 < at_)) x else f16_r8 (j + 3) false x) = some (if x = 0 ∧ (at_ < 0 ∨ 1073741824 < at_) then 1 else x, ()) := fun x => by
      by_cases g1 : x = 0 <;> by_cases g2 : at_ < 0 <;> by_cases g3 : 1073741824 < at_ <;> simp [g1, g2, g3, f16_r8, f16_r8_B, f16_c9, f16_c9_B]
    unfold badS
    by_cases h1 : a < 0
    · simp [f16_l0, f16_l0_B, f16_r5, f16_r5_B, f16_c6, f16_c6_B, h1, w1, w2, hat]
      simp [f16_r8, f16_r8_B, f16_c9, f16_c9_B]
    · by_cases h2 : S ≤ a
      · simp [f16_l0, f16_l0_B, f16_r5, f16_r5_B, f16_c6, f16_c6_B, h1, h2, w1, w2, hat]
        simp [f16_r8, f16_r8_B, f16_c9, f16_c9_B]
      · by_cases h3 : b < 0
        · simp [f16_l0, f16_l0_B, f16_r5, f16_r5_B, f16_c6, f16_c6_B, h1, h2, h3, w1, w2, hat]
          simp [f16_r8, f16_r8_B, f16_c9, f16_c9_B]
        · by_cases h4 : S ≤ b
          · simp [f16_l0, f16_l0_B, f16_r5, f16_r5_B, f16_c6, f16_c6_B, h1, h2, h3, h4, w1, w2, hat]
            simp [f16_r8, f16_r8_B, f16_c9, f16_c9_B]
          · by_cases g2 : at_ < 0 <;> by_cases g3 : 1073741824 < at_ <;> simp [f16_l0, f16_l0_B, f16_r5, f16_r5_B, f16_c6, f16_c6_B, h1, h2, h3, h4, w1, w2, g2, g3, f16_r8, f16_r8_B, f16_c9, f16_c9_B]
  · simp only [h0, if_false]
    refine Ev.off 3 (fun j => ?_)
    simp [f16_l0, f16_l0_B, f16_r5, f16_r5_B, f16_c6, f16_c6_B, h0, w1, w2, f16_r8, f16_r8_B, f16_c9, f16_c9_B]
end Go.Proofs.Ytpbmlhlpfbcnbaa.Rw
