/- Timetables: the ride that a plan ends with. No condition. -/
import Derived.Test.YtpbmlhlpfbcnbaaPlTimedPlansk
namespace Go.Proofs.Ytpbmlhlpfbcnbaa.Rw
open Go.Rx
set_option linter.unusedVariables false
set_option linter.unusedSimpArgs false
/-- The ride that a plan ends with. -/
theorem planFold {ways : Ways} {rides : List Ride} {to : Int} : ∀ (d i : Nat) (x : Int), i + d = rides.length → (x < 0 ∨ ((0 ≤ x ∧ x < (rides.length : Int)) ∧ (ways.getD x.toNat none).isSome = true ∧ (rides.getD x.toNat zR).2.1 = to)) →
    ((List.range' i d).foldl (fun x j => planStep ways rides to j x) x < 0 ∨ ((0 ≤ (List.range' i d).foldl (fun x j => planStep ways rides to j x) x ∧ (List.range' i d).foldl (fun x j => planStep ways rides to j x) x < (rides.length : Int)) ∧
      (ways.getD ((List.range' i d).foldl (fun x j => planStep ways rides to j x) x).toNat none).isSome = true ∧ (rides.getD ((List.range' i d).foldl (fun x j => planStep ways rides to j x) x).toNat zR).2.1 = to))
  | 0, i, x, hid, h => h
  | d + 1, i, x, hid, h => by
    simp only [List.range'_succ, List.foldl_cons]
    refine planFold d (i + 1) (planStep ways rides to i x) (by omega) ?_
    unfold planStep
    by_cases c1 : (rides.getD i zR).2.1 = to
    · rw [if_neg (not_not_intro c1)]
      cases hu : ways.getD i none with
      | none => simp only [isNilO, if_true]; exact h
      | some u =>
        have hi : (0 ≤ (i : Int) ∧ (i : Int) < (rides.length : Int)) ∧ (ways.getD (i : Int).toNat none).isSome = true ∧ (rides.getD (i : Int).toNat zR).2.1 = to := by
          rw [Int.toNat_natCast, hu]; exact ⟨by omega, rfl, c1⟩
        simp only [isNilO, Bool.false_eq_true, if_false]
        split
        · exact .inr hi
        · split
          · exact .inr hi
          · split
            · split
              · exact .inr hi
              · exact h
            · exact h
    · rw [if_pos c1]; exact h
end Go.Proofs.Ytpbmlhlpfbcnbaa.Rw
