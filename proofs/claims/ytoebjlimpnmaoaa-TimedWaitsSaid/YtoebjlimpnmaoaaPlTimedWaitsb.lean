/- Coordinates that are cut to the grid. No condition. -/
import Derived.Test.YtoebjlimpnmaoaaPlTimedWaitsa
namespace Go.Proofs.Ytoebjlimpnmaoaa.Rw
open Go.Rx
set_option linter.unusedVariables false
set_option linter.unusedSimpArgs false
/-- A coordinate that is cut to the grid. -/
def cut (x : Int) : Int := if x < -1048576 then -1048576 else if 1048576 < x then 1048576 else x
theorem cut_range (x : Int) : -1048576 ≤ cut x ∧ cut x ≤ 1048576 := by unfold cut; split <;> (try split) <;> omega
theorem cut_in {x : Int} (h1 : -1048576 ≤ x) (h2 : x ≤ 1048576) : cut x = x := by unfold cut; rw [if_neg (by omega), if_neg (by omega)]
theorem limit_eq (k : Nat) (x : Int) : f105 k x 1048576 = some (cut x, ()) := by
  have e : mx2 true (w64 (0 - 1048576)) (mx2 false x 1048576) = cut x := by
    rw [w64_id (by omega) (by omega), mx2_max, mx2_min]
    unfold cut
    repeat' split
    all_goals omega
  simp only [f105, f105_entry_B, e]
theorem clamp_eq (k : Nat) (p : Int × Int) : f76 k p = some ((cut p.1, cut p.2), ()) := by
  simp only [f76, f76_entry_B, limit_eq, Option.bind_some]
theorem cut_cut (x : Int) : cut (cut x) = cut x := cut_in (cut_range x).1 (cut_range x).2
end Go.Proofs.Ytoebjlimpnmaoaa.Rw
