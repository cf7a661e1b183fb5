/- The last of a row. No condition. -/
import Derived.Test.YtpbmlhlpfbcnbaaPlNetWalksc
namespace Go.Proofs.Ytpbmlhlpfbcnbaa.Rw
open Go.Rx
set_option linter.unusedVariables false
set_option linter.unusedSimpArgs false
theorem getD_prev {α : Type} {p m : List α} {q z : α} : ((p.concat q) ++ m).getD ((p.length : Int)).toNat z = q := by simp
end Go.Proofs.Ytpbmlhlpfbcnbaa.Rw
