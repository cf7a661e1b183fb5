/-
  No cell of these rows narrows 'for every input' (looked for: loops, veiled, ifaces, maps, wideKeys, modest, calm, conditions, laid).
  DERIVED. THE GIVEN ROWS OF THIS SEAT. 12 by the template 'for every input the law returns true; each argument reads behind the call as it read before'; 0 by the template 'total and deterministic' (their statements: YthjejgaekoopnaaTotals.lean).
  GIVEN WITH THE SEED: the statements are not yours to turn. If you find one false, say at which input.
  Laid BY PROGRAM, IN A SANDBOX (cutbox-rows.mjs): the forced cells as the released guide's own fill.sh prints them over the translation 227be13bb386cab5… (all of the seat's roots in one cut). By AI agents, Wed Nov 11 2026. No macro, syntax, notation, axiom, sorry.
-/
import Derived.Test.YthjejgaekoopnaaChecked
import GoSem.Claim
import GoSem.ClaimJoined
import GoSem.ClaimMapViews
import Derived.JoinedTies
import Derived.KernelRfl
namespace Go.Proofs.Ythjejgaekoopnaa
/- THE CELL 'sum', in the pinned program and in every row, IS THE sha256 OF THE DUMP (.gsa) THAT YthjejgaekoopnaaProg.lean LOADS. Nothing in Lean hashes anything: it is a label: what it is worth is what the hold of that sum in a sandbox is worth. -/
noncomputable def Try.pinned : Pinned := { name := "ythjejgaekoopnaa", sum := "227be13bb386cab5c59efc53528401c9a693c88919183956bf12ce8336c7488c", checked := Try.checked }
namespace Rows
def none {H : Type} : Left H := { results := [], args := [] }

/-- 'terrkeep4.CostLater': WHATEVER THE INPUT: true; the input reads as it did. -/
def costLaterSpec : ChangeSpec := { name := "costLater", fn := fun _ => fun
  | [d1, d2, d3] => { results := [.lit (.bool true)], args := [d1, d2, d3] }
  | _ => none }
def costLaterRow : OpenClaim := { program := "ythjejgaekoopnaa", sum := "227be13bb386cab5c59efc53528401c9a693c88919183956bf12ce8336c7488c", func := "terrier/terrkeep4.CostLater", spec := "costLater", plainKeys := false, apart := false }
def CostLaterSaid : Prop := costLaterRow.holds Try.pinned (OpenSpec.ofChange costLaterSpec)

/-- ITS FALSE NEIGHBOUR: 'it returns false'. Refute it at one input. -/
def costLaterWrong : ChangeSpec := { name := "costLater", fn := fun _ => fun
  | [d1, d2, d3] => { results := [.lit (.bool false)], args := [d1, d2, d3] }
  | _ => none }
def CostLaterWrongFalsely : Prop := costLaterRow.holds Try.pinned (OpenSpec.ofChange costLaterWrong)

/-- 'terrkeep4.CostShift': WHATEVER THE INPUT: true; the input reads as it did. -/
def costShiftSpec : ChangeSpec := { name := "costShift", fn := fun _ => fun
  | [d1, d2, d3] => { results := [.lit (.bool true)], args := [d1, d2, d3] }
  | _ => none }
def costShiftRow : OpenClaim := { program := "ythjejgaekoopnaa", sum := "227be13bb386cab5c59efc53528401c9a693c88919183956bf12ce8336c7488c", func := "terrier/terrkeep4.CostShift", spec := "costShift", plainKeys := false, apart := false }
def CostShiftSaid : Prop := costShiftRow.holds Try.pinned (OpenSpec.ofChange costShiftSpec)

/-- ITS FALSE NEIGHBOUR: 'it returns false'. Refute it at one input. -/
def costShiftWrong : ChangeSpec := { name := "costShift", fn := fun _ => fun
  | [d1, d2, d3] => { results := [.lit (.bool false)], args := [d1, d2, d3] }
  | _ => none }
def CostShiftWrongFalsely : Prop := costShiftRow.holds Try.pinned (OpenSpec.ofChange costShiftWrong)

/-- 'terrkeep4.CostLeave': WHATEVER THE INPUT: true; the input reads as it did. -/
def costLeaveSpec : ChangeSpec := { name := "costLeave", fn := fun _ => fun
  | [d1, d2, d3, d4] => { results := [.lit (.bool true)], args := [d1, d2, d3, d4] }
  | _ => none }
def costLeaveRow : OpenClaim := { program := "ythjejgaekoopnaa", sum := "227be13bb386cab5c59efc53528401c9a693c88919183956bf12ce8336c7488c", func := "terrier/terrkeep4.CostLeave", spec := "costLeave", plainKeys := false, apart := false }
def CostLeaveSaid : Prop := costLeaveRow.holds Try.pinned (OpenSpec.ofChange costLeaveSpec)

/-- ITS FALSE NEIGHBOUR: 'it returns false'. Refute it at one input. -/
def costLeaveWrong : ChangeSpec := { name := "costLeave", fn := fun _ => fun
  | [d1, d2, d3, d4] => { results := [.lit (.bool false)], args := [d1, d2, d3, d4] }
  | _ => none }
def CostLeaveWrongFalsely : Prop := costLeaveRow.holds Try.pinned (OpenSpec.ofChange costLeaveWrong)

/-- 'terrlaw4.CostChecks': WHATEVER THE INPUT: true; the input reads as it did. -/
def costChecksSpec : ChangeSpec := { name := "costChecks", fn := fun _ => fun
  | [d1, d2] => { results := [.lit (.bool true)], args := [d1, d2] }
  | _ => none }
def costChecksRow : OpenClaim := { program := "ythjejgaekoopnaa", sum := "227be13bb386cab5c59efc53528401c9a693c88919183956bf12ce8336c7488c", func := "terrier/terrlaw4.CostChecks", spec := "costChecks", plainKeys := false, apart := false }
def CostChecksSaid : Prop := costChecksRow.holds Try.pinned (OpenSpec.ofChange costChecksSpec)

/-- ITS FALSE NEIGHBOUR: 'it returns false'. Refute it at one input. -/
def costChecksWrong : ChangeSpec := { name := "costChecks", fn := fun _ => fun
  | [d1, d2] => { results := [.lit (.bool false)], args := [d1, d2] }
  | _ => none }
def CostChecksWrongFalsely : Prop := costChecksRow.holds Try.pinned (OpenSpec.ofChange costChecksWrong)

/-- 'terrkeep4.NetLongs': WHATEVER THE INPUT: true; the input reads as it did. -/
def netLongsSpec : ChangeSpec := { name := "netLongs", fn := fun _ => fun
  | [d1, d2, d3] => { results := [.lit (.bool true)], args := [d1, d2, d3] }
  | _ => none }
def netLongsRow : OpenClaim := { program := "ythjejgaekoopnaa", sum := "227be13bb386cab5c59efc53528401c9a693c88919183956bf12ce8336c7488c", func := "terrier/terrkeep4.NetLongs", spec := "netLongs", plainKeys := false, apart := false }
def NetLongsSaid : Prop := netLongsRow.holds Try.pinned (OpenSpec.ofChange netLongsSpec)

/-- ITS FALSE NEIGHBOUR: 'it returns false'. Refute it at one input. -/
def netLongsWrong : ChangeSpec := { name := "netLongs", fn := fun _ => fun
  | [d1, d2, d3] => { results := [.lit (.bool false)], args := [d1, d2, d3] }
  | _ => none }
def NetLongsWrongFalsely : Prop := netLongsRow.holds Try.pinned (OpenSpec.ofChange netLongsWrong)

/-- 'terrlaw4.NetChecks': WHATEVER THE INPUT: true; the input reads as it did. -/
def netChecksSpec : ChangeSpec := { name := "netChecks", fn := fun _ => fun
  | [d1, d2, d3, d4] => { results := [.lit (.bool true)], args := [d1, d2, d3, d4] }
  | _ => none }
def netChecksRow : OpenClaim := { program := "ythjejgaekoopnaa", sum := "227be13bb386cab5c59efc53528401c9a693c88919183956bf12ce8336c7488c", func := "terrier/terrlaw4.NetChecks", spec := "netChecks", unfollowed := true, recurses := true, plainKeys := false, apart := false }
def NetChecksSaid : Prop := netChecksRow.holds Try.pinned (OpenSpec.ofChange netChecksSpec)

/-- ITS FALSE NEIGHBOUR: 'it returns false'. Refute it at one input. -/
def netChecksWrong : ChangeSpec := { name := "netChecks", fn := fun _ => fun
  | [d1, d2, d3, d4] => { results := [.lit (.bool false)], args := [d1, d2, d3, d4] }
  | _ => none }
def NetChecksWrongFalsely : Prop := netChecksRow.holds Try.pinned (OpenSpec.ofChange netChecksWrong)

/-- 'terrlaw4.CostLeaves': WHATEVER THE INPUT: true; the input reads as it did. -/
def costLeavesSpec : ChangeSpec := { name := "costLeaves", fn := fun _ => fun
  | [d1, d2, d3, d4, d5] => { results := [.lit (.bool true)], args := [d1, d2, d3, d4, d5] }
  | _ => none }
def costLeavesRow : OpenClaim := { program := "ythjejgaekoopnaa", sum := "227be13bb386cab5c59efc53528401c9a693c88919183956bf12ce8336c7488c", func := "terrier/terrlaw4.CostLeaves", spec := "costLeaves", plainKeys := false, apart := false }
def CostLeavesSaid : Prop := costLeavesRow.holds Try.pinned (OpenSpec.ofChange costLeavesSpec)

/-- ITS FALSE NEIGHBOUR: 'it returns false'. Refute it at one input. -/
def costLeavesWrong : ChangeSpec := { name := "costLeaves", fn := fun _ => fun
  | [d1, d2, d3, d4, d5] => { results := [.lit (.bool false)], args := [d1, d2, d3, d4, d5] }
  | _ => none }
def CostLeavesWrongFalsely : Prop := costLeavesRow.holds Try.pinned (OpenSpec.ofChange costLeavesWrong)

/-- 'terrlaw4.NetCosts': WHATEVER THE INPUT: true; the input reads as it did. -/
def netCostsSpec : ChangeSpec := { name := "netCosts", fn := fun _ => fun
  | [d1, d2, d3, d4, d5] => { results := [.lit (.bool true)], args := [d1, d2, d3, d4, d5] }
  | _ => none }
def netCostsRow : OpenClaim := { program := "ythjejgaekoopnaa", sum := "227be13bb386cab5c59efc53528401c9a693c88919183956bf12ce8336c7488c", func := "terrier/terrlaw4.NetCosts", spec := "netCosts", unfollowed := true, recurses := true, plainKeys := false, apart := false }
def NetCostsSaid : Prop := netCostsRow.holds Try.pinned (OpenSpec.ofChange netCostsSpec)

/-- ITS FALSE NEIGHBOUR: 'it returns false'. Refute it at one input. -/
def netCostsWrong : ChangeSpec := { name := "netCosts", fn := fun _ => fun
  | [d1, d2, d3, d4, d5] => { results := [.lit (.bool false)], args := [d1, d2, d3, d4, d5] }
  | _ => none }
def NetCostsWrongFalsely : Prop := netCostsRow.holds Try.pinned (OpenSpec.ofChange netCostsWrong)

/-- 'terrlaw4.TimedChecks': WHATEVER THE INPUT: true; the input reads as it did. -/
def timedChecksSpec : ChangeSpec := { name := "timedChecks", fn := fun _ => fun
  | [d1, d2, d3, d4] => { results := [.lit (.bool true)], args := [d1, d2, d3, d4] }
  | _ => none }
def timedChecksRow : OpenClaim := { program := "ythjejgaekoopnaa", sum := "227be13bb386cab5c59efc53528401c9a693c88919183956bf12ce8336c7488c", func := "terrier/terrlaw4.TimedChecks", spec := "timedChecks", plainKeys := false, apart := false }
def TimedChecksSaid : Prop := timedChecksRow.holds Try.pinned (OpenSpec.ofChange timedChecksSpec)

/-- ITS FALSE NEIGHBOUR: 'it returns false'. Refute it at one input. -/
def timedChecksWrong : ChangeSpec := { name := "timedChecks", fn := fun _ => fun
  | [d1, d2, d3, d4] => { results := [.lit (.bool false)], args := [d1, d2, d3, d4] }
  | _ => none }
def TimedChecksWrongFalsely : Prop := timedChecksRow.holds Try.pinned (OpenSpec.ofChange timedChecksWrong)

/-- 'terrkeep4.TimedLast': WHATEVER THE INPUT: true; the input reads as it did. -/
def timedLastSpec : ChangeSpec := { name := "timedLast", fn := fun _ => fun
  | [d1, d2, d3, d4] => { results := [.lit (.bool true)], args := [d1, d2, d3, d4] }
  | _ => none }
def timedLastRow : OpenClaim := { program := "ythjejgaekoopnaa", sum := "227be13bb386cab5c59efc53528401c9a693c88919183956bf12ce8336c7488c", func := "terrier/terrkeep4.TimedLast", spec := "timedLast", plainKeys := false, apart := false }
def TimedLastSaid : Prop := timedLastRow.holds Try.pinned (OpenSpec.ofChange timedLastSpec)

/-- ITS FALSE NEIGHBOUR: 'it returns false'. Refute it at one input. -/
def timedLastWrong : ChangeSpec := { name := "timedLast", fn := fun _ => fun
  | [d1, d2, d3, d4] => { results := [.lit (.bool false)], args := [d1, d2, d3, d4] }
  | _ => none }
def TimedLastWrongFalsely : Prop := timedLastRow.holds Try.pinned (OpenSpec.ofChange timedLastWrong)

/-- 'terrlaw4.TimedLasts': WHATEVER THE INPUT: true; the input reads as it did. -/
def timedLastsSpec : ChangeSpec := { name := "timedLasts", fn := fun _ => fun
  | [d1, d2, d3, d4] => { results := [.lit (.bool true)], args := [d1, d2, d3, d4] }
  | _ => none }
def timedLastsRow : OpenClaim := { program := "ythjejgaekoopnaa", sum := "227be13bb386cab5c59efc53528401c9a693c88919183956bf12ce8336c7488c", func := "terrier/terrlaw4.TimedLasts", spec := "timedLasts", plainKeys := false, apart := false }
def TimedLastsSaid : Prop := timedLastsRow.holds Try.pinned (OpenSpec.ofChange timedLastsSpec)

/-- ITS FALSE NEIGHBOUR: 'it returns false'. Refute it at one input. -/
def timedLastsWrong : ChangeSpec := { name := "timedLasts", fn := fun _ => fun
  | [d1, d2, d3, d4] => { results := [.lit (.bool false)], args := [d1, d2, d3, d4] }
  | _ => none }
def TimedLastsWrongFalsely : Prop := timedLastsRow.holds Try.pinned (OpenSpec.ofChange timedLastsWrong)

/-- 'terrkeep4.TimedEarlier': WHATEVER THE INPUT: true; the input reads as it did. -/
def timedEarlierSpec : ChangeSpec := { name := "timedEarlier", fn := fun _ => fun
  | [d1, d2, d3, d4] => { results := [.lit (.bool true)], args := [d1, d2, d3, d4] }
  | _ => none }
def timedEarlierRow : OpenClaim := { program := "ythjejgaekoopnaa", sum := "227be13bb386cab5c59efc53528401c9a693c88919183956bf12ce8336c7488c", func := "terrier/terrkeep4.TimedEarlier", spec := "timedEarlier", plainKeys := false, apart := false }
def TimedEarlierSaid : Prop := timedEarlierRow.holds Try.pinned (OpenSpec.ofChange timedEarlierSpec)

/-- ITS FALSE NEIGHBOUR: 'it returns false'. Refute it at one input. -/
def timedEarlierWrong : ChangeSpec := { name := "timedEarlier", fn := fun _ => fun
  | [d1, d2, d3, d4] => { results := [.lit (.bool false)], args := [d1, d2, d3, d4] }
  | _ => none }
def TimedEarlierWrongFalsely : Prop := timedEarlierRow.holds Try.pinned (OpenSpec.ofChange timedEarlierWrong)

/- THE SECOND FORM. 'bulk': how many values and letters a reading holds, each counted each time it is reached (what is shared counts as often as it is met; a slice's spare places count too). A statement '..UptoSaid' is the law's where the arguments, and the package variables that the reading takes, are together of bulk at most 1048576: NARROWER than '..Said'. Prove '..Said' where nothing that the law and all that it calls make is longer than what came in: it says more and counts as full. Else prove '..UptoSaid'. A law counts once. -/
mutual
def uptoBulk {H : Type} : DataW H → Nat
  | .lit (.string bytes) => bytes.length + 1
  | .lit _ => 1
  | .nil => 1
  | .ptr d => uptoBulk d + 1
  | .slice elems spare => uptoBulkAll elems + uptoBulkAll spare + 1
  | .agg parts => uptoBulkAll parts + 1
  | .iface _ d => uptoBulk d + 1
  | .map entries => uptoBulkEntries entries + 1
  | .held _ => 1
def uptoBulkAll {H : Type} : List (DataW H) → Nat
  | [] => 0
  | d :: r => uptoBulk d + uptoBulkAll r
def uptoBulkEntries {H : Type} : List (Lit × DataW H) → Nat
  | [] => 0
  | x :: r => uptoBulkEntry x + uptoBulkEntries r
def uptoBulkEntry {H : Type} : Lit × DataW H → Nat
  | (.string bytes, d) => bytes.length + uptoBulk d + 1
  | (_, d) => uptoBulk d + 1
 end
def uptoSmall : (H : Type) → List (DataW H) → Bool := fun _ ds => decide (uptoBulkAll ds ≤ 1048576)
def OpenSpec.upto (s : _root_.Go.ChangeSpec) : _root_.Go.OpenSpec := { _root_.Go.OpenSpec.ofChange s with cond := some uptoSmall }

/-- 'terrkeep4.CostLater', WHERE WHAT IT READS IS OF BULK AT MOST 1048576: true; the input reads as it did. -/
def costLaterUptoRow : OpenClaim := { program := "ythjejgaekoopnaa", sum := "227be13bb386cab5c59efc53528401c9a693c88919183956bf12ce8336c7488c", func := "terrier/terrkeep4.CostLater", spec := "costLater", plainKeys := false, apart := false, narrowed := true }
def CostLaterUptoSaid : Prop := costLaterUptoRow.holds Try.pinned (OpenSpec.upto costLaterSpec)

/-- 'terrkeep4.CostShift', WHERE WHAT IT READS IS OF BULK AT MOST 1048576: true; the input reads as it did. -/
def costShiftUptoRow : OpenClaim := { program := "ythjejgaekoopnaa", sum := "227be13bb386cab5c59efc53528401c9a693c88919183956bf12ce8336c7488c", func := "terrier/terrkeep4.CostShift", spec := "costShift", plainKeys := false, apart := false, narrowed := true }
def CostShiftUptoSaid : Prop := costShiftUptoRow.holds Try.pinned (OpenSpec.upto costShiftSpec)

/-- 'terrkeep4.CostLeave', WHERE WHAT IT READS IS OF BULK AT MOST 1048576: true; the input reads as it did. -/
def costLeaveUptoRow : OpenClaim := { program := "ythjejgaekoopnaa", sum := "227be13bb386cab5c59efc53528401c9a693c88919183956bf12ce8336c7488c", func := "terrier/terrkeep4.CostLeave", spec := "costLeave", plainKeys := false, apart := false, narrowed := true }
def CostLeaveUptoSaid : Prop := costLeaveUptoRow.holds Try.pinned (OpenSpec.upto costLeaveSpec)

/-- 'terrlaw4.CostChecks', WHERE WHAT IT READS IS OF BULK AT MOST 1048576: true; the input reads as it did. -/
def costChecksUptoRow : OpenClaim := { program := "ythjejgaekoopnaa", sum := "227be13bb386cab5c59efc53528401c9a693c88919183956bf12ce8336c7488c", func := "terrier/terrlaw4.CostChecks", spec := "costChecks", plainKeys := false, apart := false, narrowed := true }
def CostChecksUptoSaid : Prop := costChecksUptoRow.holds Try.pinned (OpenSpec.upto costChecksSpec)

/-- 'terrkeep4.NetLongs', WHERE WHAT IT READS IS OF BULK AT MOST 1048576: true; the input reads as it did. -/
def netLongsUptoRow : OpenClaim := { program := "ythjejgaekoopnaa", sum := "227be13bb386cab5c59efc53528401c9a693c88919183956bf12ce8336c7488c", func := "terrier/terrkeep4.NetLongs", spec := "netLongs", plainKeys := false, apart := false, narrowed := true }
def NetLongsUptoSaid : Prop := netLongsUptoRow.holds Try.pinned (OpenSpec.upto netLongsSpec)

/-- 'terrlaw4.NetChecks', WHERE WHAT IT READS IS OF BULK AT MOST 1048576: true; the input reads as it did. -/
def netChecksUptoRow : OpenClaim := { program := "ythjejgaekoopnaa", sum := "227be13bb386cab5c59efc53528401c9a693c88919183956bf12ce8336c7488c", func := "terrier/terrlaw4.NetChecks", spec := "netChecks", unfollowed := true, recurses := true, plainKeys := false, apart := false, narrowed := true }
def NetChecksUptoSaid : Prop := netChecksUptoRow.holds Try.pinned (OpenSpec.upto netChecksSpec)

/-- 'terrlaw4.CostLeaves', WHERE WHAT IT READS IS OF BULK AT MOST 1048576: true; the input reads as it did. -/
def costLeavesUptoRow : OpenClaim := { program := "ythjejgaekoopnaa", sum := "227be13bb386cab5c59efc53528401c9a693c88919183956bf12ce8336c7488c", func := "terrier/terrlaw4.CostLeaves", spec := "costLeaves", plainKeys := false, apart := false, narrowed := true }
def CostLeavesUptoSaid : Prop := costLeavesUptoRow.holds Try.pinned (OpenSpec.upto costLeavesSpec)

/-- 'terrlaw4.NetCosts', WHERE WHAT IT READS IS OF BULK AT MOST 1048576: true; the input reads as it did. -/
def netCostsUptoRow : OpenClaim := { program := "ythjejgaekoopnaa", sum := "227be13bb386cab5c59efc53528401c9a693c88919183956bf12ce8336c7488c", func := "terrier/terrlaw4.NetCosts", spec := "netCosts", unfollowed := true, recurses := true, plainKeys := false, apart := false, narrowed := true }
def NetCostsUptoSaid : Prop := netCostsUptoRow.holds Try.pinned (OpenSpec.upto netCostsSpec)

/-- 'terrlaw4.TimedChecks', WHERE WHAT IT READS IS OF BULK AT MOST 1048576: true; the input reads as it did. -/
def timedChecksUptoRow : OpenClaim := { program := "ythjejgaekoopnaa", sum := "227be13bb386cab5c59efc53528401c9a693c88919183956bf12ce8336c7488c", func := "terrier/terrlaw4.TimedChecks", spec := "timedChecks", plainKeys := false, apart := false, narrowed := true }
def TimedChecksUptoSaid : Prop := timedChecksUptoRow.holds Try.pinned (OpenSpec.upto timedChecksSpec)

/-- 'terrkeep4.TimedLast', WHERE WHAT IT READS IS OF BULK AT MOST 1048576: true; the input reads as it did. -/
def timedLastUptoRow : OpenClaim := { program := "ythjejgaekoopnaa", sum := "227be13bb386cab5c59efc53528401c9a693c88919183956bf12ce8336c7488c", func := "terrier/terrkeep4.TimedLast", spec := "timedLast", plainKeys := false, apart := false, narrowed := true }
def TimedLastUptoSaid : Prop := timedLastUptoRow.holds Try.pinned (OpenSpec.upto timedLastSpec)

/-- 'terrlaw4.TimedLasts', WHERE WHAT IT READS IS OF BULK AT MOST 1048576: true; the input reads as it did. -/
def timedLastsUptoRow : OpenClaim := { program := "ythjejgaekoopnaa", sum := "227be13bb386cab5c59efc53528401c9a693c88919183956bf12ce8336c7488c", func := "terrier/terrlaw4.TimedLasts", spec := "timedLasts", plainKeys := false, apart := false, narrowed := true }
def TimedLastsUptoSaid : Prop := timedLastsUptoRow.holds Try.pinned (OpenSpec.upto timedLastsSpec)

/-- 'terrkeep4.TimedEarlier', WHERE WHAT IT READS IS OF BULK AT MOST 1048576: true; the input reads as it did. -/
def timedEarlierUptoRow : OpenClaim := { program := "ythjejgaekoopnaa", sum := "227be13bb386cab5c59efc53528401c9a693c88919183956bf12ce8336c7488c", func := "terrier/terrkeep4.TimedEarlier", spec := "timedEarlier", plainKeys := false, apart := false, narrowed := true }
def TimedEarlierUptoSaid : Prop := timedEarlierUptoRow.holds Try.pinned (OpenSpec.upto timedEarlierSpec)

end Rows
end Go.Proofs.Ythjejgaekoopnaa
