/-
  No cell of these rows narrows 'for every input' (looked for: loops, veiled, ifaces, maps, wideKeys, modest, calm, conditions, laid).
  DERIVED. THE GIVEN ROWS OF THIS SEAT. 7 by the template 'for every input the law returns true; each argument reads behind the call as it read before'; 0 by the template 'total and deterministic' (their statements: YtollcjadobpfdaaTotals.lean).
  GIVEN WITH THE SEED: the statements are not yours to turn. If you find one false, say at which input.
  Laid BY PROGRAM, IN A SANDBOX (cutbox-rows.mjs): the forced cells as the released guide's own fill.sh prints them over the translation 145d8297094a3051… (all of the seat's roots in one cut). By AI agents, Wed Nov 11 2026. No macro, syntax, notation, axiom, sorry.
-/
import Derived.Test.YtollcjadobpfdaaChecked
import GoSem.Claim
import GoSem.ClaimJoined
import GoSem.ClaimMapViews
import Derived.JoinedTies
import Derived.KernelRfl
namespace Go.Proofs.Ytollcjadobpfdaa
/- THE CELL 'sum', in the pinned program and in every row, IS THE sha256 OF THE DUMP (.gsa) THAT YtollcjadobpfdaaProg.lean LOADS. Nothing in Lean hashes anything: it is a label: what it is worth is what the hold of that sum in a sandbox is worth. -/
noncomputable def Try.pinned : Pinned := { name := "ytollcjadobpfdaa", sum := "145d8297094a3051ba146fd3400c02b189a56c31d11ce0536b2c7d66ec47e8e4", checked := Try.checked }
namespace Rows
def none {H : Type} : Left H := { results := [], args := [] }

/-- 'terrlaw4.ReliefHeights': WHATEVER THE INPUT: true; the input reads as it did. -/
def reliefHeightsSpec : ChangeSpec := { name := "reliefHeights", fn := fun _ => fun
  | [d1, d2, d3] => { results := [.lit (.bool true)], args := [d1, d2, d3] }
  | _ => none }
def reliefHeightsRow : OpenClaim := { program := "ytollcjadobpfdaa", sum := "145d8297094a3051ba146fd3400c02b189a56c31d11ce0536b2c7d66ec47e8e4", func := "terrier/terrlaw4.ReliefHeights", spec := "reliefHeights", unfollowed := true, recurses := true, plainKeys := false, apart := false }
def ReliefHeightsSaid : Prop := reliefHeightsRow.holds Try.pinned (OpenSpec.ofChange reliefHeightsSpec)

/-- ITS FALSE NEIGHBOUR: 'it returns false'. Refute it at one input. -/
def reliefHeightsWrong : ChangeSpec := { name := "reliefHeights", fn := fun _ => fun
  | [d1, d2, d3] => { results := [.lit (.bool false)], args := [d1, d2, d3] }
  | _ => none }
def ReliefHeightsWrongFalsely : Prop := reliefHeightsRow.holds Try.pinned (OpenSpec.ofChange reliefHeightsWrong)

/-- 'terrlaw4.ReliefContours': WHATEVER THE INPUT: true; the input reads as it did. -/
def reliefContoursSpec : ChangeSpec := { name := "reliefContours", fn := fun _ => fun
  | [d1, d2, d3] => { results := [.lit (.bool true)], args := [d1, d2, d3] }
  | _ => none }
def reliefContoursRow : OpenClaim := { program := "ytollcjadobpfdaa", sum := "145d8297094a3051ba146fd3400c02b189a56c31d11ce0536b2c7d66ec47e8e4", func := "terrier/terrlaw4.ReliefContours", spec := "reliefContours", unfollowed := true, recurses := true, plainKeys := false, apart := false }
def ReliefContoursSaid : Prop := reliefContoursRow.holds Try.pinned (OpenSpec.ofChange reliefContoursSpec)

/-- ITS FALSE NEIGHBOUR: 'it returns false'. Refute it at one input. -/
def reliefContoursWrong : ChangeSpec := { name := "reliefContours", fn := fun _ => fun
  | [d1, d2, d3] => { results := [.lit (.bool false)], args := [d1, d2, d3] }
  | _ => none }
def ReliefContoursWrongFalsely : Prop := reliefContoursRow.holds Try.pinned (OpenSpec.ofChange reliefContoursWrong)

/-- 'terrlaw4.SightNeeds': WHATEVER THE INPUT: true; the input reads as it did. -/
def sightNeedsSpec : ChangeSpec := { name := "sightNeeds", fn := fun _ => fun
  | [d1, d2, d3, d4, d5] => { results := [.lit (.bool true)], args := [d1, d2, d3, d4, d5] }
  | _ => none }
def sightNeedsRow : OpenClaim := { program := "ytollcjadobpfdaa", sum := "145d8297094a3051ba146fd3400c02b189a56c31d11ce0536b2c7d66ec47e8e4", func := "terrier/terrlaw4.SightNeeds", spec := "sightNeeds", unfollowed := true, recurses := true, plainKeys := false, apart := false }
def SightNeedsSaid : Prop := sightNeedsRow.holds Try.pinned (OpenSpec.ofChange sightNeedsSpec)

/-- ITS FALSE NEIGHBOUR: 'it returns false'. Refute it at one input. -/
def sightNeedsWrong : ChangeSpec := { name := "sightNeeds", fn := fun _ => fun
  | [d1, d2, d3, d4, d5] => { results := [.lit (.bool false)], args := [d1, d2, d3, d4, d5] }
  | _ => none }
def SightNeedsWrongFalsely : Prop := sightNeedsRow.holds Try.pinned (OpenSpec.ofChange sightNeedsWrong)

/-- 'terrlaw4.SightAll': WHATEVER THE INPUT: true; the input reads as it did. -/
def sightAllSpec : ChangeSpec := { name := "sightAll", fn := fun _ => fun
  | [d1, d2, d3, d4] => { results := [.lit (.bool true)], args := [d1, d2, d3, d4] }
  | _ => none }
def sightAllRow : OpenClaim := { program := "ytollcjadobpfdaa", sum := "145d8297094a3051ba146fd3400c02b189a56c31d11ce0536b2c7d66ec47e8e4", func := "terrier/terrlaw4.SightAll", spec := "sightAll", unfollowed := true, recurses := true, plainKeys := false, apart := false }
def SightAllSaid : Prop := sightAllRow.holds Try.pinned (OpenSpec.ofChange sightAllSpec)

/-- ITS FALSE NEIGHBOUR: 'it returns false'. Refute it at one input. -/
def sightAllWrong : ChangeSpec := { name := "sightAll", fn := fun _ => fun
  | [d1, d2, d3, d4] => { results := [.lit (.bool false)], args := [d1, d2, d3, d4] }
  | _ => none }
def SightAllWrongFalsely : Prop := sightAllRow.holds Try.pinned (OpenSpec.ofChange sightAllWrong)

/-- 'terrlaw4.ReliefPlaces': WHATEVER THE INPUT: true; the input reads as it did. -/
def reliefPlacesSpec : ChangeSpec := { name := "reliefPlaces", fn := fun _ => fun
  | [d1, d2, d3, d4] => { results := [.lit (.bool true)], args := [d1, d2, d3, d4] }
  | _ => none }
def reliefPlacesRow : OpenClaim := { program := "ytollcjadobpfdaa", sum := "145d8297094a3051ba146fd3400c02b189a56c31d11ce0536b2c7d66ec47e8e4", func := "terrier/terrlaw4.ReliefPlaces", spec := "reliefPlaces", unfollowed := true, recurses := true, plainKeys := false, apart := false }
def ReliefPlacesSaid : Prop := reliefPlacesRow.holds Try.pinned (OpenSpec.ofChange reliefPlacesSpec)

/-- ITS FALSE NEIGHBOUR: 'it returns false'. Refute it at one input. -/
def reliefPlacesWrong : ChangeSpec := { name := "reliefPlaces", fn := fun _ => fun
  | [d1, d2, d3, d4] => { results := [.lit (.bool false)], args := [d1, d2, d3, d4] }
  | _ => none }
def ReliefPlacesWrongFalsely : Prop := reliefPlacesRow.holds Try.pinned (OpenSpec.ofChange reliefPlacesWrong)

/-- 'terrlaw4.ShedFlows': WHATEVER THE INPUT: true; the input reads as it did. -/
def shedFlowsSpec : ChangeSpec := { name := "shedFlows", fn := fun _ => fun
  | [d1, d2, d3, d4] => { results := [.lit (.bool true)], args := [d1, d2, d3, d4] }
  | _ => none }
def shedFlowsRow : OpenClaim := { program := "ytollcjadobpfdaa", sum := "145d8297094a3051ba146fd3400c02b189a56c31d11ce0536b2c7d66ec47e8e4", func := "terrier/terrlaw4.ShedFlows", spec := "shedFlows", unfollowed := true, recurses := true, plainKeys := false, apart := false }
def ShedFlowsSaid : Prop := shedFlowsRow.holds Try.pinned (OpenSpec.ofChange shedFlowsSpec)

/-- ITS FALSE NEIGHBOUR: 'it returns false'. Refute it at one input. -/
def shedFlowsWrong : ChangeSpec := { name := "shedFlows", fn := fun _ => fun
  | [d1, d2, d3, d4] => { results := [.lit (.bool false)], args := [d1, d2, d3, d4] }
  | _ => none }
def ShedFlowsWrongFalsely : Prop := shedFlowsRow.holds Try.pinned (OpenSpec.ofChange shedFlowsWrong)

/-- 'terrlaw4.ShedFills': WHATEVER THE INPUT: true; the input reads as it did. -/
def shedFillsSpec : ChangeSpec := { name := "shedFills", fn := fun _ => fun
  | [d1, d2] => { results := [.lit (.bool true)], args := [d1, d2] }
  | _ => none }
def shedFillsRow : OpenClaim := { program := "ytollcjadobpfdaa", sum := "145d8297094a3051ba146fd3400c02b189a56c31d11ce0536b2c7d66ec47e8e4", func := "terrier/terrlaw4.ShedFills", spec := "shedFills", unfollowed := true, recurses := true, plainKeys := false, apart := false }
def ShedFillsSaid : Prop := shedFillsRow.holds Try.pinned (OpenSpec.ofChange shedFillsSpec)

/-- ITS FALSE NEIGHBOUR: 'it returns false'. Refute it at one input. -/
def shedFillsWrong : ChangeSpec := { name := "shedFills", fn := fun _ => fun
  | [d1, d2] => { results := [.lit (.bool false)], args := [d1, d2] }
  | _ => none }
def ShedFillsWrongFalsely : Prop := shedFillsRow.holds Try.pinned (OpenSpec.ofChange shedFillsWrong)

/- THE SECOND FORM. 'bulk': how many values and letters a reading holds, each counted each time it is reached (what is shared counts as often as it is met; a slice's spare places count too). A statement '..UptoSaid' is the law's where the arguments, and the package variables that the reading takes, are together of bulk at most 1048576: NARROWER than '..Said'. Prove '..Said' where nothing that the law and all that it calls make is longer than what came in: it says more and counts as full. Else prove '..UptoSaid'. A law counts once. -/
mutual
def uptoBulk {H : Type} : DataW H → Nat
  | .lit (.string bytes) => bytes.length + 1
  | .lit _ => 1
  | .nil => 1
  | .ptr d => uptoBulk d + 1
  | .slice elems spare => uptoBulkAll elems + uptoBulkAll spare + 1
  | .agg parts => uptoBulkAll parts + 1
  | .iface _ d => uptoBulk d + 1
  | .map entries => uptoBulkEntries entries + 1
  | .held _ => 1
def uptoBulkAll {H : Type} : List (DataW H) → Nat
  | [] => 0
  | d :: r => uptoBulk d + uptoBulkAll r
def uptoBulkEntries {H : Type} : List (Lit × DataW H) → Nat
  | [] => 0
  | x :: r => uptoBulkEntry x + uptoBulkEntries r
def uptoBulkEntry {H : Type} : Lit × DataW H → Nat
  | (.string bytes, d) => bytes.length + uptoBulk d + 1
  | (_, d) => uptoBulk d + 1
 end
def uptoSmall : (H : Type) → List (DataW H) → Bool := fun _ ds => decide (uptoBulkAll ds ≤ 1048576)
def OpenSpec.upto (s : _root_.Go.ChangeSpec) : _root_.Go.OpenSpec := { _root_.Go.OpenSpec.ofChange s with cond := some uptoSmall }

/-- 'terrlaw4.ReliefHeights', WHERE WHAT IT READS IS OF BULK AT MOST 1048576: true; the input reads as it did. -/
def reliefHeightsUptoRow : OpenClaim := { program := "ytollcjadobpfdaa", sum := "145d8297094a3051ba146fd3400c02b189a56c31d11ce0536b2c7d66ec47e8e4", func := "terrier/terrlaw4.ReliefHeights", spec := "reliefHeights", unfollowed := true, recurses := true, plainKeys := false, apart := false, narrowed := true }
def ReliefHeightsUptoSaid : Prop := reliefHeightsUptoRow.holds Try.pinned (OpenSpec.upto reliefHeightsSpec)

/-- 'terrlaw4.ReliefContours', WHERE WHAT IT READS IS OF BULK AT MOST 1048576: true; the input reads as it did. -/
def reliefContoursUptoRow : OpenClaim := { program := "ytollcjadobpfdaa", sum := "145d8297094a3051ba146fd3400c02b189a56c31d11ce0536b2c7d66ec47e8e4", func := "terrier/terrlaw4.ReliefContours", spec := "reliefContours", unfollowed := true, recurses := true, plainKeys := false, apart := false, narrowed := true }
def ReliefContoursUptoSaid : Prop := reliefContoursUptoRow.holds Try.pinned (OpenSpec.upto reliefContoursSpec)

/-- 'terrlaw4.SightNeeds', WHERE WHAT IT READS IS OF BULK AT MOST 1048576: true; the input reads as it did. -/
def sightNeedsUptoRow : OpenClaim := { program := "ytollcjadobpfdaa", sum := "145d8297094a3051ba146fd3400c02b189a56c31d11ce0536b2c7d66ec47e8e4", func := "terrier/terrlaw4.SightNeeds", spec := "sightNeeds", unfollowed := true, recurses := true, plainKeys := false, apart := false, narrowed := true }
def SightNeedsUptoSaid : Prop := sightNeedsUptoRow.holds Try.pinned (OpenSpec.upto sightNeedsSpec)

/-- 'terrlaw4.SightAll', WHERE WHAT IT READS IS OF BULK AT MOST 1048576: true; the input reads as it did. -/
def sightAllUptoRow : OpenClaim := { program := "ytollcjadobpfdaa", sum := "145d8297094a3051ba146fd3400c02b189a56c31d11ce0536b2c7d66ec47e8e4", func := "terrier/terrlaw4.SightAll", spec := "sightAll", unfollowed := true, recurses := true, plainKeys := false, apart := false, narrowed := true }
def SightAllUptoSaid : Prop := sightAllUptoRow.holds Try.pinned (OpenSpec.upto sightAllSpec)

/-- 'terrlaw4.ReliefPlaces', WHERE WHAT IT READS IS OF BULK AT MOST 1048576: true; the input reads as it did. -/
def reliefPlacesUptoRow : OpenClaim := { program := "ytollcjadobpfdaa", sum := "145d8297094a3051ba146fd3400c02b189a56c31d11ce0536b2c7d66ec47e8e4", func := "terrier/terrlaw4.ReliefPlaces", spec := "reliefPlaces", unfollowed := true, recurses := true, plainKeys := false, apart := false, narrowed := true }
def ReliefPlacesUptoSaid : Prop := reliefPlacesUptoRow.holds Try.pinned (OpenSpec.upto reliefPlacesSpec)

/-- 'terrlaw4.ShedFlows', WHERE WHAT IT READS IS OF BULK AT MOST 1048576: true; the input reads as it did. -/
def shedFlowsUptoRow : OpenClaim := { program := "ytollcjadobpfdaa", sum := "145d8297094a3051ba146fd3400c02b189a56c31d11ce0536b2c7d66ec47e8e4", func := "terrier/terrlaw4.ShedFlows", spec := "shedFlows", unfollowed := true, recurses := true, plainKeys := false, apart := false, narrowed := true }
def ShedFlowsUptoSaid : Prop := shedFlowsUptoRow.holds Try.pinned (OpenSpec.upto shedFlowsSpec)

/-- 'terrlaw4.ShedFills', WHERE WHAT IT READS IS OF BULK AT MOST 1048576: true; the input reads as it did. -/
def shedFillsUptoRow : OpenClaim := { program := "ytollcjadobpfdaa", sum := "145d8297094a3051ba146fd3400c02b189a56c31d11ce0536b2c7d66ec47e8e4", func := "terrier/terrlaw4.ShedFills", spec := "shedFills", unfollowed := true, recurses := true, plainKeys := false, apart := false, narrowed := true }
def ShedFillsUptoSaid : Prop := shedFillsUptoRow.holds Try.pinned (OpenSpec.upto shedFillsSpec)

end Rows
end Go.Proofs.Ytollcjadobpfdaa
