/-
  No cell of these rows narrows 'for every input' (looked for: loops, veiled, ifaces, maps, wideKeys, modest, calm, conditions, laid).
  DERIVED. THE GIVEN ROWS OF THIS SEAT. 5 by the template 'for every input the law returns true; each argument reads behind the call as it read before'; 0 by the template 'total and deterministic' (their statements: YtollcjadobpfdaaGreatTotals.lean).
  GIVEN WITH THE SEED: the statements are not yours to turn. If you find one false, say at which input.
  Laid BY PROGRAM, IN A SANDBOX (cutbox-rows.mjs): the forced cells as the released guide's own fill.sh prints them over the translation 3ac5655f0da4532d… (all of the seat's roots in one cut). By AI agents, Wed Nov 11 2026. No macro, syntax, notation, axiom, sorry.
-/
import Derived.Test.YtollcjadobpfdaaGreatChecked
import GoSem.Claim
import GoSem.ClaimJoined
import GoSem.ClaimMapViews
import Derived.JoinedTies
import Derived.KernelRfl
namespace Go.Proofs.YtollcjadobpfdaaGreat
/- THE CELL 'sum', in the pinned program and in every row, IS THE sha256 OF THE DUMP (.gsa) THAT YtollcjadobpfdaaGreatProg.lean LOADS. Nothing in Lean hashes anything: it is a label: what it is worth is what the hold of that sum in a sandbox is worth. -/
noncomputable def Tryz.pinned : Pinned := { name := "ytollcjadobpfdaagreat", sum := "3ac5655f0da4532dc412242732bce14acdcbaf70662cb0833dc4f758e60d6db0", checked := Tryz.checked }
namespace Rows
def none {H : Type} : Left H := { results := [], args := [] }

/-- 'terrlaw4.ReliefLines': WHATEVER THE INPUT: true; the input reads as it did. -/
def reliefLinesSpec : ChangeSpec := { name := "reliefLines", fn := fun _ => fun
  | [d1, d2, d3] => { results := [.lit (.bool true)], args := [d1, d2, d3] }
  | _ => none }
def reliefLinesRow : OpenClaim := { program := "ytollcjadobpfdaagreat", sum := "3ac5655f0da4532dc412242732bce14acdcbaf70662cb0833dc4f758e60d6db0", func := "terrier/terrlaw4.ReliefLines", spec := "reliefLines", unfollowed := true, recurses := true, plainKeys := false, apart := false }
def ReliefLinesSaid : Prop := reliefLinesRow.holds Tryz.pinned (OpenSpec.ofChange reliefLinesSpec)

/-- ITS FALSE NEIGHBOUR: 'it returns false'. Refute it at one input. -/
def reliefLinesWrong : ChangeSpec := { name := "reliefLines", fn := fun _ => fun
  | [d1, d2, d3] => { results := [.lit (.bool false)], args := [d1, d2, d3] }
  | _ => none }
def ReliefLinesWrongFalsely : Prop := reliefLinesRow.holds Tryz.pinned (OpenSpec.ofChange reliefLinesWrong)

/-- 'terrlaw4.TriChecks': WHATEVER THE INPUT: true; the input reads as it did. -/
def triChecksSpec : ChangeSpec := { name := "triChecks", fn := fun _ => fun
  | [d] => { results := [.lit (.bool true)], args := [d] }
  | _ => none }
def triChecksRow : OpenClaim := { program := "ytollcjadobpfdaagreat", sum := "3ac5655f0da4532dc412242732bce14acdcbaf70662cb0833dc4f758e60d6db0", func := "terrier/terrlaw4.TriChecks", spec := "triChecks", inPlace := ["math/bits.Sub64", "math/bits.Add64"], unfollowed := true, recurses := true, plainKeys := false, apart := false }
def TriChecksSaid : Prop := triChecksRow.holds Tryz.pinned (OpenSpec.ofChange triChecksSpec)

/-- ITS FALSE NEIGHBOUR: 'it returns false'. Refute it at one input. -/
def triChecksWrong : ChangeSpec := { name := "triChecks", fn := fun _ => fun
  | [d] => { results := [.lit (.bool false)], args := [d] }
  | _ => none }
def TriChecksWrongFalsely : Prop := triChecksRow.holds Tryz.pinned (OpenSpec.ofChange triChecksWrong)

/-- 'terrlaw4.TriCircles': WHATEVER THE INPUT: true; the input reads as it did. -/
def triCirclesSpec : ChangeSpec := { name := "triCircles", fn := fun _ => fun
  | [d1, d2, d3, d4, d5] => { results := [.lit (.bool true)], args := [d1, d2, d3, d4, d5] }
  | _ => none }
def triCirclesRow : OpenClaim := { program := "ytollcjadobpfdaagreat", sum := "3ac5655f0da4532dc412242732bce14acdcbaf70662cb0833dc4f758e60d6db0", func := "terrier/terrlaw4.TriCircles", spec := "triCircles", inPlace := ["math/bits.Add64", "math/bits.Sub64"], unfollowed := true, recurses := true, plainKeys := false, apart := false }
def TriCirclesSaid : Prop := triCirclesRow.holds Tryz.pinned (OpenSpec.ofChange triCirclesSpec)

/-- ITS FALSE NEIGHBOUR: 'it returns false'. Refute it at one input. -/
def triCirclesWrong : ChangeSpec := { name := "triCircles", fn := fun _ => fun
  | [d1, d2, d3, d4, d5] => { results := [.lit (.bool false)], args := [d1, d2, d3, d4, d5] }
  | _ => none }
def TriCirclesWrongFalsely : Prop := triCirclesRow.holds Tryz.pinned (OpenSpec.ofChange triCirclesWrong)

/-- 'terrlaw4.CdtChecks': WHATEVER THE INPUT: true; the input reads as it did. -/
def cdtChecksSpec : ChangeSpec := { name := "cdtChecks", fn := fun _ => fun
  | [d1, d2] => { results := [.lit (.bool true)], args := [d1, d2] }
  | _ => none }
def cdtChecksRow : OpenClaim := { program := "ytollcjadobpfdaagreat", sum := "3ac5655f0da4532dc412242732bce14acdcbaf70662cb0833dc4f758e60d6db0", func := "terrier/terrlaw4.CdtChecks", spec := "cdtChecks", inPlace := ["math/bits.Add64", "math/bits.Sub64"], unfollowed := true, recurses := true, plainKeys := false, apart := false }
def CdtChecksSaid : Prop := cdtChecksRow.holds Tryz.pinned (OpenSpec.ofChange cdtChecksSpec)

/-- ITS FALSE NEIGHBOUR: 'it returns false'. Refute it at one input. -/
def cdtChecksWrong : ChangeSpec := { name := "cdtChecks", fn := fun _ => fun
  | [d1, d2] => { results := [.lit (.bool false)], args := [d1, d2] }
  | _ => none }
def CdtChecksWrongFalsely : Prop := cdtChecksRow.holds Tryz.pinned (OpenSpec.ofChange cdtChecksWrong)

/-- 'terrlaw4.TriFinds': WHATEVER THE INPUT: true; the input reads as it did. -/
def triFindsSpec : ChangeSpec := { name := "triFinds", fn := fun _ => fun
  | [d1, d2, d3, d4] => { results := [.lit (.bool true)], args := [d1, d2, d3, d4] }
  | _ => none }
def triFindsRow : OpenClaim := { program := "ytollcjadobpfdaagreat", sum := "3ac5655f0da4532dc412242732bce14acdcbaf70662cb0833dc4f758e60d6db0", func := "terrier/terrlaw4.TriFinds", spec := "triFinds", inPlace := ["math/bits.Add64", "math/bits.Sub64"], unfollowed := true, recurses := true, plainKeys := false, apart := false }
def TriFindsSaid : Prop := triFindsRow.holds Tryz.pinned (OpenSpec.ofChange triFindsSpec)

/-- ITS FALSE NEIGHBOUR: 'it returns false'. Refute it at one input. -/
def triFindsWrong : ChangeSpec := { name := "triFinds", fn := fun _ => fun
  | [d1, d2, d3, d4] => { results := [.lit (.bool false)], args := [d1, d2, d3, d4] }
  | _ => none }
def TriFindsWrongFalsely : Prop := triFindsRow.holds Tryz.pinned (OpenSpec.ofChange triFindsWrong)

/- THE SECOND FORM. 'bulk': how many values and letters a reading holds, each counted each time it is reached (what is shared counts as often as it is met; a slice's spare places count too). A statement '..UptoSaid' is the law's where the arguments, and the package variables that the reading takes, are together of bulk at most 1048576: NARROWER than '..Said'. Prove '..Said' where nothing that the law and all that it calls make is longer than what came in: it says more and counts as full. Else prove '..UptoSaid'. A law counts once. -/
mutual
def uptoBulk {H : Type} : DataW H → Nat
  | .lit (.string bytes) => bytes.length + 1
  | .lit _ => 1
  | .nil => 1
  | .ptr d => uptoBulk d + 1
  | .slice elems spare => uptoBulkAll elems + uptoBulkAll spare + 1
  | .agg parts => uptoBulkAll parts + 1
  | .iface _ d => uptoBulk d + 1
  | .map entries => uptoBulkEntries entries + 1
  | .held _ => 1
def uptoBulkAll {H : Type} : List (DataW H) → Nat
  | [] => 0
  | d :: r => uptoBulk d + uptoBulkAll r
def uptoBulkEntries {H : Type} : List (Lit × DataW H) → Nat
  | [] => 0
  | x :: r => uptoBulkEntry x + uptoBulkEntries r
def uptoBulkEntry {H : Type} : Lit × DataW H → Nat
  | (.string bytes, d) => bytes.length + uptoBulk d + 1
  | (_, d) => uptoBulk d + 1
 end
def uptoSmall : (H : Type) → List (DataW H) → Bool := fun _ ds => decide (uptoBulkAll ds ≤ 1048576)
def OpenSpec.upto (s : _root_.Go.ChangeSpec) : _root_.Go.OpenSpec := { _root_.Go.OpenSpec.ofChange s with cond := some uptoSmall }

/-- 'terrlaw4.ReliefLines', WHERE WHAT IT READS IS OF BULK AT MOST 1048576: true; the input reads as it did. -/
def reliefLinesUptoRow : OpenClaim := { program := "ytollcjadobpfdaagreat", sum := "3ac5655f0da4532dc412242732bce14acdcbaf70662cb0833dc4f758e60d6db0", func := "terrier/terrlaw4.ReliefLines", spec := "reliefLines", unfollowed := true, recurses := true, plainKeys := false, apart := false, narrowed := true }
def ReliefLinesUptoSaid : Prop := reliefLinesUptoRow.holds Tryz.pinned (OpenSpec.upto reliefLinesSpec)

/-- 'terrlaw4.TriChecks', WHERE WHAT IT READS IS OF BULK AT MOST 1048576: true; the input reads as it did. -/
def triChecksUptoRow : OpenClaim := { program := "ytollcjadobpfdaagreat", sum := "3ac5655f0da4532dc412242732bce14acdcbaf70662cb0833dc4f758e60d6db0", func := "terrier/terrlaw4.TriChecks", spec := "triChecks", inPlace := ["math/bits.Sub64", "math/bits.Add64"], unfollowed := true, recurses := true, plainKeys := false, apart := false, narrowed := true }
def TriChecksUptoSaid : Prop := triChecksUptoRow.holds Tryz.pinned (OpenSpec.upto triChecksSpec)

/-- 'terrlaw4.TriCircles', WHERE WHAT IT READS IS OF BULK AT MOST 1048576: true; the input reads as it did. -/
def triCirclesUptoRow : OpenClaim := { program := "ytollcjadobpfdaagreat", sum := "3ac5655f0da4532dc412242732bce14acdcbaf70662cb0833dc4f758e60d6db0", func := "terrier/terrlaw4.TriCircles", spec := "triCircles", inPlace := ["math/bits.Add64", "math/bits.Sub64"], unfollowed := true, recurses := true, plainKeys := false, apart := false, narrowed := true }
def TriCirclesUptoSaid : Prop := triCirclesUptoRow.holds Tryz.pinned (OpenSpec.upto triCirclesSpec)

/-- 'terrlaw4.CdtChecks', WHERE WHAT IT READS IS OF BULK AT MOST 1048576: true; the input reads as it did. -/
def cdtChecksUptoRow : OpenClaim := { program := "ytollcjadobpfdaagreat", sum := "3ac5655f0da4532dc412242732bce14acdcbaf70662cb0833dc4f758e60d6db0", func := "terrier/terrlaw4.CdtChecks", spec := "cdtChecks", inPlace := ["math/bits.Add64", "math/bits.Sub64"], unfollowed := true, recurses := true, plainKeys := false, apart := false, narrowed := true }
def CdtChecksUptoSaid : Prop := cdtChecksUptoRow.holds Tryz.pinned (OpenSpec.upto cdtChecksSpec)

/-- 'terrlaw4.TriFinds', WHERE WHAT IT READS IS OF BULK AT MOST 1048576: true; the input reads as it did. -/
def triFindsUptoRow : OpenClaim := { program := "ytollcjadobpfdaagreat", sum := "3ac5655f0da4532dc412242732bce14acdcbaf70662cb0833dc4f758e60d6db0", func := "terrier/terrlaw4.TriFinds", spec := "triFinds", inPlace := ["math/bits.Add64", "math/bits.Sub64"], unfollowed := true, recurses := true, plainKeys := false, apart := false, narrowed := true }
def TriFindsUptoSaid : Prop := triFindsUptoRow.holds Tryz.pinned (OpenSpec.upto triFindsSpec)

end Rows
end Go.Proofs.YtollcjadobpfdaaGreat
