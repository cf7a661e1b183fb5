/-
  No cell of these rows narrows 'for every input' (looked for: loops, veiled, ifaces, maps, wideKeys, modest, calm, conditions, laid).
  DERIVED. THE GIVEN ROWS OF THIS SEAT. 11 by the template 'for every input the law returns true; each argument reads behind the call as it read before'; 0 by the template 'total and deterministic' (their statements: YthfjdcdbimjkjaaTotals.lean).
  GIVEN WITH THE SEED: the statements are not yours to turn. If you find one false, say at which input.
  Laid BY PROGRAM, IN A SANDBOX (cutbox-rows.mjs): the forced cells as the released guide's own fill.sh prints them over the translation 8f4b55da83438534… (all of the seat's roots in one cut). By AI agents, Wed Nov 11 2026. No macro, syntax, notation, axiom, sorry.
-/
import Derived.Test.YthfjdcdbimjkjaaChecked
import GoSem.Claim
import GoSem.ClaimJoined
import GoSem.ClaimMapViews
import Derived.JoinedTies
import Derived.KernelRfl
namespace Go.Proofs.Ythfjdcdbimjkjaa
/- THE CELL 'sum', in the pinned program and in every row, IS THE sha256 OF THE DUMP (.gsa) THAT YthfjdcdbimjkjaaProg.lean LOADS. Nothing in Lean hashes anything: it is a label: what it is worth is what the hold of that sum in a sandbox is worth. -/
noncomputable def Try.pinned : Pinned := { name := "ythfjdcdbimjkjaa", sum := "8f4b55da8343853482825dc4643eaf1cabc087bc84fae8cc24e021b028f865a3", checked := Try.checked }
namespace Rows
def none {H : Type} : Left H := { results := [], args := [] }

/-- 'terrtop.TopTimes': WHATEVER THE INPUT: true; the input reads as it did. -/
def topTimesSpec : ChangeSpec := { name := "topTimes", fn := fun _ => fun
  | [d1, d2] => { results := [.lit (.bool true)], args := [d1, d2] }
  | _ => none }
def topTimesRow : OpenClaim := { program := "ythfjdcdbimjkjaa", sum := "8f4b55da8343853482825dc4643eaf1cabc087bc84fae8cc24e021b028f865a3", func := "terrier/terrtop.TopTimes", spec := "topTimes", unfollowed := true, recurses := true, plainKeys := false, apart := false }
def TopTimesSaid : Prop := topTimesRow.holds Try.pinned (OpenSpec.ofChange topTimesSpec)

/-- ITS FALSE NEIGHBOUR: 'it returns false'. Refute it at one input. -/
def topTimesWrong : ChangeSpec := { name := "topTimes", fn := fun _ => fun
  | [d1, d2] => { results := [.lit (.bool false)], args := [d1, d2] }
  | _ => none }
def TopTimesWrongFalsely : Prop := topTimesRow.holds Try.pinned (OpenSpec.ofChange topTimesWrong)

/-- 'terrlaw4.HierSays': WHATEVER THE INPUT: true; the input reads as it did. -/
def hierSaysSpec : ChangeSpec := { name := "hierSays", fn := fun _ => fun
  | [d1, d2, d3] => { results := [.lit (.bool true)], args := [d1, d2, d3] }
  | _ => none }
def hierSaysRow : OpenClaim := { program := "ythfjdcdbimjkjaa", sum := "8f4b55da8343853482825dc4643eaf1cabc087bc84fae8cc24e021b028f865a3", func := "terrier/terrlaw4.HierSays", spec := "hierSays", unfollowed := true, recurses := true, plainKeys := false, apart := false }
def HierSaysSaid : Prop := hierSaysRow.holds Try.pinned (OpenSpec.ofChange hierSaysSpec)

/-- ITS FALSE NEIGHBOUR: 'it returns false'. Refute it at one input. -/
def hierSaysWrong : ChangeSpec := { name := "hierSays", fn := fun _ => fun
  | [d1, d2, d3] => { results := [.lit (.bool false)], args := [d1, d2, d3] }
  | _ => none }
def HierSaysWrongFalsely : Prop := hierSaysRow.holds Try.pinned (OpenSpec.ofChange hierSaysWrong)

/-- 'terrkeep4.HierSame': WHATEVER THE INPUT: true; the input reads as it did. -/
def hierSameSpec : ChangeSpec := { name := "hierSame", fn := fun _ => fun
  | [d1, d2] => { results := [.lit (.bool true)], args := [d1, d2] }
  | _ => none }
def hierSameRow : OpenClaim := { program := "ythfjdcdbimjkjaa", sum := "8f4b55da8343853482825dc4643eaf1cabc087bc84fae8cc24e021b028f865a3", func := "terrier/terrkeep4.HierSame", spec := "hierSame", unfollowed := true, recurses := true, plainKeys := false, apart := false }
def HierSameSaid : Prop := hierSameRow.holds Try.pinned (OpenSpec.ofChange hierSameSpec)

/-- ITS FALSE NEIGHBOUR: 'it returns false'. Refute it at one input. -/
def hierSameWrong : ChangeSpec := { name := "hierSame", fn := fun _ => fun
  | [d1, d2] => { results := [.lit (.bool false)], args := [d1, d2] }
  | _ => none }
def HierSameWrongFalsely : Prop := hierSameRow.holds Try.pinned (OpenSpec.ofChange hierSameWrong)

/-- 'terrkeep4.IsoTour': WHATEVER THE INPUT: true; the input reads as it did. -/
def isoTourSpec : ChangeSpec := { name := "isoTour", fn := fun _ => fun
  | [d1, d2] => { results := [.lit (.bool true)], args := [d1, d2] }
  | _ => none }
def isoTourRow : OpenClaim := { program := "ythfjdcdbimjkjaa", sum := "8f4b55da8343853482825dc4643eaf1cabc087bc84fae8cc24e021b028f865a3", func := "terrier/terrkeep4.IsoTour", spec := "isoTour", unfollowed := true, recurses := true, plainKeys := false, apart := false }
def IsoTourSaid : Prop := isoTourRow.holds Try.pinned (OpenSpec.ofChange isoTourSpec)

/-- ITS FALSE NEIGHBOUR: 'it returns false'. Refute it at one input. -/
def isoTourWrong : ChangeSpec := { name := "isoTour", fn := fun _ => fun
  | [d1, d2] => { results := [.lit (.bool false)], args := [d1, d2] }
  | _ => none }
def IsoTourWrongFalsely : Prop := isoTourRow.holds Try.pinned (OpenSpec.ofChange isoTourWrong)

/-- 'terrlaw4.MultiBests': WHATEVER THE INPUT: true; the input reads as it did. -/
def multiBestsSpec : ChangeSpec := { name := "multiBests", fn := fun _ => fun
  | [d1, d2, d3, d4] => { results := [.lit (.bool true)], args := [d1, d2, d3, d4] }
  | _ => none }
def multiBestsRow : OpenClaim := { program := "ythfjdcdbimjkjaa", sum := "8f4b55da8343853482825dc4643eaf1cabc087bc84fae8cc24e021b028f865a3", func := "terrier/terrlaw4.MultiBests", spec := "multiBests", unfollowed := true, recurses := true, plainKeys := false, apart := false }
def MultiBestsSaid : Prop := multiBestsRow.holds Try.pinned (OpenSpec.ofChange multiBestsSpec)

/-- ITS FALSE NEIGHBOUR: 'it returns false'. Refute it at one input. -/
def multiBestsWrong : ChangeSpec := { name := "multiBests", fn := fun _ => fun
  | [d1, d2, d3, d4] => { results := [.lit (.bool false)], args := [d1, d2, d3, d4] }
  | _ => none }
def MultiBestsWrongFalsely : Prop := multiBestsRow.holds Try.pinned (OpenSpec.ofChange multiBestsWrong)

/-- 'terrkeep4.MultiEnds': WHATEVER THE INPUT: true; the input reads as it did. -/
def multiEndsSpec : ChangeSpec := { name := "multiEnds", fn := fun _ => fun
  | [d1, d2, d3] => { results := [.lit (.bool true)], args := [d1, d2, d3] }
  | _ => none }
def multiEndsRow : OpenClaim := { program := "ythfjdcdbimjkjaa", sum := "8f4b55da8343853482825dc4643eaf1cabc087bc84fae8cc24e021b028f865a3", func := "terrier/terrkeep4.MultiEnds", spec := "multiEnds", unfollowed := true, recurses := true, plainKeys := false, apart := false }
def MultiEndsSaid : Prop := multiEndsRow.holds Try.pinned (OpenSpec.ofChange multiEndsSpec)

/-- ITS FALSE NEIGHBOUR: 'it returns false'. Refute it at one input. -/
def multiEndsWrong : ChangeSpec := { name := "multiEnds", fn := fun _ => fun
  | [d1, d2, d3] => { results := [.lit (.bool false)], args := [d1, d2, d3] }
  | _ => none }
def MultiEndsWrongFalsely : Prop := multiEndsRow.holds Try.pinned (OpenSpec.ofChange multiEndsWrong)

/-- 'terrkeep4.MultiChoice': WHATEVER THE INPUT: true; the input reads as it did. -/
def multiChoiceSpec : ChangeSpec := { name := "multiChoice", fn := fun _ => fun
  | [d1, d2, d3] => { results := [.lit (.bool true)], args := [d1, d2, d3] }
  | _ => none }
def multiChoiceRow : OpenClaim := { program := "ythfjdcdbimjkjaa", sum := "8f4b55da8343853482825dc4643eaf1cabc087bc84fae8cc24e021b028f865a3", func := "terrier/terrkeep4.MultiChoice", spec := "multiChoice", unfollowed := true, recurses := true, plainKeys := false, apart := false }
def MultiChoiceSaid : Prop := multiChoiceRow.holds Try.pinned (OpenSpec.ofChange multiChoiceSpec)

/-- ITS FALSE NEIGHBOUR: 'it returns false'. Refute it at one input. -/
def multiChoiceWrong : ChangeSpec := { name := "multiChoice", fn := fun _ => fun
  | [d1, d2, d3] => { results := [.lit (.bool false)], args := [d1, d2, d3] }
  | _ => none }
def MultiChoiceWrongFalsely : Prop := multiChoiceRow.holds Try.pinned (OpenSpec.ofChange multiChoiceWrong)

/-- 'terrtop.TopChoices': WHATEVER THE INPUT: true; the input reads as it did. -/
def topChoicesSpec : ChangeSpec := { name := "topChoices", fn := fun _ => fun
  | [d1, d2, d3, d4, d5] => { results := [.lit (.bool true)], args := [d1, d2, d3, d4, d5] }
  | _ => none }
def topChoicesRow : OpenClaim := { program := "ythfjdcdbimjkjaa", sum := "8f4b55da8343853482825dc4643eaf1cabc087bc84fae8cc24e021b028f865a3", func := "terrier/terrtop.TopChoices", spec := "topChoices", unfollowed := true, recurses := true, plainKeys := false, apart := false }
def TopChoicesSaid : Prop := topChoicesRow.holds Try.pinned (OpenSpec.ofChange topChoicesSpec)

/-- ITS FALSE NEIGHBOUR: 'it returns false'. Refute it at one input. -/
def topChoicesWrong : ChangeSpec := { name := "topChoices", fn := fun _ => fun
  | [d1, d2, d3, d4, d5] => { results := [.lit (.bool false)], args := [d1, d2, d3, d4, d5] }
  | _ => none }
def TopChoicesWrongFalsely : Prop := topChoicesRow.holds Try.pinned (OpenSpec.ofChange topChoicesWrong)

/-- 'terrtop.TopHiers': WHATEVER THE INPUT: true; the input reads as it did. -/
def topHiersSpec : ChangeSpec := { name := "topHiers", fn := fun _ => fun
  | [d1, d2, d3] => { results := [.lit (.bool true)], args := [d1, d2, d3] }
  | _ => none }
def topHiersRow : OpenClaim := { program := "ythfjdcdbimjkjaa", sum := "8f4b55da8343853482825dc4643eaf1cabc087bc84fae8cc24e021b028f865a3", func := "terrier/terrtop.TopHiers", spec := "topHiers", unfollowed := true, recurses := true, plainKeys := false, apart := false }
def TopHiersSaid : Prop := topHiersRow.holds Try.pinned (OpenSpec.ofChange topHiersSpec)

/-- ITS FALSE NEIGHBOUR: 'it returns false'. Refute it at one input. -/
def topHiersWrong : ChangeSpec := { name := "topHiers", fn := fun _ => fun
  | [d1, d2, d3] => { results := [.lit (.bool false)], args := [d1, d2, d3] }
  | _ => none }
def TopHiersWrongFalsely : Prop := topHiersRow.holds Try.pinned (OpenSpec.ofChange topHiersWrong)

/-- 'terrlaw4.IsoNodes': WHATEVER THE INPUT: true; the input reads as it did. -/
def isoNodesSpec : ChangeSpec := { name := "isoNodes", fn := fun _ => fun
  | [d1, d2, d3] => { results := [.lit (.bool true)], args := [d1, d2, d3] }
  | _ => none }
def isoNodesRow : OpenClaim := { program := "ythfjdcdbimjkjaa", sum := "8f4b55da8343853482825dc4643eaf1cabc087bc84fae8cc24e021b028f865a3", func := "terrier/terrlaw4.IsoNodes", spec := "isoNodes", unfollowed := true, recurses := true, plainKeys := false, apart := false }
def IsoNodesSaid : Prop := isoNodesRow.holds Try.pinned (OpenSpec.ofChange isoNodesSpec)

/-- ITS FALSE NEIGHBOUR: 'it returns false'. Refute it at one input. -/
def isoNodesWrong : ChangeSpec := { name := "isoNodes", fn := fun _ => fun
  | [d1, d2, d3] => { results := [.lit (.bool false)], args := [d1, d2, d3] }
  | _ => none }
def IsoNodesWrongFalsely : Prop := isoNodesRow.holds Try.pinned (OpenSpec.ofChange isoNodesWrong)

/-- 'terrlaw4.NetBuilds': WHATEVER THE INPUT: true; the input reads as it did. -/
def netBuildsSpec : ChangeSpec := { name := "netBuilds", fn := fun _ => fun
  | [d] => { results := [.lit (.bool true)], args := [d] }
  | _ => none }
def netBuildsRow : OpenClaim := { program := "ythfjdcdbimjkjaa", sum := "8f4b55da8343853482825dc4643eaf1cabc087bc84fae8cc24e021b028f865a3", func := "terrier/terrlaw4.NetBuilds", spec := "netBuilds", unfollowed := true, recurses := true, plainKeys := false, apart := false }
def NetBuildsSaid : Prop := netBuildsRow.holds Try.pinned (OpenSpec.ofChange netBuildsSpec)

/-- ITS FALSE NEIGHBOUR: 'it returns false'. Refute it at one input. -/
def netBuildsWrong : ChangeSpec := { name := "netBuilds", fn := fun _ => fun
  | [d] => { results := [.lit (.bool false)], args := [d] }
  | _ => none }
def NetBuildsWrongFalsely : Prop := netBuildsRow.holds Try.pinned (OpenSpec.ofChange netBuildsWrong)

/- THE SECOND FORM. 'bulk': how many values and letters a reading holds, each counted each time it is reached (what is shared counts as often as it is met; a slice's spare places count too). A statement '..UptoSaid' is the law's where the arguments, and the package variables that the reading takes, are together of bulk at most 1048576: NARROWER than '..Said'. Prove '..Said' where nothing that the law and all that it calls make is longer than what came in: it says more and counts as full. Else prove '..UptoSaid'. A law counts once. -/
mutual
def uptoBulk {H : Type} : DataW H → Nat
  | .lit (.string bytes) => bytes.length + 1
  | .lit _ => 1
  | .nil => 1
  | .ptr d => uptoBulk d + 1
  | .slice elems spare => uptoBulkAll elems + uptoBulkAll spare + 1
  | .agg parts => uptoBulkAll parts + 1
  | .iface _ d => uptoBulk d + 1
  | .map entries => uptoBulkEntries entries + 1
  | .held _ => 1
def uptoBulkAll {H : Type} : List (DataW H) → Nat
  | [] => 0
  | d :: r => uptoBulk d + uptoBulkAll r
def uptoBulkEntries {H : Type} : List (Lit × DataW H) → Nat
  | [] => 0
  | x :: r => uptoBulkEntry x + uptoBulkEntries r
def uptoBulkEntry {H : Type} : Lit × DataW H → Nat
  | (.string bytes, d) => bytes.length + uptoBulk d + 1
  | (_, d) => uptoBulk d + 1
 end
def uptoSmall : (H : Type) → List (DataW H) → Bool := fun _ ds => decide (uptoBulkAll ds ≤ 1048576)
def OpenSpec.upto (s : _root_.Go.ChangeSpec) : _root_.Go.OpenSpec := { _root_.Go.OpenSpec.ofChange s with cond := some uptoSmall }

/-- 'terrtop.TopTimes', WHERE WHAT IT READS IS OF BULK AT MOST 1048576: true; the input reads as it did. -/
def topTimesUptoRow : OpenClaim := { program := "ythfjdcdbimjkjaa", sum := "8f4b55da8343853482825dc4643eaf1cabc087bc84fae8cc24e021b028f865a3", func := "terrier/terrtop.TopTimes", spec := "topTimes", unfollowed := true, recurses := true, plainKeys := false, apart := false, narrowed := true }
def TopTimesUptoSaid : Prop := topTimesUptoRow.holds Try.pinned (OpenSpec.upto topTimesSpec)

/-- 'terrlaw4.HierSays', WHERE WHAT IT READS IS OF BULK AT MOST 1048576: true; the input reads as it did. -/
def hierSaysUptoRow : OpenClaim := { program := "ythfjdcdbimjkjaa", sum := "8f4b55da8343853482825dc4643eaf1cabc087bc84fae8cc24e021b028f865a3", func := "terrier/terrlaw4.HierSays", spec := "hierSays", unfollowed := true, recurses := true, plainKeys := false, apart := false, narrowed := true }
def HierSaysUptoSaid : Prop := hierSaysUptoRow.holds Try.pinned (OpenSpec.upto hierSaysSpec)

/-- 'terrkeep4.HierSame', WHERE WHAT IT READS IS OF BULK AT MOST 1048576: true; the input reads as it did. -/
def hierSameUptoRow : OpenClaim := { program := "ythfjdcdbimjkjaa", sum := "8f4b55da8343853482825dc4643eaf1cabc087bc84fae8cc24e021b028f865a3", func := "terrier/terrkeep4.HierSame", spec := "hierSame", unfollowed := true, recurses := true, plainKeys := false, apart := false, narrowed := true }
def HierSameUptoSaid : Prop := hierSameUptoRow.holds Try.pinned (OpenSpec.upto hierSameSpec)

/-- 'terrkeep4.IsoTour', WHERE WHAT IT READS IS OF BULK AT MOST 1048576: true; the input reads as it did. -/
def isoTourUptoRow : OpenClaim := { program := "ythfjdcdbimjkjaa", sum := "8f4b55da8343853482825dc4643eaf1cabc087bc84fae8cc24e021b028f865a3", func := "terrier/terrkeep4.IsoTour", spec := "isoTour", unfollowed := true, recurses := true, plainKeys := false, apart := false, narrowed := true }
def IsoTourUptoSaid : Prop := isoTourUptoRow.holds Try.pinned (OpenSpec.upto isoTourSpec)

/-- 'terrlaw4.MultiBests', WHERE WHAT IT READS IS OF BULK AT MOST 1048576: true; the input reads as it did. -/
def multiBestsUptoRow : OpenClaim := { program := "ythfjdcdbimjkjaa", sum := "8f4b55da8343853482825dc4643eaf1cabc087bc84fae8cc24e021b028f865a3", func := "terrier/terrlaw4.MultiBests", spec := "multiBests", unfollowed := true, recurses := true, plainKeys := false, apart := false, narrowed := true }
def MultiBestsUptoSaid : Prop := multiBestsUptoRow.holds Try.pinned (OpenSpec.upto multiBestsSpec)

/-- 'terrkeep4.MultiEnds', WHERE WHAT IT READS IS OF BULK AT MOST 1048576: true; the input reads as it did. -/
def multiEndsUptoRow : OpenClaim := { program := "ythfjdcdbimjkjaa", sum := "8f4b55da8343853482825dc4643eaf1cabc087bc84fae8cc24e021b028f865a3", func := "terrier/terrkeep4.MultiEnds", spec := "multiEnds", unfollowed := true, recurses := true, plainKeys := false, apart := false, narrowed := true }
def MultiEndsUptoSaid : Prop := multiEndsUptoRow.holds Try.pinned (OpenSpec.upto multiEndsSpec)

/-- 'terrkeep4.MultiChoice', WHERE WHAT IT READS IS OF BULK AT MOST 1048576: true; the input reads as it did. -/
def multiChoiceUptoRow : OpenClaim := { program := "ythfjdcdbimjkjaa", sum := "8f4b55da8343853482825dc4643eaf1cabc087bc84fae8cc24e021b028f865a3", func := "terrier/terrkeep4.MultiChoice", spec := "multiChoice", unfollowed := true, recurses := true, plainKeys := false, apart := false, narrowed := true }
def MultiChoiceUptoSaid : Prop := multiChoiceUptoRow.holds Try.pinned (OpenSpec.upto multiChoiceSpec)

/-- 'terrtop.TopChoices', WHERE WHAT IT READS IS OF BULK AT MOST 1048576: true; the input reads as it did. -/
def topChoicesUptoRow : OpenClaim := { program := "ythfjdcdbimjkjaa", sum := "8f4b55da8343853482825dc4643eaf1cabc087bc84fae8cc24e021b028f865a3", func := "terrier/terrtop.TopChoices", spec := "topChoices", unfollowed := true, recurses := true, plainKeys := false, apart := false, narrowed := true }
def TopChoicesUptoSaid : Prop := topChoicesUptoRow.holds Try.pinned (OpenSpec.upto topChoicesSpec)

/-- 'terrtop.TopHiers', WHERE WHAT IT READS IS OF BULK AT MOST 1048576: true; the input reads as it did. -/
def topHiersUptoRow : OpenClaim := { program := "ythfjdcdbimjkjaa", sum := "8f4b55da8343853482825dc4643eaf1cabc087bc84fae8cc24e021b028f865a3", func := "terrier/terrtop.TopHiers", spec := "topHiers", unfollowed := true, recurses := true, plainKeys := false, apart := false, narrowed := true }
def TopHiersUptoSaid : Prop := topHiersUptoRow.holds Try.pinned (OpenSpec.upto topHiersSpec)

/-- 'terrlaw4.IsoNodes', WHERE WHAT IT READS IS OF BULK AT MOST 1048576: true; the input reads as it did. -/
def isoNodesUptoRow : OpenClaim := { program := "ythfjdcdbimjkjaa", sum := "8f4b55da8343853482825dc4643eaf1cabc087bc84fae8cc24e021b028f865a3", func := "terrier/terrlaw4.IsoNodes", spec := "isoNodes", unfollowed := true, recurses := true, plainKeys := false, apart := false, narrowed := true }
def IsoNodesUptoSaid : Prop := isoNodesUptoRow.holds Try.pinned (OpenSpec.upto isoNodesSpec)

/-- 'terrlaw4.NetBuilds', WHERE WHAT IT READS IS OF BULK AT MOST 1048576: true; the input reads as it did. -/
def netBuildsUptoRow : OpenClaim := { program := "ythfjdcdbimjkjaa", sum := "8f4b55da8343853482825dc4643eaf1cabc087bc84fae8cc24e021b028f865a3", func := "terrier/terrlaw4.NetBuilds", spec := "netBuilds", unfollowed := true, recurses := true, plainKeys := false, apart := false, narrowed := true }
def NetBuildsUptoSaid : Prop := netBuildsUptoRow.holds Try.pinned (OpenSpec.upto netBuildsSpec)

end Rows
end Go.Proofs.Ythfjdcdbimjkjaa
