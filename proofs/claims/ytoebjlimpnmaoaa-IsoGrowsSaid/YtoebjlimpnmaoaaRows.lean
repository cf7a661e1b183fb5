/-
  No cell of these rows narrows 'for every input' (looked for: loops, veiled, ifaces, maps, wideKeys, modest, calm, conditions, laid).
  DERIVED. THE GIVEN ROWS OF THIS SEAT. 10 by the template 'for every input the law returns true; each argument reads behind the call as it read before'; 0 by the template 'total and deterministic' (their statements: YtoebjlimpnmaoaaTotals.lean).
  GIVEN WITH THE SEED: the statements are not yours to turn. If you find one false, say at which input.
  Laid BY PROGRAM, IN A SANDBOX (cutbox-rows.mjs): the forced cells as the released guide's own fill.sh prints them over the translation b406c6669553cf60… (all of the seat's roots in one cut). By AI agents, Wed Nov 11 2026. No macro, syntax, notation, axiom, sorry.
-/
import Derived.Test.YtoebjlimpnmaoaaChecked
import GoSem.Claim
import GoSem.ClaimJoined
import GoSem.ClaimMapViews
import Derived.JoinedTies
import Derived.KernelRfl
namespace Go.Proofs.Ytoebjlimpnmaoaa
/- THE CELL 'sum', in the pinned program and in every row, IS THE sha256 OF THE DUMP (.gsa) THAT YtoebjlimpnmaoaaProg.lean LOADS. Nothing in Lean hashes anything: it is a label: what it is worth is what the hold of that sum in a sandbox is worth. -/
noncomputable def Try.pinned : Pinned := { name := "ytoebjlimpnmaoaa", sum := "b406c6669553cf60a50dd0b847039a930e5737225d784c640eadd95614a42b45", checked := Try.checked }
namespace Rows
def none {H : Type} : Left H := { results := [], args := [] }

/-- 'terrkeep4.NetTwice': WHATEVER THE INPUT: true; the input reads as it did. -/
def netTwiceSpec : ChangeSpec := { name := "netTwice", fn := fun _ => fun
  | [d1, d2] => { results := [.lit (.bool true)], args := [d1, d2] }
  | _ => none }
def netTwiceRow : OpenClaim := { program := "ytoebjlimpnmaoaa", sum := "b406c6669553cf60a50dd0b847039a930e5737225d784c640eadd95614a42b45", func := "terrier/terrkeep4.NetTwice", spec := "netTwice", unfollowed := true, recurses := true, apart := false }
def NetTwiceSaid : Prop := netTwiceRow.holds Try.pinned (OpenSpec.ofChange netTwiceSpec)

/-- ITS FALSE NEIGHBOUR: 'it returns false'. Refute it at one input. -/
def netTwiceWrong : ChangeSpec := { name := "netTwice", fn := fun _ => fun
  | [d1, d2] => { results := [.lit (.bool false)], args := [d1, d2] }
  | _ => none }
def NetTwiceWrongFalsely : Prop := netTwiceRow.holds Try.pinned (OpenSpec.ofChange netTwiceWrong)

/-- 'terrkeep4.TimedWaits': WHATEVER THE INPUT: true; the input reads as it did. -/
def timedWaitsSpec : ChangeSpec := { name := "timedWaits", fn := fun _ => fun
  | [d1, d2, d3, d4] => { results := [.lit (.bool true)], args := [d1, d2, d3, d4] }
  | _ => none }
def timedWaitsRow : OpenClaim := { program := "ytoebjlimpnmaoaa", sum := "b406c6669553cf60a50dd0b847039a930e5737225d784c640eadd95614a42b45", func := "terrier/terrkeep4.TimedWaits", spec := "timedWaits", unfollowed := true, recurses := true, apart := false }
def TimedWaitsSaid : Prop := timedWaitsRow.holds Try.pinned (OpenSpec.ofChange timedWaitsSpec)

/-- ITS FALSE NEIGHBOUR: 'it returns false'. Refute it at one input. -/
def timedWaitsWrong : ChangeSpec := { name := "timedWaits", fn := fun _ => fun
  | [d1, d2, d3, d4] => { results := [.lit (.bool false)], args := [d1, d2, d3, d4] }
  | _ => none }
def TimedWaitsWrongFalsely : Prop := timedWaitsRow.holds Try.pinned (OpenSpec.ofChange timedWaitsWrong)

/-- 'terrkeep4.TimedEven': WHATEVER THE INPUT: true; the input reads as it did. -/
def timedEvenSpec : ChangeSpec := { name := "timedEven", fn := fun _ => fun
  | [d1, d2] => { results := [.lit (.bool true)], args := [d1, d2] }
  | _ => none }
def timedEvenRow : OpenClaim := { program := "ytoebjlimpnmaoaa", sum := "b406c6669553cf60a50dd0b847039a930e5737225d784c640eadd95614a42b45", func := "terrier/terrkeep4.TimedEven", spec := "timedEven", unfollowed := true, recurses := true, apart := false }
def TimedEvenSaid : Prop := timedEvenRow.holds Try.pinned (OpenSpec.ofChange timedEvenSpec)

/-- ITS FALSE NEIGHBOUR: 'it returns false'. Refute it at one input. -/
def timedEvenWrong : ChangeSpec := { name := "timedEven", fn := fun _ => fun
  | [d1, d2] => { results := [.lit (.bool false)], args := [d1, d2] }
  | _ => none }
def TimedEvenWrongFalsely : Prop := timedEvenRow.holds Try.pinned (OpenSpec.ofChange timedEvenWrong)

/-- 'terrkeep4.RouteEnds': WHATEVER THE INPUT: true; the input reads as it did. -/
def routeEndsSpec : ChangeSpec := { name := "routeEnds", fn := fun _ => fun
  | [d1, d2] => { results := [.lit (.bool true)], args := [d1, d2] }
  | _ => none }
def routeEndsRow : OpenClaim := { program := "ytoebjlimpnmaoaa", sum := "b406c6669553cf60a50dd0b847039a930e5737225d784c640eadd95614a42b45", func := "terrier/terrkeep4.RouteEnds", spec := "routeEnds", unfollowed := true, recurses := true, apart := false }
def RouteEndsSaid : Prop := routeEndsRow.holds Try.pinned (OpenSpec.ofChange routeEndsSpec)

/-- ITS FALSE NEIGHBOUR: 'it returns false'. Refute it at one input. -/
def routeEndsWrong : ChangeSpec := { name := "routeEnds", fn := fun _ => fun
  | [d1, d2] => { results := [.lit (.bool false)], args := [d1, d2] }
  | _ => none }
def RouteEndsWrongFalsely : Prop := routeEndsRow.holds Try.pinned (OpenSpec.ofChange routeEndsWrong)

/-- 'terrkeep4.RouteBans': WHATEVER THE INPUT: true; the input reads as it did. -/
def routeBansSpec : ChangeSpec := { name := "routeBans", fn := fun _ => fun
  | [d] => { results := [.lit (.bool true)], args := [d] }
  | _ => none }
def routeBansRow : OpenClaim := { program := "ytoebjlimpnmaoaa", sum := "b406c6669553cf60a50dd0b847039a930e5737225d784c640eadd95614a42b45", func := "terrier/terrkeep4.RouteBans", spec := "routeBans", unfollowed := true, recurses := true, apart := false }
def RouteBansSaid : Prop := routeBansRow.holds Try.pinned (OpenSpec.ofChange routeBansSpec)

/-- ITS FALSE NEIGHBOUR: 'it returns false'. Refute it at one input. -/
def routeBansWrong : ChangeSpec := { name := "routeBans", fn := fun _ => fun
  | [d] => { results := [.lit (.bool false)], args := [d] }
  | _ => none }
def RouteBansWrongFalsely : Prop := routeBansRow.holds Try.pinned (OpenSpec.ofChange routeBansWrong)

/-- 'terrkeep4.RouteBest': WHATEVER THE INPUT: true; the input reads as it did. -/
def routeBestSpec : ChangeSpec := { name := "routeBest", fn := fun _ => fun
  | [d1, d2] => { results := [.lit (.bool true)], args := [d1, d2] }
  | _ => none }
def routeBestRow : OpenClaim := { program := "ytoebjlimpnmaoaa", sum := "b406c6669553cf60a50dd0b847039a930e5737225d784c640eadd95614a42b45", func := "terrier/terrkeep4.RouteBest", spec := "routeBest", unfollowed := true, recurses := true, apart := false }
def RouteBestSaid : Prop := routeBestRow.holds Try.pinned (OpenSpec.ofChange routeBestSpec)

/-- ITS FALSE NEIGHBOUR: 'it returns false'. Refute it at one input. -/
def routeBestWrong : ChangeSpec := { name := "routeBest", fn := fun _ => fun
  | [d1, d2] => { results := [.lit (.bool false)], args := [d1, d2] }
  | _ => none }
def RouteBestWrongFalsely : Prop := routeBestRow.holds Try.pinned (OpenSpec.ofChange routeBestWrong)

/-- 'terrkeep4.RouteBack': WHATEVER THE INPUT: true; the input reads as it did. -/
def routeBackSpec : ChangeSpec := { name := "routeBack", fn := fun _ => fun
  | [d1, d2, d3] => { results := [.lit (.bool true)], args := [d1, d2, d3] }
  | _ => none }
def routeBackRow : OpenClaim := { program := "ytoebjlimpnmaoaa", sum := "b406c6669553cf60a50dd0b847039a930e5737225d784c640eadd95614a42b45", func := "terrier/terrkeep4.RouteBack", spec := "routeBack", unfollowed := true, recurses := true, apart := false }
def RouteBackSaid : Prop := routeBackRow.holds Try.pinned (OpenSpec.ofChange routeBackSpec)

/-- ITS FALSE NEIGHBOUR: 'it returns false'. Refute it at one input. -/
def routeBackWrong : ChangeSpec := { name := "routeBack", fn := fun _ => fun
  | [d1, d2, d3] => { results := [.lit (.bool false)], args := [d1, d2, d3] }
  | _ => none }
def RouteBackWrongFalsely : Prop := routeBackRow.holds Try.pinned (OpenSpec.ofChange routeBackWrong)

/-- 'terrkeep4.RouteSound': WHATEVER THE INPUT: true; the input reads as it did. -/
def routeSoundSpec : ChangeSpec := { name := "routeSound", fn := fun _ => fun
  | [d1, d2, d3] => { results := [.lit (.bool true)], args := [d1, d2, d3] }
  | _ => none }
def routeSoundRow : OpenClaim := { program := "ytoebjlimpnmaoaa", sum := "b406c6669553cf60a50dd0b847039a930e5737225d784c640eadd95614a42b45", func := "terrier/terrkeep4.RouteSound", spec := "routeSound", unfollowed := true, recurses := true, apart := false }
def RouteSoundSaid : Prop := routeSoundRow.holds Try.pinned (OpenSpec.ofChange routeSoundSpec)

/-- ITS FALSE NEIGHBOUR: 'it returns false'. Refute it at one input. -/
def routeSoundWrong : ChangeSpec := { name := "routeSound", fn := fun _ => fun
  | [d1, d2, d3] => { results := [.lit (.bool false)], args := [d1, d2, d3] }
  | _ => none }
def RouteSoundWrongFalsely : Prop := routeSoundRow.holds Try.pinned (OpenSpec.ofChange routeSoundWrong)

/-- 'terrkeep4.IsoNear': WHATEVER THE INPUT: true; the input reads as it did. -/
def isoNearSpec : ChangeSpec := { name := "isoNear", fn := fun _ => fun
  | [d1, d2] => { results := [.lit (.bool true)], args := [d1, d2] }
  | _ => none }
def isoNearRow : OpenClaim := { program := "ytoebjlimpnmaoaa", sum := "b406c6669553cf60a50dd0b847039a930e5737225d784c640eadd95614a42b45", func := "terrier/terrkeep4.IsoNear", spec := "isoNear", unfollowed := true, recurses := true, apart := false }
def IsoNearSaid : Prop := isoNearRow.holds Try.pinned (OpenSpec.ofChange isoNearSpec)

/-- ITS FALSE NEIGHBOUR: 'it returns false'. Refute it at one input. -/
def isoNearWrong : ChangeSpec := { name := "isoNear", fn := fun _ => fun
  | [d1, d2] => { results := [.lit (.bool false)], args := [d1, d2] }
  | _ => none }
def IsoNearWrongFalsely : Prop := isoNearRow.holds Try.pinned (OpenSpec.ofChange isoNearWrong)

/-- 'terrkeep4.IsoGrows': WHATEVER THE INPUT: true; the input reads as it did. -/
def isoGrowsSpec : ChangeSpec := { name := "isoGrows", fn := fun _ => fun
  | [d1, d2, d3] => { results := [.lit (.bool true)], args := [d1, d2, d3] }
  | _ => none }
def isoGrowsRow : OpenClaim := { program := "ytoebjlimpnmaoaa", sum := "b406c6669553cf60a50dd0b847039a930e5737225d784c640eadd95614a42b45", func := "terrier/terrkeep4.IsoGrows", spec := "isoGrows", unfollowed := true, recurses := true, apart := false }
def IsoGrowsSaid : Prop := isoGrowsRow.holds Try.pinned (OpenSpec.ofChange isoGrowsSpec)

/-- ITS FALSE NEIGHBOUR: 'it returns false'. Refute it at one input. -/
def isoGrowsWrong : ChangeSpec := { name := "isoGrows", fn := fun _ => fun
  | [d1, d2, d3] => { results := [.lit (.bool false)], args := [d1, d2, d3] }
  | _ => none }
def IsoGrowsWrongFalsely : Prop := isoGrowsRow.holds Try.pinned (OpenSpec.ofChange isoGrowsWrong)

/- THE SECOND FORM. 'bulk': how many values and letters a reading holds, each counted each time it is reached (what is shared counts as often as it is met; a slice's spare places count too). A statement '..UptoSaid' is the law's where the arguments, and the package variables that the reading takes, are together of bulk at most 1048576: NARROWER than '..Said'. Prove '..Said' where nothing that the law and all that it calls make is longer than what came in: it says more and counts as full. Else prove '..UptoSaid'. A law counts once. -/
mutual
def uptoBulk {H : Type} : DataW H → Nat
  | .lit (.string bytes) => bytes.length + 1
  | .lit _ => 1
  | .nil => 1
  | .ptr d => uptoBulk d + 1
  | .slice elems spare => uptoBulkAll elems + uptoBulkAll spare + 1
  | .agg parts => uptoBulkAll parts + 1
  | .iface _ d => uptoBulk d + 1
  | .map entries => uptoBulkEntries entries + 1
  | .held _ => 1
def uptoBulkAll {H : Type} : List (DataW H) → Nat
  | [] => 0
  | d :: r => uptoBulk d + uptoBulkAll r
def uptoBulkEntries {H : Type} : List (Lit × DataW H) → Nat
  | [] => 0
  | x :: r => uptoBulkEntry x + uptoBulkEntries r
def uptoBulkEntry {H : Type} : Lit × DataW H → Nat
  | (.string bytes, d) => bytes.length + uptoBulk d + 1
  | (_, d) => uptoBulk d + 1
 end
def uptoSmall : (H : Type) → List (DataW H) → Bool := fun _ ds => decide (uptoBulkAll ds ≤ 1048576)
def OpenSpec.upto (s : _root_.Go.ChangeSpec) : _root_.Go.OpenSpec := { _root_.Go.OpenSpec.ofChange s with cond := some uptoSmall }

/-- 'terrkeep4.NetTwice', WHERE WHAT IT READS IS OF BULK AT MOST 1048576: true; the input reads as it did. -/
def netTwiceUptoRow : OpenClaim := { program := "ytoebjlimpnmaoaa", sum := "b406c6669553cf60a50dd0b847039a930e5737225d784c640eadd95614a42b45", func := "terrier/terrkeep4.NetTwice", spec := "netTwice", unfollowed := true, recurses := true, apart := false, narrowed := true }
def NetTwiceUptoSaid : Prop := netTwiceUptoRow.holds Try.pinned (OpenSpec.upto netTwiceSpec)

/-- 'terrkeep4.TimedWaits', WHERE WHAT IT READS IS OF BULK AT MOST 1048576: true; the input reads as it did. -/
def timedWaitsUptoRow : OpenClaim := { program := "ytoebjlimpnmaoaa", sum := "b406c6669553cf60a50dd0b847039a930e5737225d784c640eadd95614a42b45", func := "terrier/terrkeep4.TimedWaits", spec := "timedWaits", unfollowed := true, recurses := true, apart := false, narrowed := true }
def TimedWaitsUptoSaid : Prop := timedWaitsUptoRow.holds Try.pinned (OpenSpec.upto timedWaitsSpec)

/-- 'terrkeep4.TimedEven', WHERE WHAT IT READS IS OF BULK AT MOST 1048576: true; the input reads as it did. -/
def timedEvenUptoRow : OpenClaim := { program := "ytoebjlimpnmaoaa", sum := "b406c6669553cf60a50dd0b847039a930e5737225d784c640eadd95614a42b45", func := "terrier/terrkeep4.TimedEven", spec := "timedEven", unfollowed := true, recurses := true, apart := false, narrowed := true }
def TimedEvenUptoSaid : Prop := timedEvenUptoRow.holds Try.pinned (OpenSpec.upto timedEvenSpec)

/-- 'terrkeep4.RouteEnds', WHERE WHAT IT READS IS OF BULK AT MOST 1048576: true; the input reads as it did. -/
def routeEndsUptoRow : OpenClaim := { program := "ytoebjlimpnmaoaa", sum := "b406c6669553cf60a50dd0b847039a930e5737225d784c640eadd95614a42b45", func := "terrier/terrkeep4.RouteEnds", spec := "routeEnds", unfollowed := true, recurses := true, apart := false, narrowed := true }
def RouteEndsUptoSaid : Prop := routeEndsUptoRow.holds Try.pinned (OpenSpec.upto routeEndsSpec)

/-- 'terrkeep4.RouteBans', WHERE WHAT IT READS IS OF BULK AT MOST 1048576: true; the input reads as it did. -/
def routeBansUptoRow : OpenClaim := { program := "ytoebjlimpnmaoaa", sum := "b406c6669553cf60a50dd0b847039a930e5737225d784c640eadd95614a42b45", func := "terrier/terrkeep4.RouteBans", spec := "routeBans", unfollowed := true, recurses := true, apart := false, narrowed := true }
def RouteBansUptoSaid : Prop := routeBansUptoRow.holds Try.pinned (OpenSpec.upto routeBansSpec)

/-- 'terrkeep4.RouteBest', WHERE WHAT IT READS IS OF BULK AT MOST 1048576: true; the input reads as it did. -/
def routeBestUptoRow : OpenClaim := { program := "ytoebjlimpnmaoaa", sum := "b406c6669553cf60a50dd0b847039a930e5737225d784c640eadd95614a42b45", func := "terrier/terrkeep4.RouteBest", spec := "routeBest", unfollowed := true, recurses := true, apart := false, narrowed := true }
def RouteBestUptoSaid : Prop := routeBestUptoRow.holds Try.pinned (OpenSpec.upto routeBestSpec)

/-- 'terrkeep4.RouteBack', WHERE WHAT IT READS IS OF BULK AT MOST 1048576: true; the input reads as it did. -/
def routeBackUptoRow : OpenClaim := { program := "ytoebjlimpnmaoaa", sum := "b406c6669553cf60a50dd0b847039a930e5737225d784c640eadd95614a42b45", func := "terrier/terrkeep4.RouteBack", spec := "routeBack", unfollowed := true, recurses := true, apart := false, narrowed := true }
def RouteBackUptoSaid : Prop := routeBackUptoRow.holds Try.pinned (OpenSpec.upto routeBackSpec)

/-- 'terrkeep4.RouteSound', WHERE WHAT IT READS IS OF BULK AT MOST 1048576: true; the input reads as it did. -/
def routeSoundUptoRow : OpenClaim := { program := "ytoebjlimpnmaoaa", sum := "b406c6669553cf60a50dd0b847039a930e5737225d784c640eadd95614a42b45", func := "terrier/terrkeep4.RouteSound", spec := "routeSound", unfollowed := true, recurses := true, apart := false, narrowed := true }
def RouteSoundUptoSaid : Prop := routeSoundUptoRow.holds Try.pinned (OpenSpec.upto routeSoundSpec)

/-- 'terrkeep4.IsoNear', WHERE WHAT IT READS IS OF BULK AT MOST 1048576: true; the input reads as it did. -/
def isoNearUptoRow : OpenClaim := { program := "ytoebjlimpnmaoaa", sum := "b406c6669553cf60a50dd0b847039a930e5737225d784c640eadd95614a42b45", func := "terrier/terrkeep4.IsoNear", spec := "isoNear", unfollowed := true, recurses := true, apart := false, narrowed := true }
def IsoNearUptoSaid : Prop := isoNearUptoRow.holds Try.pinned (OpenSpec.upto isoNearSpec)

/-- 'terrkeep4.IsoGrows', WHERE WHAT IT READS IS OF BULK AT MOST 1048576: true; the input reads as it did. -/
def isoGrowsUptoRow : OpenClaim := { program := "ytoebjlimpnmaoaa", sum := "b406c6669553cf60a50dd0b847039a930e5737225d784c640eadd95614a42b45", func := "terrier/terrkeep4.IsoGrows", spec := "isoGrows", unfollowed := true, recurses := true, apart := false, narrowed := true }
def IsoGrowsUptoSaid : Prop := isoGrowsUptoRow.holds Try.pinned (OpenSpec.upto isoGrowsSpec)

end Rows
end Go.Proofs.Ytoebjlimpnmaoaa
