/-
  No cell of these rows narrows 'for every input' (looked for: loops, veiled, ifaces, maps, wideKeys, modest, calm, conditions, laid).
  DERIVED. THE GIVEN ROWS OF THIS SEAT. 12 by the template 'for every input the law returns true; each argument reads behind the call as it read before'; 0 by the template 'total and deterministic' (their statements: YtpbmlhlpfbcnbaaTotals.lean).
  GIVEN WITH THE SEED: the statements are not yours to turn. If you find one false, say at which input.
  Laid BY PROGRAM, IN A SANDBOX (cutbox-rows.mjs): the forced cells as the released guide's own fill.sh prints them over the translation b4f09bf4e5c906d7… (all of the seat's roots in one cut). By AI agents, Wed Nov 11 2026. No macro, syntax, notation, axiom, sorry.
-/
import Derived.Test.YtpbmlhlpfbcnbaaChecked
import GoSem.Claim
import GoSem.ClaimJoined
import GoSem.ClaimMapViews
import Derived.JoinedTies
import Derived.KernelRfl
namespace Go.Proofs.Ytpbmlhlpfbcnbaa
/- THE CELL 'sum', in the pinned program and in every row, IS THE sha256 OF THE DUMP (.gsa) THAT YtpbmlhlpfbcnbaaProg.lean LOADS. Nothing in Lean hashes anything: it is a label: what it is worth is what the hold of that sum in a sandbox is worth. -/
noncomputable def Try.pinned : Pinned := { name := "ytpbmlhlpfbcnbaa", sum := "b4f09bf4e5c906d73bfcb630df75490051087eb3c06855d1b871485c2bc7c647", checked := Try.checked }
namespace Rows
def none {H : Type} : Left H := { results := [], args := [] }

/-- 'terrlaw4.TimedPlans': WHATEVER THE INPUT: true; the input reads as it did. -/
def timedPlansSpec : ChangeSpec := { name := "timedPlans", fn := fun _ => fun
  | [d1, d2, d3, d4] => { results := [.lit (.bool true)], args := [d1, d2, d3, d4] }
  | _ => none }
def timedPlansRow : OpenClaim := { program := "ytpbmlhlpfbcnbaa", sum := "b4f09bf4e5c906d73bfcb630df75490051087eb3c06855d1b871485c2bc7c647", func := "terrier/terrlaw4.TimedPlans", spec := "timedPlans", plainKeys := false, apart := false }
def TimedPlansSaid : Prop := timedPlansRow.holds Try.pinned (OpenSpec.ofChange timedPlansSpec)

/-- ITS FALSE NEIGHBOUR: 'it returns false'. Refute it at one input. -/
def timedPlansWrong : ChangeSpec := { name := "timedPlans", fn := fun _ => fun
  | [d1, d2, d3, d4] => { results := [.lit (.bool false)], args := [d1, d2, d3, d4] }
  | _ => none }
def TimedPlansWrongFalsely : Prop := timedPlansRow.holds Try.pinned (OpenSpec.ofChange timedPlansWrong)

/-- 'terrkeep4.TimedRight': WHATEVER THE INPUT: true; the input reads as it did. -/
def timedRightSpec : ChangeSpec := { name := "timedRight", fn := fun _ => fun
  | [d1, d2, d3, d4] => { results := [.lit (.bool true)], args := [d1, d2, d3, d4] }
  | _ => none }
def timedRightRow : OpenClaim := { program := "ytpbmlhlpfbcnbaa", sum := "b4f09bf4e5c906d73bfcb630df75490051087eb3c06855d1b871485c2bc7c647", func := "terrier/terrkeep4.TimedRight", spec := "timedRight", plainKeys := false, apart := false }
def TimedRightSaid : Prop := timedRightRow.holds Try.pinned (OpenSpec.ofChange timedRightSpec)

/-- ITS FALSE NEIGHBOUR: 'it returns false'. Refute it at one input. -/
def timedRightWrong : ChangeSpec := { name := "timedRight", fn := fun _ => fun
  | [d1, d2, d3, d4] => { results := [.lit (.bool false)], args := [d1, d2, d3, d4] }
  | _ => none }
def TimedRightWrongFalsely : Prop := timedRightRow.holds Try.pinned (OpenSpec.ofChange timedRightWrong)

/-- 'terrlaw4.ReliefHeights': WHATEVER THE INPUT: true; the input reads as it did. -/
def reliefHeightsSpec : ChangeSpec := { name := "reliefHeights", fn := fun _ => fun
  | [d1, d2, d3] => { results := [.lit (.bool true)], args := [d1, d2, d3] }
  | _ => none }
def reliefHeightsRow : OpenClaim := { program := "ytpbmlhlpfbcnbaa", sum := "b4f09bf4e5c906d73bfcb630df75490051087eb3c06855d1b871485c2bc7c647", func := "terrier/terrlaw4.ReliefHeights", spec := "reliefHeights", unfollowed := true, recurses := true, plainKeys := false, apart := false }
def ReliefHeightsSaid : Prop := reliefHeightsRow.holds Try.pinned (OpenSpec.ofChange reliefHeightsSpec)

/-- ITS FALSE NEIGHBOUR: 'it returns false'. Refute it at one input. -/
def reliefHeightsWrong : ChangeSpec := { name := "reliefHeights", fn := fun _ => fun
  | [d1, d2, d3] => { results := [.lit (.bool false)], args := [d1, d2, d3] }
  | _ => none }
def ReliefHeightsWrongFalsely : Prop := reliefHeightsRow.holds Try.pinned (OpenSpec.ofChange reliefHeightsWrong)

/-- 'terrlaw4.RouteFinds': WHATEVER THE INPUT: true; the input reads as it did. -/
def routeFindsSpec : ChangeSpec := { name := "routeFinds", fn := fun _ => fun
  | [d1, d2, d3] => { results := [.lit (.bool true)], args := [d1, d2, d3] }
  | _ => none }
def routeFindsRow : OpenClaim := { program := "ytpbmlhlpfbcnbaa", sum := "b4f09bf4e5c906d73bfcb630df75490051087eb3c06855d1b871485c2bc7c647", func := "terrier/terrlaw4.RouteFinds", spec := "routeFinds", unfollowed := true, recurses := true, plainKeys := false, apart := false }
def RouteFindsSaid : Prop := routeFindsRow.holds Try.pinned (OpenSpec.ofChange routeFindsSpec)

/-- ITS FALSE NEIGHBOUR: 'it returns false'. Refute it at one input. -/
def routeFindsWrong : ChangeSpec := { name := "routeFinds", fn := fun _ => fun
  | [d1, d2, d3] => { results := [.lit (.bool false)], args := [d1, d2, d3] }
  | _ => none }
def RouteFindsWrongFalsely : Prop := routeFindsRow.holds Try.pinned (OpenSpec.ofChange routeFindsWrong)

/-- 'terrlaw4.ReliefContours': WHATEVER THE INPUT: true; the input reads as it did. -/
def reliefContoursSpec : ChangeSpec := { name := "reliefContours", fn := fun _ => fun
  | [d1, d2, d3] => { results := [.lit (.bool true)], args := [d1, d2, d3] }
  | _ => none }
def reliefContoursRow : OpenClaim := { program := "ytpbmlhlpfbcnbaa", sum := "b4f09bf4e5c906d73bfcb630df75490051087eb3c06855d1b871485c2bc7c647", func := "terrier/terrlaw4.ReliefContours", spec := "reliefContours", unfollowed := true, recurses := true, plainKeys := false, apart := false }
def ReliefContoursSaid : Prop := reliefContoursRow.holds Try.pinned (OpenSpec.ofChange reliefContoursSpec)

/-- ITS FALSE NEIGHBOUR: 'it returns false'. Refute it at one input. -/
def reliefContoursWrong : ChangeSpec := { name := "reliefContours", fn := fun _ => fun
  | [d1, d2, d3] => { results := [.lit (.bool false)], args := [d1, d2, d3] }
  | _ => none }
def ReliefContoursWrongFalsely : Prop := reliefContoursRow.holds Try.pinned (OpenSpec.ofChange reliefContoursWrong)

/-- 'terrlaw4.TimedHours': WHATEVER THE INPUT: true; the input reads as it did. -/
def timedHoursSpec : ChangeSpec := { name := "timedHours", fn := fun _ => fun
  | [d1, d2, d3, d4] => { results := [.lit (.bool true)], args := [d1, d2, d3, d4] }
  | _ => none }
def timedHoursRow : OpenClaim := { program := "ytpbmlhlpfbcnbaa", sum := "b4f09bf4e5c906d73bfcb630df75490051087eb3c06855d1b871485c2bc7c647", func := "terrier/terrlaw4.TimedHours", spec := "timedHours", unfollowed := true, recurses := true, plainKeys := false, apart := false }
def TimedHoursSaid : Prop := timedHoursRow.holds Try.pinned (OpenSpec.ofChange timedHoursSpec)

/-- ITS FALSE NEIGHBOUR: 'it returns false'. Refute it at one input. -/
def timedHoursWrong : ChangeSpec := { name := "timedHours", fn := fun _ => fun
  | [d1, d2, d3, d4] => { results := [.lit (.bool false)], args := [d1, d2, d3, d4] }
  | _ => none }
def TimedHoursWrongFalsely : Prop := timedHoursRow.holds Try.pinned (OpenSpec.ofChange timedHoursWrong)

/-- 'terrlaw4.RouteCosts': WHATEVER THE INPUT: true; the input reads as it did. -/
def routeCostsSpec : ChangeSpec := { name := "routeCosts", fn := fun _ => fun
  | [d1, d2, d3] => { results := [.lit (.bool true)], args := [d1, d2, d3] }
  | _ => none }
def routeCostsRow : OpenClaim := { program := "ytpbmlhlpfbcnbaa", sum := "b4f09bf4e5c906d73bfcb630df75490051087eb3c06855d1b871485c2bc7c647", func := "terrier/terrlaw4.RouteCosts", spec := "routeCosts", unfollowed := true, recurses := true, plainKeys := false, apart := false }
def RouteCostsSaid : Prop := routeCostsRow.holds Try.pinned (OpenSpec.ofChange routeCostsSpec)

/-- ITS FALSE NEIGHBOUR: 'it returns false'. Refute it at one input. -/
def routeCostsWrong : ChangeSpec := { name := "routeCosts", fn := fun _ => fun
  | [d1, d2, d3] => { results := [.lit (.bool false)], args := [d1, d2, d3] }
  | _ => none }
def RouteCostsWrongFalsely : Prop := routeCostsRow.holds Try.pinned (OpenSpec.ofChange routeCostsWrong)

/-- 'terrtop.TopRoutes': WHATEVER THE INPUT: true; the input reads as it did. -/
def topRoutesSpec : ChangeSpec := { name := "topRoutes", fn := fun _ => fun
  | [d1, d2, d3] => { results := [.lit (.bool true)], args := [d1, d2, d3] }
  | _ => none }
def topRoutesRow : OpenClaim := { program := "ytpbmlhlpfbcnbaa", sum := "b4f09bf4e5c906d73bfcb630df75490051087eb3c06855d1b871485c2bc7c647", func := "terrier/terrtop.TopRoutes", spec := "topRoutes", unfollowed := true, recurses := true, plainKeys := false, apart := false }
def TopRoutesSaid : Prop := topRoutesRow.holds Try.pinned (OpenSpec.ofChange topRoutesSpec)

/-- ITS FALSE NEIGHBOUR: 'it returns false'. Refute it at one input. -/
def topRoutesWrong : ChangeSpec := { name := "topRoutes", fn := fun _ => fun
  | [d1, d2, d3] => { results := [.lit (.bool false)], args := [d1, d2, d3] }
  | _ => none }
def TopRoutesWrongFalsely : Prop := topRoutesRow.holds Try.pinned (OpenSpec.ofChange topRoutesWrong)

/-- 'terrlaw4.IsoTours': WHATEVER THE INPUT: true; the input reads as it did. -/
def isoToursSpec : ChangeSpec := { name := "isoTours", fn := fun _ => fun
  | [d1, d2, d3] => { results := [.lit (.bool true)], args := [d1, d2, d3] }
  | _ => none }
def isoToursRow : OpenClaim := { program := "ytpbmlhlpfbcnbaa", sum := "b4f09bf4e5c906d73bfcb630df75490051087eb3c06855d1b871485c2bc7c647", func := "terrier/terrlaw4.IsoTours", spec := "isoTours", unfollowed := true, recurses := true, plainKeys := false, apart := false }
def IsoToursSaid : Prop := isoToursRow.holds Try.pinned (OpenSpec.ofChange isoToursSpec)

/-- ITS FALSE NEIGHBOUR: 'it returns false'. Refute it at one input. -/
def isoToursWrong : ChangeSpec := { name := "isoTours", fn := fun _ => fun
  | [d1, d2, d3] => { results := [.lit (.bool false)], args := [d1, d2, d3] }
  | _ => none }
def IsoToursWrongFalsely : Prop := isoToursRow.holds Try.pinned (OpenSpec.ofChange isoToursWrong)

/-- 'terrkeep4.NetWalks': WHATEVER THE INPUT: true; the input reads as it did. -/
def netWalksSpec : ChangeSpec := { name := "netWalks", fn := fun _ => fun
  | [d1, d2, d3] => { results := [.lit (.bool true)], args := [d1, d2, d3] }
  | _ => none }
def netWalksRow : OpenClaim := { program := "ytpbmlhlpfbcnbaa", sum := "b4f09bf4e5c906d73bfcb630df75490051087eb3c06855d1b871485c2bc7c647", func := "terrier/terrkeep4.NetWalks", spec := "netWalks", unfollowed := true, recurses := true, plainKeys := false, apart := false }
def NetWalksSaid : Prop := netWalksRow.holds Try.pinned (OpenSpec.ofChange netWalksSpec)

/-- ITS FALSE NEIGHBOUR: 'it returns false'. Refute it at one input. -/
def netWalksWrong : ChangeSpec := { name := "netWalks", fn := fun _ => fun
  | [d1, d2, d3] => { results := [.lit (.bool false)], args := [d1, d2, d3] }
  | _ => none }
def NetWalksWrongFalsely : Prop := netWalksRow.holds Try.pinned (OpenSpec.ofChange netWalksWrong)

/-- 'terrlaw4.MultiFronts': WHATEVER THE INPUT: true; the input reads as it did. -/
def multiFrontsSpec : ChangeSpec := { name := "multiFronts", fn := fun _ => fun
  | [d1, d2, d3] => { results := [.lit (.bool true)], args := [d1, d2, d3] }
  | _ => none }
def multiFrontsRow : OpenClaim := { program := "ytpbmlhlpfbcnbaa", sum := "b4f09bf4e5c906d73bfcb630df75490051087eb3c06855d1b871485c2bc7c647", func := "terrier/terrlaw4.MultiFronts", spec := "multiFronts", unfollowed := true, recurses := true, plainKeys := false, apart := false }
def MultiFrontsSaid : Prop := multiFrontsRow.holds Try.pinned (OpenSpec.ofChange multiFrontsSpec)

/-- ITS FALSE NEIGHBOUR: 'it returns false'. Refute it at one input. -/
def multiFrontsWrong : ChangeSpec := { name := "multiFronts", fn := fun _ => fun
  | [d1, d2, d3] => { results := [.lit (.bool false)], args := [d1, d2, d3] }
  | _ => none }
def MultiFrontsWrongFalsely : Prop := multiFrontsRow.holds Try.pinned (OpenSpec.ofChange multiFrontsWrong)

/-- 'terrkeep4.NetBuilt': WHATEVER THE INPUT: true; the input reads as it did. -/
def netBuiltSpec : ChangeSpec := { name := "netBuilt", fn := fun _ => fun
  | [d] => { results := [.lit (.bool true)], args := [d] }
  | _ => none }
def netBuiltRow : OpenClaim := { program := "ytpbmlhlpfbcnbaa", sum := "b4f09bf4e5c906d73bfcb630df75490051087eb3c06855d1b871485c2bc7c647", func := "terrier/terrkeep4.NetBuilt", spec := "netBuilt", unfollowed := true, recurses := true, plainKeys := false, apart := false }
def NetBuiltSaid : Prop := netBuiltRow.holds Try.pinned (OpenSpec.ofChange netBuiltSpec)

/-- ITS FALSE NEIGHBOUR: 'it returns false'. Refute it at one input. -/
def netBuiltWrong : ChangeSpec := { name := "netBuilt", fn := fun _ => fun
  | [d] => { results := [.lit (.bool false)], args := [d] }
  | _ => none }
def NetBuiltWrongFalsely : Prop := netBuiltRow.holds Try.pinned (OpenSpec.ofChange netBuiltWrong)

/- THE SECOND FORM. 'bulk': how many values and letters a reading holds, each counted each time it is reached (what is shared counts as often as it is met; a slice's spare places count too). A statement '..UptoSaid' is the law's where the arguments, and the package variables that the reading takes, are together of bulk at most 1048576: NARROWER than '..Said'. Prove '..Said' where nothing that the law and all that it calls make is longer than what came in: it says more and counts as full. Else prove '..UptoSaid'. A law counts once. -/
mutual
def uptoBulk {H : Type} : DataW H → Nat
  | .lit (.string bytes) => bytes.length + 1
  | .lit _ => 1
  | .nil => 1
  | .ptr d => uptoBulk d + 1
  | .slice elems spare => uptoBulkAll elems + uptoBulkAll spare + 1
  | .agg parts => uptoBulkAll parts + 1
  | .iface _ d => uptoBulk d + 1
  | .map entries => uptoBulkEntries entries + 1
  | .held _ => 1
def uptoBulkAll {H : Type} : List (DataW H) → Nat
  | [] => 0
  | d :: r => uptoBulk d + uptoBulkAll r
def uptoBulkEntries {H : Type} : List (Lit × DataW H) → Nat
  | [] => 0
  | x :: r => uptoBulkEntry x + uptoBulkEntries r
def uptoBulkEntry {H : Type} : Lit × DataW H → Nat
  | (.string bytes, d) => bytes.length + uptoBulk d + 1
  | (_, d) => uptoBulk d + 1
 end
def uptoSmall : (H : Type) → List (DataW H) → Bool := fun _ ds => decide (uptoBulkAll ds ≤ 1048576)
def OpenSpec.upto (s : _root_.Go.ChangeSpec) : _root_.Go.OpenSpec := { _root_.Go.OpenSpec.ofChange s with cond := some uptoSmall }

/-- 'terrlaw4.TimedPlans', WHERE WHAT IT READS IS OF BULK AT MOST 1048576: true; the input reads as it did. -/
def timedPlansUptoRow : OpenClaim := { program := "ytpbmlhlpfbcnbaa", sum := "b4f09bf4e5c906d73bfcb630df75490051087eb3c06855d1b871485c2bc7c647", func := "terrier/terrlaw4.TimedPlans", spec := "timedPlans", plainKeys := false, apart := false, narrowed := true }
def TimedPlansUptoSaid : Prop := timedPlansUptoRow.holds Try.pinned (OpenSpec.upto timedPlansSpec)

/-- 'terrkeep4.TimedRight', WHERE WHAT IT READS IS OF BULK AT MOST 1048576: true; the input reads as it did. -/
def timedRightUptoRow : OpenClaim := { program := "ytpbmlhlpfbcnbaa", sum := "b4f09bf4e5c906d73bfcb630df75490051087eb3c06855d1b871485c2bc7c647", func := "terrier/terrkeep4.TimedRight", spec := "timedRight", plainKeys := false, apart := false, narrowed := true }
def TimedRightUptoSaid : Prop := timedRightUptoRow.holds Try.pinned (OpenSpec.upto timedRightSpec)

/-- 'terrlaw4.ReliefHeights', WHERE WHAT IT READS IS OF BULK AT MOST 1048576: true; the input reads as it did. -/
def reliefHeightsUptoRow : OpenClaim := { program := "ytpbmlhlpfbcnbaa", sum := "b4f09bf4e5c906d73bfcb630df75490051087eb3c06855d1b871485c2bc7c647", func := "terrier/terrlaw4.ReliefHeights", spec := "reliefHeights", unfollowed := true, recurses := true, plainKeys := false, apart := false, narrowed := true }
def ReliefHeightsUptoSaid : Prop := reliefHeightsUptoRow.holds Try.pinned (OpenSpec.upto reliefHeightsSpec)

/-- 'terrlaw4.RouteFinds', WHERE WHAT IT READS IS OF BULK AT MOST 1048576: true; the input reads as it did. -/
def routeFindsUptoRow : OpenClaim := { program := "ytpbmlhlpfbcnbaa", sum := "b4f09bf4e5c906d73bfcb630df75490051087eb3c06855d1b871485c2bc7c647", func := "terrier/terrlaw4.RouteFinds", spec := "routeFinds", unfollowed := true, recurses := true, plainKeys := false, apart := false, narrowed := true }
def RouteFindsUptoSaid : Prop := routeFindsUptoRow.holds Try.pinned (OpenSpec.upto routeFindsSpec)

/-- 'terrlaw4.ReliefContours', WHERE WHAT IT READS IS OF BULK AT MOST 1048576: true; the input reads as it did. -/
def reliefContoursUptoRow : OpenClaim := { program := "ytpbmlhlpfbcnbaa", sum := "b4f09bf4e5c906d73bfcb630df75490051087eb3c06855d1b871485c2bc7c647", func := "terrier/terrlaw4.ReliefContours", spec := "reliefContours", unfollowed := true, recurses := true, plainKeys := false, apart := false, narrowed := true }
def ReliefContoursUptoSaid : Prop := reliefContoursUptoRow.holds Try.pinned (OpenSpec.upto reliefContoursSpec)

/-- 'terrlaw4.TimedHours', WHERE WHAT IT READS IS OF BULK AT MOST 1048576: true; the input reads as it did. -/
def timedHoursUptoRow : OpenClaim := { program := "ytpbmlhlpfbcnbaa", sum := "b4f09bf4e5c906d73bfcb630df75490051087eb3c06855d1b871485c2bc7c647", func := "terrier/terrlaw4.TimedHours", spec := "timedHours", unfollowed := true, recurses := true, plainKeys := false, apart := false, narrowed := true }
def TimedHoursUptoSaid : Prop := timedHoursUptoRow.holds Try.pinned (OpenSpec.upto timedHoursSpec)

/-- 'terrlaw4.RouteCosts', WHERE WHAT IT READS IS OF BULK AT MOST 1048576: true; the input reads as it did. -/
def routeCostsUptoRow : OpenClaim := { program := "ytpbmlhlpfbcnbaa", sum := "b4f09bf4e5c906d73bfcb630df75490051087eb3c06855d1b871485c2bc7c647", func := "terrier/terrlaw4.RouteCosts", spec := "routeCosts", unfollowed := true, recurses := true, plainKeys := false, apart := false, narrowed := true }
def RouteCostsUptoSaid : Prop := routeCostsUptoRow.holds Try.pinned (OpenSpec.upto routeCostsSpec)

/-- 'terrtop.TopRoutes', WHERE WHAT IT READS IS OF BULK AT MOST 1048576: true; the input reads as it did. -/
def topRoutesUptoRow : OpenClaim := { program := "ytpbmlhlpfbcnbaa", sum := "b4f09bf4e5c906d73bfcb630df75490051087eb3c06855d1b871485c2bc7c647", func := "terrier/terrtop.TopRoutes", spec := "topRoutes", unfollowed := true, recurses := true, plainKeys := false, apart := false, narrowed := true }
def TopRoutesUptoSaid : Prop := topRoutesUptoRow.holds Try.pinned (OpenSpec.upto topRoutesSpec)

/-- 'terrlaw4.IsoTours', WHERE WHAT IT READS IS OF BULK AT MOST 1048576: true; the input reads as it did. -/
def isoToursUptoRow : OpenClaim := { program := "ytpbmlhlpfbcnbaa", sum := "b4f09bf4e5c906d73bfcb630df75490051087eb3c06855d1b871485c2bc7c647", func := "terrier/terrlaw4.IsoTours", spec := "isoTours", unfollowed := true, recurses := true, plainKeys := false, apart := false, narrowed := true }
def IsoToursUptoSaid : Prop := isoToursUptoRow.holds Try.pinned (OpenSpec.upto isoToursSpec)

/-- 'terrkeep4.NetWalks', WHERE WHAT IT READS IS OF BULK AT MOST 1048576: true; the input reads as it did. -/
def netWalksUptoRow : OpenClaim := { program := "ytpbmlhlpfbcnbaa", sum := "b4f09bf4e5c906d73bfcb630df75490051087eb3c06855d1b871485c2bc7c647", func := "terrier/terrkeep4.NetWalks", spec := "netWalks", unfollowed := true, recurses := true, plainKeys := false, apart := false, narrowed := true }
def NetWalksUptoSaid : Prop := netWalksUptoRow.holds Try.pinned (OpenSpec.upto netWalksSpec)

/-- 'terrlaw4.MultiFronts', WHERE WHAT IT READS IS OF BULK AT MOST 1048576: true; the input reads as it did. -/
def multiFrontsUptoRow : OpenClaim := { program := "ytpbmlhlpfbcnbaa", sum := "b4f09bf4e5c906d73bfcb630df75490051087eb3c06855d1b871485c2bc7c647", func := "terrier/terrlaw4.MultiFronts", spec := "multiFronts", unfollowed := true, recurses := true, plainKeys := false, apart := false, narrowed := true }
def MultiFrontsUptoSaid : Prop := multiFrontsUptoRow.holds Try.pinned (OpenSpec.upto multiFrontsSpec)

/-- 'terrkeep4.NetBuilt', WHERE WHAT IT READS IS OF BULK AT MOST 1048576: true; the input reads as it did. -/
def netBuiltUptoRow : OpenClaim := { program := "ytpbmlhlpfbcnbaa", sum := "b4f09bf4e5c906d73bfcb630df75490051087eb3c06855d1b871485c2bc7c647", func := "terrier/terrkeep4.NetBuilt", spec := "netBuilt", unfollowed := true, recurses := true, plainKeys := false, apart := false, narrowed := true }
def NetBuiltUptoSaid : Prop := netBuiltUptoRow.holds Try.pinned (OpenSpec.upto netBuiltSpec)

end Rows
end Go.Proofs.Ytpbmlhlpfbcnbaa
