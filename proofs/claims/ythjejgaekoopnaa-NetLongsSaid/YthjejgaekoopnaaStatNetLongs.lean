/- The plain statement of the law NetLongs: over numbers and lists alone. -/
import Derived.Test.YthjejgaekoopnaaPNetLongsx10
namespace Go.Proofs.Ythjejgaekoopnaa.PNetLongs
open Go.RowKit Go.Proofs.YthjejgaekoopnaaW.PrintWords Go.Proofs.YthjejgaekoopnaaW.PrintLast Go.Proofs.YthjejgaekoopnaaW.PrintMore
def terrkeep4_NetLongs.Pure : Prop := ∀ (l0 : List Int) (a1 : Int) (a2 : Int), l0.length * 8 ≤ 140737488351232 → (∀ x0 ∈ l0, (Lit.int .i64 x0).wf = true) → (Lit.int .i64 a1).wf = true → (Lit.int .i64 a2).wf = true → ∃ k, terrkeep4_NetLongs.f k l0 a1 a2 = some true
end Go.Proofs.Ythjejgaekoopnaa.PNetLongs
