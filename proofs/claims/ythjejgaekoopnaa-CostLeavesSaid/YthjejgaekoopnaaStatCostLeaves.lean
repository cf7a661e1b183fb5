/- The plain statement of the law CostLeaves: over numbers and lists alone. -/
import Derived.Test.YthjejgaekoopnaaPCostLeavesx7
namespace Go.Proofs.Ythjejgaekoopnaa.PCostLeaves
open Go.RowKit Go.Proofs.YthjejgaekoopnaaW.PrintWords Go.Proofs.YthjejgaekoopnaaW.PrintLast Go.Proofs.YthjejgaekoopnaaW.PrintMore
def terrlaw4_CostLeaves.Pure : Prop := ∀ (l0 : List (S42)) (a1 : Int) (a2 : Int) (a3 : Int) (a4 : Int), l0.length * 16 ≤ 140737488351232 → (∀ x0 ∈ l0, (Lit.int .i64 x0.f0).wf = true ∧ (Lit.int .i64 x0.f1).wf = true) → (Lit.int .i64 a1).wf = true → (Lit.int .i64 a2).wf = true → (Lit.int .i64 a3).wf = true → (Lit.int .i64 a4).wf = true → ∃ k, terrlaw4_CostLeaves.f k l0 a1 a2 a3 a4 = some true
end Go.Proofs.Ythjejgaekoopnaa.PCostLeaves
