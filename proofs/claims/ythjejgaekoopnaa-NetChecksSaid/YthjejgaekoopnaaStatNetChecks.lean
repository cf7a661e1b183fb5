/- The plain statement of the law NetChecks: over numbers and lists alone. -/
import Derived.Test.YthjejgaekoopnaaPNetChecksx10
namespace Go.Proofs.Ythjejgaekoopnaa.PNetChecks
open Go.RowKit Go.Proofs.YthjejgaekoopnaaW.PrintWords Go.Proofs.YthjejgaekoopnaaW.PrintLast Go.Proofs.YthjejgaekoopnaaW.PrintMore
def terrlaw4_NetChecks.Pure : Prop := ∀ (l0_0 : List (S46)) (l0_1 : List (S55)) (l0_2 : List (S66)) (a1 : Int) (a2 : Int) (a3 : Int), l0_0.length * 16 ≤ 140737488351232 → (∀ x0 ∈ l0_0, (Lit.int .i64 x0.f0).wf = true ∧ (Lit.int .i64 x0.f1).wf = true) → l0_1.length * 32 ≤ 140737488351232 → (∀ x0 ∈ l0_1, (Lit.int .i64 x0.f0).wf = true ∧ (Lit.int .i64 x0.f1).wf = true ∧ (Lit.int .i64 x0.f2).wf = true ∧ (Lit.int .i64 x0.f3).wf = true) → l0_2.length * 16 ≤ 140737488351232 → (∀ x0 ∈ l0_2, (Lit.int .i64 x0.f0).wf = true ∧ (Lit.int .i64 x0.f1).wf = true) → (Lit.int .i64 a1).wf = true → (Lit.int .i64 a2).wf = true → (Lit.int .i64 a3).wf = true → ∃ k, terrlaw4_NetChecks.f k l0_0 l0_1 l0_2 a1 a2 a3 = some true
end Go.Proofs.Ythjejgaekoopnaa.PNetChecks
