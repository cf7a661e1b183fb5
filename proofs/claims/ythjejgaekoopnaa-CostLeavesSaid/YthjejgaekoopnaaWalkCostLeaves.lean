/- The law CostLeaves, walked: out of what the printed call does and the plain statement. -/
import Derived.Test.YthjejgaekoopnaaPureCostLeaves
namespace Go.Proofs.Ythjejgaekoopnaa.PCostLeaves
open Go.RowKit Go.Proofs.YthjejgaekoopnaaW.PrintWords Go.Proofs.YthjejgaekoopnaaW.PrintLast Go.Proofs.YthjejgaekoopnaaW.PrintMore
theorem walk (A0 : Option Addr) (c0 : Nat) (l0 : List (S42)) (a1 : Int) (a2 : Int) (a3 : Int) (a4 : Int) (w : World) (hr0 : Kd.C k42 w A0 l0.length l0) (hc0 : l0.length ≤ c0) (q0 : l0.length * 16 ≤ 140737488351232) (q1 : (∀ x0 ∈ l0, (Lit.int .i64 x0.f0).wf = true ∧ (Lit.int .i64 x0.f1).wf = true)) (q2 : (Lit.int .i64 a1).wf = true) (q3 : (Lit.int .i64 a2).wf = true) (q4 : (Lit.int .i64 a3).wf = true) (q5 : (Lit.int .i64 a4).wf = true) :
    Calls Try.prog 9 #[.slice A0 l0.length c0, .int .i64 a1, .int .i64 a2, .int .i64 a3, .int .i64 a4] w fun e w' => e = .returned (.bool true) ∧ Below w.heap.size w w' := by
  obtain ⟨k, h⟩ := Pure.CostLeaves l0 a1 a2 a3 a4 q0 q1 q2 q3 q4 q5
  exact (terrlaw4_CostLeaves.calls k A0 c0 l0 a1 a2 a3 a4 true w hr0 hc0 h).mono fun e w' ⟨he, hb⟩ => ⟨he, hb⟩
end Go.Proofs.Ythjejgaekoopnaa.PCostLeaves
