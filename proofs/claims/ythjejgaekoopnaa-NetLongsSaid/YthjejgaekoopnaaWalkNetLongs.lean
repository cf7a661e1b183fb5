/- The law NetLongs, walked: out of what the printed call does and the plain statement. -/
import Derived.Test.YthjejgaekoopnaaPureNetLongs
namespace Go.Proofs.Ythjejgaekoopnaa.PNetLongs
open Go.RowKit Go.Proofs.YthjejgaekoopnaaW.PrintWords Go.Proofs.YthjejgaekoopnaaW.PrintLast Go.Proofs.YthjejgaekoopnaaW.PrintMore
theorem walk (A0 : Option Addr) (c0 : Nat) (l0 : List Int) (a1 : Int) (a2 : Int) (w : World) (hr0 : Kd.C (Kd.int .i64) w A0 l0.length l0) (hc0 : l0.length ≤ c0) (q0 : l0.length * 8 ≤ 140737488351232) (q1 : (∀ x0 ∈ l0, (Lit.int .i64 x0).wf = true)) (q2 : (Lit.int .i64 a1).wf = true) (q3 : (Lit.int .i64 a2).wf = true) :
    Calls Try.prog 7 #[.slice A0 l0.length c0, .int .i64 a1, .int .i64 a2] w fun e w' => e = .returned (.bool true) ∧ Below w.heap.size w w' := by
  obtain ⟨k, h⟩ := Pure.NetLongs l0 a1 a2 q0 q1 q2 q3
  exact (terrkeep4_NetLongs.calls k A0 c0 l0 a1 a2 true w hr0 hc0 h rfl).mono fun e w' ⟨he, hb⟩ => ⟨he, hb⟩
end Go.Proofs.Ythjejgaekoopnaa.PNetLongs
