/- A network that is turned around twice is the same. No condition. -/
import Derived.Test.YtoebjlimpnmaoaaPlNetTwicek
namespace Go.Proofs.Ytoebjlimpnmaoaa.Rw
open Go.Rx
set_option linter.unusedVariables false
set_option linter.unusedSimpArgs false

theorem nettedK_true (j : Nat) : f16 (j + 60) = some (true, ()) := by kernel_rfl
theorem twice_law (a : List Int) (b : Int) : Ev (fun k => f3 k a b) (true, ()) := by
  obtain ⟨N, E, B, n1, n2, n3, e1, e2, b1, b2, hnet⟩ := net_ev a
  have v1 := made_valid n1 n3 e1 e2 b1 b2
  have v2 := sw_valid n1 n3 e1 e2 b1 b2
  have k1 := back_ev (N, (E, B))
  rw [if_pos v1] at k1
  have k2 := back_ev (backF (N, (E, B)))
  rw [if_pos v2, backF_backF] at k2
  have hlow := below_lt (x := b) (n := (N.length : Int)) (by omega)
  have hE2 : (E.map swE).length ≤ 600 := by rw [List.length_map]; omega
  simp only [f3, f3_entry_B]
  refine hnet.bind (k1.bind (k2.bind ?_))
  refine Ev.of (fun k => by rw [below_eq k b _ (by show (1 : Int) ≤ (N.length : Int); omega) (by show (N.length : Int) ≤ 1000000000000; omega), Option.bind_some]) ?_
  refine (Ev.off 60 nettedK_true : Ev (fun k => f16 k) (true, ())).bind ?_
  simp only [if_true]
  refine (eqP_ev N (by omega)).bind ?_
  simp only [if_true]
  refine (eqE_ev E (by omega)).bind ?_
  simp only [if_true]
  refine (eqB_ev B (by omega)).bind ?_
  simp only [if_true]
  refine (outX_ev N E B _ (by omega)).bind ?_
  refine (inX_ev (backF (N, (E, B))).1 (backF (N, (E, B))).2.1 (backF (N, (E, B))).2.2 _ hE2).bind ?_
  have h1 : inL (belowF b (N.length : Int)) 0 (backF (N, (E, B))).2.1 = outL (belowF b (N.length : Int)) 0 E := inL_sw _ E 0
  have h2 : outL (belowF b (N.length : Int)) 0 (backF (N, (E, B))).2.1 = inL (belowF b (N.length : Int)) 0 E := outL_sw _ E 0
  simp only [h1]
  refine (equal_ev _ (by have := outL_len (belowF b (N.length : Int)) E 0; omega)).bind ?_
  simp only [if_true]
  refine (inX_ev N E B _ (by omega)).bind ?_
  refine (outX_ev (backF (N, (E, B))).1 (backF (N, (E, B))).2.1 (backF (N, (E, B))).2.2 _ hE2).bind ?_
  simp only [h2]
  refine (equal_ev _ (by have := inL_len (belowF b (N.length : Int)) E 0; omega)).bind ?_
  exact Ev.of (fun k => by simp [f3_r5, f3_r5_B]) (Ev.pure _)
/-- **A network that is turned around twice is the same.** -/
theorem pure_NetTwice : Pure_NetTwice := by
  rintro ⟨a, b, u⟩ hwf
  exact (twice_law a b).get
end Go.Proofs.Ytoebjlimpnmaoaa.Rw
