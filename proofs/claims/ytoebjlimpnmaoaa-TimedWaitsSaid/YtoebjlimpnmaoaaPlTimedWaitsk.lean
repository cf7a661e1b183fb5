/- net.Out: the edges that begin at a node. No condition. -/
import Derived.Test.YtoebjlimpnmaoaaPlTimedWaitsj
namespace Go.Proofs.Ytoebjlimpnmaoaa.Rw
open Go.Rx
set_option linter.unusedVariables false
set_option linter.unusedSimpArgs false

theorem out_loop (E : List Ed) (u : Int) (hE : E.length ≤ 600) : ∀ (l pre : List Ed) (ks : List Int), pre ++ l = E → ks.length ≤ pre.length → (∀ k : Int, k ∈ ks ↔ 0 ≤ k ∧ k < (pre.length : Int) ∧ fromE E k = u) →
    ∃ ks' : List Int, ks'.length ≤ E.length ∧ (∀ k : Int, k ∈ ks' ↔ 0 ≤ k ∧ k < (E.length : Int) ∧ fromE E k = u) ∧ Ev2 (fun k n => f21_l0 k n ks u (E.length : Int) (pre.length : Int) E) (ks', ())
  | [], pre, ks, hpl, hk, hm => by
    have e : pre = E := by simpa using hpl
    subst e
    exact ⟨ks, hk, hm, Ev2.step (g := fun _ _ => some (ks, ())) (fun k n => by rw [f21_l0, f21_l0_B, if_neg (by simp)]) (Ev2.pure _)⟩
  | e :: l, pre, ks, hpl, hk, hm => by
    have i0 : (0 : Int) ≤ (pre.length : Int) := by omega
    have i1 : (pre.length : Int) < (E.length : Int) := by rw [← hpl]; simp; omega
    have hg : E.getD ((pre.length : Int)).toNat (0, (0, (0, 0))) = e := by rw [← hpl]; exact getD_mid
    have hw : w64 ((pre.length : Int) + 1) = (((pre ++ [e]).length : Nat) : Int) := by
      rw [w64_id (by omega) (by omega)]; simp
    have hpl' : (pre ++ [e]) ++ l = E := by simp [← hpl]
    have hf : fromE E (pre.length : Int) = e.1 := by unfold fromE; exact congrArg Prod.fst hg
    by_cases c : e.1 = u
    · obtain ⟨ks', k1, k2, k3⟩ := out_loop E u hE l (pre ++ [e]) (ks ++ [(pre.length : Int)]) hpl' (by simp; exact hk) (fun k => by
        simp only [List.mem_append, List.mem_singleton, hm, List.length_append, List.length_singleton]
        constructor
        · rintro (h | h)
          · omega
          · subst h; omega
        · intro h
          by_cases g : k = (pre.length : Int)
          · exact .inr g
          · exact .inl (by omega))
      refine ⟨ks', k1, k2, Ev2.step (fun k n => ?_) k3⟩
      rw [f21_l0, f21_l0_B, if_pos i1, if_pos i0, if_pos i1, hg, if_pos c, if_pos (by omega), f21_c6, f21_c6_B, hw]
    · obtain ⟨ks', k1, k2, k3⟩ := out_loop E u hE l (pre ++ [e]) ks hpl' (by simp; omega) (fun k => by
        rw [hm]; simp only [List.length_append, List.length_singleton]
        constructor
        · intro h; omega
        · intro h
          by_cases g : k = (pre.length : Int)
          · subst g; omega
          · omega)
      refine ⟨ks', k1, k2, Ev2.step (fun k n => ?_) k3⟩
      rw [f21_l0, f21_l0_B, if_pos i1, if_pos i0, if_pos i1, hg, if_neg c, f21_c6, f21_c6_B, hw]
theorem out_ev (N : List Pt) (E : List Ed) (B : List Pt) (u : Int) (hE : E.length ≤ 600) :
    ∃ ks' : List Int, ks'.length ≤ E.length ∧ (∀ k : Int, k ∈ ks' ↔ 0 ≤ k ∧ k < (E.length : Int) ∧ fromE E k = u) ∧ Ev (fun k => f21 k (N, (E, B)) u) (ks', ()) := by
  obtain ⟨ks', k1, k2, k3⟩ := out_loop E u hE E [] [] rfl (by simp) (fun k => by simp; omega)
  refine ⟨ks', k1, k2, ?_⟩
  simp only [f21, f21_entry_B]
  exact k3.diag
end Go.Proofs.Ytoebjlimpnmaoaa.Rw
