/- slices.Equal of rows of numbers. No condition. -/
import Derived.Test.YtoebjlimpnmaoaaPlNetTwiced
namespace Go.Proofs.Ytoebjlimpnmaoaa.Rw
open Go.Rx
set_option linter.unusedVariables false
set_option linter.unusedSimpArgs false
theorem equal_loop : ∀ (x p : List Int), (p ++ x).length ≤ 1073741824 → Ev2 (fun k n => f20_l0 k n (p ++ x) (p ++ x) ((p ++ x).length : Int) (p.length : Int)) (true, ())
  | [], p, hl => Ev2.step (g := fun _ _ => some (true, ())) (fun k n => by rw [f20_l0, f20_l0_B, if_neg (by simp)]) (Ev2.pure _)
  | a :: x, p, hl => by
    have h0 : (0 : Int) ≤ (p.length : Int) := by omega
    have h1 : (p.length : Int) < ((p ++ a :: x).length : Int) := by simp; omega
    have hw : w64 ((p.length : Int) + 1) = (((p ++ [a]).length : Nat) : Int) := by
      rw [w64_id (by omega) (by simp at hl; omega)]; simp
    have ih := equal_loop x (p ++ [a]) (by simpa using hl)
    rw [show p ++ [a] ++ x = p ++ a :: x by simp] at ih
    refine Ev2.step (fun k n => ?_) ih
    rw [f20_l0, f20_l0_B, if_pos h1, if_pos h0, if_pos h1, if_pos h0, if_pos h1, if_neg (by simp), hw]
theorem equal_ev (l : List Int) (hl : l.length ≤ 1073741824) : Ev (fun k => f20 k l l) (true, ()) := by
  have h := (equal_loop l [] (by simpa using hl)).diag
  refine Ev.of (fun k => ?_) h
  simp only [f20, f20_entry_B, not_true_eq_false, if_false]
  rfl
end Go.Proofs.Ytoebjlimpnmaoaa.Rw
