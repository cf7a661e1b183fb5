/- slices.Equal of rows of points, edges and bans. No condition. -/
import Derived.Test.YtoebjlimpnmaoaaPlNetTwicee
namespace Go.Proofs.Ytoebjlimpnmaoaa.Rw
open Go.Rx
set_option linter.unusedVariables false
set_option linter.unusedSimpArgs false

theorem eqP_loop : ∀ (x p : List Pt), (p ++ x).length ≤ 1073741824 → Ev2 (fun k n => f17_l0 k n (p ++ x) (p ++ x) ((p ++ x).length : Int) (p.length : Int)) (true, ())
  | [], p, hl => Ev2.step (g := fun _ _ => some (true, ())) (fun k n => by rw [f17_l0, f17_l0_B, if_neg (by simp)]) (Ev2.pure _)
  | a :: x, p, hl => by
    have h0 : (0 : Int) ≤ (p.length : Int) := by omega
    have h1 : (p.length : Int) < ((p ++ a :: x).length : Int) := by simp; omega
    have hw : w64 ((p.length : Int) + 1) = (((p ++ [a]).length : Nat) : Int) := by
      rw [w64_id (by omega) (by simp at hl; omega)]; simp
    have ih := eqP_loop x (p ++ [a]) (by simpa using hl)
    rw [show p ++ [a] ++ x = p ++ a :: x by simp] at ih
    refine Ev2.step (fun k n => ?_) ih
    rw [f17_l0, f17_l0_B, if_pos h1, if_pos h0, if_pos h1, if_pos h0, if_pos h1, if_neg (by simp), hw]
theorem eqP_ev (l : List Pt) (hl : l.length ≤ 1073741824) : Ev (fun k => f17 k l l) (true, ()) := by
  have h := (eqP_loop l [] (by simpa using hl)).diag
  refine Ev.of (fun k => ?_) h
  simp only [f17, f17_entry_B, not_true_eq_false, if_false]
  rfl

theorem eqE_loop : ∀ (x p : List Ed), (p ++ x).length ≤ 1073741824 → Ev2 (fun k n => f18_l0 k n (p ++ x) (p ++ x) ((p ++ x).length : Int) (p.length : Int)) (true, ())
  | [], p, hl => Ev2.step (g := fun _ _ => some (true, ())) (fun k n => by rw [f18_l0, f18_l0_B, if_neg (by simp)]) (Ev2.pure _)
  | a :: x, p, hl => by
    have h0 : (0 : Int) ≤ (p.length : Int) := by omega
    have h1 : (p.length : Int) < ((p ++ a :: x).length : Int) := by simp; omega
    have hw : w64 ((p.length : Int) + 1) = (((p ++ [a]).length : Nat) : Int) := by
      rw [w64_id (by omega) (by simp at hl; omega)]; simp
    have ih := eqE_loop x (p ++ [a]) (by simpa using hl)
    rw [show p ++ [a] ++ x = p ++ a :: x by simp] at ih
    refine Ev2.step (fun k n => ?_) ih
    rw [f18_l0, f18_l0_B, if_pos h1, if_pos h0, if_pos h1, if_pos h0, if_pos h1, if_neg (by simp), hw]
theorem eqE_ev (l : List Ed) (hl : l.length ≤ 1073741824) : Ev (fun k => f18 k l l) (true, ()) := by
  have h := (eqE_loop l [] (by simpa using hl)).diag
  refine Ev.of (fun k => ?_) h
  simp only [f18, f18_entry_B, not_true_eq_false, if_false]
  rfl

theorem eqB_loop : ∀ (x p : List Pt), (p ++ x).length ≤ 1073741824 → Ev2 (fun k n => f19_l0 k n (p ++ x) (p ++ x) ((p ++ x).length : Int) (p.length : Int)) (true, ())
  | [], p, hl => Ev2.step (g := fun _ _ => some (true, ())) (fun k n => by rw [f19_l0, f19_l0_B, if_neg (by simp)]) (Ev2.pure _)
  | a :: x, p, hl => by
    have h0 : (0 : Int) ≤ (p.length : Int) := by omega
    have h1 : (p.length : Int) < ((p ++ a :: x).length : Int) := by simp; omega
    have hw : w64 ((p.length : Int) + 1) = (((p ++ [a]).length : Nat) : Int) := by
      rw [w64_id (by omega) (by simp at hl; omega)]; simp
    have ih := eqB_loop x (p ++ [a]) (by simpa using hl)
    rw [show p ++ [a] ++ x = p ++ a :: x by simp] at ih
    refine Ev2.step (fun k n => ?_) ih
    rw [f19_l0, f19_l0_B, if_pos h1, if_pos h0, if_pos h1, if_pos h0, if_pos h1, if_neg (by simp), hw]
theorem eqB_ev (l : List Pt) (hl : l.length ≤ 1073741824) : Ev (fun k => f19 k l l) (true, ()) := by
  have h := (eqB_loop l [] (by simpa using hl)).diag
  refine Ev.of (fun k => ?_) h
  simp only [f19, f19_entry_B, not_true_eq_false, if_false]
  rfl

end Go.Proofs.Ytoebjlimpnmaoaa.Rw
