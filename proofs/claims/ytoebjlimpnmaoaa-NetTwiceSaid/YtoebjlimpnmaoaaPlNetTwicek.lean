/- net.Out and net.In: the edges that begin at a node, and those that end there. No condition. -/
import Derived.Test.YtoebjlimpnmaoaaPlNetTwicej
namespace Go.Proofs.Ytoebjlimpnmaoaa.Rw
open Go.Rx
set_option linter.unusedVariables false
set_option linter.unusedSimpArgs false

theorem outX_loop (E : List Ed) (u : Int) (hE : E.length ≤ 600) : ∀ (l pre : List Ed) (ks : List Int), pre ++ l = E → ks.length ≤ pre.length → Ev2 (fun k n => f21_l0 k n ks u (E.length : Int) (pre.length : Int) E) (ks ++ outL u pre.length l, ())
  | [], pre, ks, hpl, hk => by
    have e : pre = E := by simpa using hpl
    subst e
    exact Ev2.step (g := fun _ _ => some (ks, ())) (fun k n => by rw [f21_l0, f21_l0_B, if_neg (by simp)]) (by simpa [outL] using Ev2.pure _)
  | e :: l, pre, ks, hpl, hk => by
    have i0 : (0 : Int) ≤ (pre.length : Int) := by omega
    have i1 : (pre.length : Int) < (E.length : Int) := by rw [← hpl]; simp; omega
    have hg : E.getD ((pre.length : Int)).toNat (0, (0, (0, 0))) = e := by rw [← hpl]; exact getD_mid
    have hw : w64 ((pre.length : Int) + 1) = (((pre ++ [e]).length : Nat) : Int) := by
      rw [w64_id (by omega) (by omega)]; simp
    have hpl' : (pre ++ [e]) ++ l = E := by simp [← hpl]
    have hlen : (pre ++ [e]).length = pre.length + 1 := by simp
    by_cases c : e.1 = u
    · have ih := outX_loop E u hE l (pre ++ [e]) (ks ++ [(pre.length : Int)]) hpl' (by simp; exact hk)
      rw [hlen] at ih
      simp only [outL, if_pos c]
      rw [show ks ++ [(pre.length : Int)] ++ outL u (pre.length + 1) l = ks ++ ((pre.length : Int) :: outL u (pre.length + 1) l) by simp] at ih
      refine Ev2.step (fun k n => ?_) ih
      rw [f21_l0, f21_l0_B, if_pos i1, if_pos i0, if_pos i1, hg, if_pos c, if_pos (by omega), f21_c6, f21_c6_B, hw, hlen]
    · have ih := outX_loop E u hE l (pre ++ [e]) ks hpl' (by simp; omega)
      rw [hlen] at ih
      simp only [outL, if_neg c]
      refine Ev2.step (fun k n => ?_) ih
      rw [f21_l0, f21_l0_B, if_pos i1, if_pos i0, if_pos i1, hg, if_neg c, f21_c6, f21_c6_B, hw, hlen]
theorem outX_ev (N : List Pt) (E : List Ed) (B : List Pt) (u : Int) (hE : E.length ≤ 600) : Ev (fun k => f21 k (N, (E, B)) u) (outL u 0 E, ()) := by
  have h := (outX_loop E u hE E [] [] rfl (by simp)).diag
  simp only [f21, f21_entry_B]
  simpa using h
theorem inX_loop (E : List Ed) (u : Int) (hE : E.length ≤ 600) : ∀ (l pre : List Ed) (ks : List Int), pre ++ l = E → ks.length ≤ pre.length → Ev2 (fun k n => f22_l0 k n ks u (E.length : Int) (pre.length : Int) E) (ks ++ inL u pre.length l, ())
  | [], pre, ks, hpl, hk => by
    have e : pre = E := by simpa using hpl
    subst e
    exact Ev2.step (g := fun _ _ => some (ks, ())) (fun k n => by rw [f22_l0, f22_l0_B, if_neg (by simp)]) (by simpa [inL] using Ev2.pure _)
  | e :: l, pre, ks, hpl, hk => by
    have i0 : (0 : Int) ≤ (pre.length : Int) := by omega
    have i1 : (pre.length : Int) < (E.length : Int) := by rw [← hpl]; simp; omega
    have hg : E.getD ((pre.length : Int)).toNat (0, (0, (0, 0))) = e := by rw [← hpl]; exact getD_mid
    have hw : w64 ((pre.length : Int) + 1) = (((pre ++ [e]).length : Nat) : Int) := by
      rw [w64_id (by omega) (by omega)]; simp
    have hpl' : (pre ++ [e]) ++ l = E := by simp [← hpl]
    have hlen : (pre ++ [e]).length = pre.length + 1 := by simp
    by_cases c : e.2.1 = u
    · have ih := inX_loop E u hE l (pre ++ [e]) (ks ++ [(pre.length : Int)]) hpl' (by simp; exact hk)
      rw [hlen] at ih
      simp only [inL, if_pos c]
      rw [show ks ++ [(pre.length : Int)] ++ inL u (pre.length + 1) l = ks ++ ((pre.length : Int) :: inL u (pre.length + 1) l) by simp] at ih
      refine Ev2.step (fun k n => ?_) ih
      rw [f22_l0, f22_l0_B, if_pos i1, if_pos i0, if_pos i1, hg, if_pos c, if_pos (by omega), f22_c6, f22_c6_B, hw, hlen]
    · have ih := inX_loop E u hE l (pre ++ [e]) ks hpl' (by simp; omega)
      rw [hlen] at ih
      simp only [inL, if_neg c]
      refine Ev2.step (fun k n => ?_) ih
      rw [f22_l0, f22_l0_B, if_pos i1, if_pos i0, if_pos i1, hg, if_neg c, f22_c6, f22_c6_B, hw, hlen]
theorem inX_ev (N : List Pt) (E : List Ed) (B : List Pt) (u : Int) (hE : E.length ≤ 600) : Ev (fun k => f22 k (N, (E, B)) u) (inL u 0 E, ()) := by
  have h := (inX_loop E u hE E [] [] rfl (by simp)).diag
  simp only [f22, f22_entry_B]
  simpa using h
end Go.Proofs.Ytoebjlimpnmaoaa.Rw
