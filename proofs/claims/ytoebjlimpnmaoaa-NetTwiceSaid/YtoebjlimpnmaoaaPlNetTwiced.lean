/- Networks: the network that is turned around. No condition. -/
import Derived.Test.YtoebjlimpnmaoaaPlNetTwicec
namespace Go.Proofs.Ytoebjlimpnmaoaa.Rw
open Go.Rx
set_option linter.unusedVariables false
set_option linter.unusedSimpArgs false

def swE (e : Ed) : Ed := (e.2.1, (e.1, (e.2.2.1, e.2.2.2)))
def swP (p : Pt) : Pt := (p.2, p.1)
theorem back_bans (N : List Pt) (E : List Ed) (B : List Pt) (hB : B.length ≤ 600) : ∀ (l pre acc : List Pt), pre ++ l = B → acc.length = pre.length →
    Ev2 (fun k n => f14_l2 k n N E acc B (B.length : Int) (pre.length : Int)) ((N, (E, acc ++ l.map swP)), 0, ())
  | [], pre, acc, hpl, ha => by
    subst hpl
    exact Ev2.step (g := fun _ _ => some ((N, (E, acc)), 0, ())) (fun k n => by rw [f14_l2, f14_l2_B, if_neg (by simp)]) (by simpa using Ev2.pure _)
  | b :: l, pre, acc, hpl, ha => by
    have ih := back_bans N E B hB l (pre ++ [b]) (acc ++ [swP b]) (by simp [← hpl]) (by simp [ha])
    have h0 : (0 : Int) ≤ (pre.length : Int) := by omega
    have h1 : (pre.length : Int) < (B.length : Int) := by rw [← hpl]; simp; omega
    have hg : B.getD ((pre.length : Int)).toNat (0, 0) = b := by rw [← hpl]; exact getD_mid
    have hw : w64 ((pre.length : Int) + 1) = (((pre ++ [b]).length : Nat) : Int) := by
      rw [w64_id (by omega) (by omega)]; simp
    rw [show acc ++ [swP b] ++ l.map swP = acc ++ (b :: l).map swP by simp] at ih
    refine Ev2.step (fun k n => ?_) ih
    rw [f14_l2, f14_l2_B, if_pos h1, if_pos h0, if_pos h1, hg, if_pos (by omega), hw]
    rfl
theorem back_edges (N N' : List Pt) (E : List Ed) (B : List Pt) (hE : E.length ≤ 600) {res : Nt × Int × Unit} : ∀ (l pre acc : List Ed), pre ++ l = E → acc.length = pre.length → Ev (fun k => f14_l2 k k N' (acc ++ l.map swE) [] B (B.length : Int) 0) res →
    Ev2 (fun k n => f14_l0 k n N E B N' acc (E.length : Int) (pre.length : Int)) res
  | [], pre, acc, hpl, ha, h => by
    subst hpl
    exact Ev2.step (fun k n => by rw [f14_l0, f14_l0_B, if_neg (by simp)]) (by simpa using h.two)
  | e :: l, pre, acc, hpl, ha, h => by
    have ih := back_edges N N' E B hE (res := res) l (pre ++ [e]) (acc ++ [swE e]) (by simp [← hpl]) (by simp [ha]) (by simpa using h)
    have h0 : (0 : Int) ≤ (pre.length : Int) := by omega
    have h1 : (pre.length : Int) < (E.length : Int) := by rw [← hpl]; simp; omega
    have hg : E.getD ((pre.length : Int)).toNat (0, (0, (0, 0))) = e := by rw [← hpl]; exact getD_mid
    have hw : w64 ((pre.length : Int) + 1) = (((pre ++ [e]).length : Nat) : Int) := by
      rw [w64_id (by omega) (by omega)]; simp
    refine Ev2.step (fun k n => ?_) ih
    rw [f14_l0, f14_l0_B, if_pos h1, if_pos h0, if_pos h1, hg, if_pos (by omega), hw]
    rfl
theorem cloneP_eq (k : Nat) (l : List Pt) (hl : (l.length : Int) ≤ 1073741824) : f50u k l = some (l, ()) := by
  cases l with
  | nil => rfl
  | cons a l =>
    show (if false = true then some (([] : List Pt), ()) else if (([] : List Pt).length + (a :: l).length) * 16 ≤ 140737488355328 then some (([] : List Pt) ++ (a :: l), ()) else none) = some (a :: l, ())
    rw [if_neg (by simp), if_pos (by simp at hl ⊢; omega)]
    rfl
def backF (n : Nt) : Nt := (n.1, (n.2.1.map swE, n.2.2.map swP))
theorem back_ev (n : Nt) : Ev (fun k => f14 k n) (if netF n = 0 then (backF n, 0, ()) else (([], ([], [])), netF n, ())) := by
  obtain ⟨N, E, B⟩ := n
  simp only [f14, f14_entry_B]
  refine (chk_ev (N, (E, B))).bind ?_
  by_cases h : netF (N, (E, B)) = 0
  · have hl := netF_len h
    have h1 : N.length ≤ 200 := hl.1
    have h2 : E.length ≤ 600 := hl.2.1
    have h3 : B.length ≤ 600 := hl.2.2
    simp only [h, not_true_eq_false, if_false, if_true, cloneP_eq _ N (by omega), Option.bind_some]
    exact (back_edges N N E B h2 E [] [] rfl rfl (back_bans N (E.map swE) B h3 B [] [] rfl rfl).diag).diag
  · simp only [h, not_false_eq_true, if_true, if_false]
    exact Ev.pure _
end Go.Proofs.Ytoebjlimpnmaoaa.Rw
