/- Networks: Cost, Back and Long return what the reference says. No condition. -/
import Derived.Test.YthjejgaekoopnaaPlNetCostsh
namespace Go.Proofs.Ythjejgaekoopnaa.Rw
open Go.Rx
set_option linter.unusedVariables false
set_option linter.unusedSimpArgs false

theorem netted_true (j : Nat) : f32 (j + 60) = some (true, ()) := by kernel_rfl
theorem costs_bans (X : Nt) (N : List Pt) (E E' : List Ed) (B : List Pt) (way : List Int) (c e : Int) (hB : B.length ≤ 600) {res : Bool × Unit} : ∀ (l pre acc : List Pt), pre ++ l = B → acc.length = pre.length →
    Ev (fun k => (f43 k (N, (E, B)) way).bind fun r1 => f10_c9 k X.1 X.2.1 X.2.2 N E' (acc ++ l.map swP) c e r1.2.1 r1.1) res →
    Ev2 (fun k n => f10_l2 k n X.1 X.2.1 X.2.2 N E B E' acc way c e (B.length : Int) (pre.length : Int)) res
  | [], pre, acc, hpl, ha, h => by
    subst hpl
    exact Ev2.step (fun k n => by rw [f10_l2, f10_l2_B, if_neg (by simp)]) (by simpa using h.two)
  | b :: l, pre, acc, hpl, ha, h => by
    have ih := costs_bans X N E E' B way c e hB (res := res) l (pre ++ [b]) (acc ++ [swP b]) (by simp [← hpl]) (by simp [ha]) (by simpa using h)
    have h0 : (0 : Int) ≤ (pre.length : Int) := by omega
    have h1 : (pre.length : Int) < (B.length : Int) := by rw [← hpl]; simp; omega
    have hg : B.getD ((pre.length : Int)).toNat (0, 0) = b := by rw [← hpl]; exact getD_mid
    have hw : w64 ((pre.length : Int) + 1) = (((pre ++ [b]).length : Nat) : Int) := by
      rw [w64_id (by omega) (by omega)]; simp
    refine Ev2.step (fun k n => ?_) ih
    rw [f10_l2, f10_l2_B, if_pos h1, if_pos h0, if_pos h1, hg, if_pos (by omega), hw]
    rfl
theorem costs_edges (X : Nt) (N : List Pt) (E : List Ed) (B : List Pt) (way : List Int) (c e : Int) (hE : E.length ≤ 600) {res : Bool × Unit} : ∀ (l pre acc : List Ed), pre ++ l = E → acc.length = pre.length →
    Ev (fun k => f10_l2 k k X.1 X.2.1 X.2.2 N E B (acc ++ l.map swE) [] way c e (B.length : Int) 0) res →
    Ev2 (fun k n => f10_l0 k n X.1 X.2.1 X.2.2 N E B acc way c e (E.length : Int) (pre.length : Int)) res
  | [], pre, acc, hpl, ha, h => by
    subst hpl
    exact Ev2.step (fun k n => by rw [f10_l0, f10_l0_B, if_neg (by simp)]) (by simpa using h.two)
  | x :: l, pre, acc, hpl, ha, h => by
    have ih := costs_edges X N E B way c e hE (res := res) l (pre ++ [x]) (acc ++ [swE x]) (by simp [← hpl]) (by simp [ha]) (by simpa using h)
    have h0 : (0 : Int) ≤ (pre.length : Int) := by omega
    have h1 : (pre.length : Int) < (E.length : Int) := by rw [← hpl]; simp; omega
    have hg : E.getD ((pre.length : Int)).toNat (0, (0, (0, 0))) = x := by rw [← hpl]; exact getD_mid
    have hw : w64 ((pre.length : Int) + 1) = (((pre ++ [x]).length : Nat) : Int) := by
      rw [w64_id (by omega) (by omega)]; simp
    refine Ev2.step (fun k n => ?_) ih
    rw [f10_l0, f10_l0_B, if_pos h1, if_pos h0, if_pos h1, hg, if_pos (by omega), hw]
    rfl
theorem costs_end (n : Nt) (c e : Int) (h : n.1.length ≤ 200 ∧ n.2.1.length ≤ 600 ∧ n.2.2.length ≤ 600) : Ev (fun k => f10_c9 k n.1 n.2.1 n.2.2 n.1 n.2.1 n.2.2 c e e c) (true, ()) := by
  simp only [f10_c9, f10_c9_B]
  refine (same_ev n h).bind ?_
  exact Ev.of (fun k => by simp [f10_r22, f10_r22_B]) (Ev.pure _)
theorem costs_law (n : Nt) (way : List Int) (a b : Pt) (v : Int) (hway : (way.length : Int) ≤ 9000000000000000000) : Ev (fun k => f10 k n way a b v) (true, ()) := by
  obtain ⟨N, E, B⟩ := n
  obtain ⟨r, hr, hl1⟩ := long_ev a b v
  obtain ⟨r', hr', hl2⟩ := longOf_ev a b v
  obtain rfl := root_one hr hr'
  simp only [f10, f10_entry_B]
  refine (cost_ev (N, (E, B)) way hway).bind ((back_ev (N, (E, B))).bind ((flt_ev (N, (E, B))).bind ((Ev.off 60 netted_true : Ev (fun k => f32 k) (true, ())).bind ?_)))
  simp only [not_true_eq_false, if_false]
  refine hl1.bind (hl2.bind ?_)
  simp only [not_true_eq_false, if_false]
  by_cases h : netF (N, (E, B)) = 0
  · have hl := netF_len h
    have h1 : N.length ≤ 200 := hl.1
    have h2 : E.length ≤ 600 := hl.2.1
    have h3 : B.length ≤ 600 := hl.2.2
    unfold costF
    simp only [h, if_true, not_true_eq_false, decide_false, f10_r4, f10_r4_B, Bool.false_eq_true, if_false]
    refine (costs_edges (backF (N, (E, B))) N E B way _ _ h2 E [] [] rfl rfl ?_).diag
    refine (costs_bans (backF (N, (E, B))) N E (E.map swE) B way _ _ h3 B [] [] rfl rfl ?_).diag
    refine (wayCost_ev (N, (E, B)) way (by have : B.length ≤ 600 := h3; show B.length ≤ 1000000; omega) hway).bind ?_
    exact costs_end (backF (N, (E, B))) _ _ ⟨h1, by simpa [backF] using h2, by simpa [backF] using h3⟩
  · unfold costF
    simp only [h, if_false, not_true_eq_false, decide_false, f10_r4, f10_r4_B, Bool.false_eq_true]
    exact costs_end ([], ([], [])) 0 (netF (N, (E, B))) ⟨by simp, by simp, by simp⟩
/-- **Cost, Back and Long return what the reference says.** -/
theorem pure_NetCosts : Pure_NetCosts := by
  rintro ⟨n, way, a, b, v, u⟩ hwf
  have hway : (List.length (α := Int) way : Int) ≤ 9000000000000000000 := by
    have : List.length (α := Int) way * 8 ≤ 140737488351232 := hwf.2.1.1
    omega
  exact (costs_law n way a b v hway).get
end Go.Proofs.Ythjejgaekoopnaa.Rw
