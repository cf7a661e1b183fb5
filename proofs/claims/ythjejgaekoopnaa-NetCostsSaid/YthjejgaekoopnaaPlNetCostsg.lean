/- Networks: what the reference says of a way. No condition. -/
import Derived.Test.YthjejgaekoopnaaPlNetCostsf
namespace Go.Proofs.Ythjejgaekoopnaa.Rw
open Go.Rx
set_option linter.unusedVariables false
set_option linter.unusedSimpArgs false

theorem turnOK_loop (a b : Int) : ∀ (l pre : List Pt), ((pre ++ l).length : Int) ≤ 1000000 → Ev2 (fun k n => f39_l0 k n a b (pre ++ l) ((pre ++ l).length : Int) (pre.length : Int)) (decide ((a, b) ∉ l), ())
  | [], pre, hl => Ev2.step (g := fun _ _ => some (true, ())) (fun k n => by rw [f39_l0, f39_l0_B, if_neg (by simp)]) (by simpa using Ev2.pure _)
  | x :: l, pre, hl => by
    have h0 : (0 : Int) ≤ (pre.length : Int) := by omega
    have h1 : (pre.length : Int) < ((pre ++ x :: l).length : Int) := by simp; omega
    have hw : w64 ((pre.length : Int) + 1) = (((pre ++ [x]).length : Nat) : Int) := by
      rw [w64_id (by omega) (by simp at hl; omega)]; simp
    by_cases hx : x.1 = a ∧ x.2 = b
    · refine Ev2.step (g := fun _ _ => some (false, ())) (fun k n => ?_) ?_
      · rw [f39_l0, f39_l0_B, if_pos h1, if_pos h0, if_pos h1, getD_mid]
        simp only [hx.1, hx.2, if_true, decide_true, f39_r6, f39_r6_B]
      · rw [show decide ((a, b) ∉ x :: l) = false from decide_eq_false (fun z => z (by rw [show (a, b) = x by ext <;> simp [hx.1, hx.2]]; simp))]
        exact Ev2.pure _
    · have hne : (a, b) ≠ x := fun z => hx ⟨by rw [← z], by rw [← z]⟩
      have ih := turnOK_loop a b l (pre ++ [x]) (by simpa using hl)
      rw [show pre ++ [x] ++ l = pre ++ x :: l by simp] at ih
      rw [show decide ((a, b) ∉ x :: l) = decide ((a, b) ∉ l) from decide_eq_decide.2 (by simp [hne])]
      refine Ev2.step (fun k n => ?_) ih
      rw [f39_l0, f39_l0_B, if_pos h1, if_pos h0, if_pos h1, getD_mid]
      by_cases g : x.1 = a
      · have g2 : ¬ x.2 = b := fun z => hx ⟨g, z⟩
        simp only [g, g2, if_true, decide_false, f39_r6, f39_r6_B, Bool.false_eq_true, if_false, hw]
      · simp only [g, if_false, f39_r6, f39_r6_B, Bool.false_eq_true, hw]
theorem turnOK_ev (N : List Pt) (E : List Ed) (B : List Pt) (hB : B.length ≤ 1000000) (a b : Int) : Ev (fun k => f39 k (N, (E, B)) a b) (turnF E B a b, ()) := by
  have hloop := (turnOK_loop a b B [] (by simp; omega)).diag
  simp only [f39, f39_entry_B, f39_r1, f39_r1_B, turnF, inR]
  by_cases a0 : a < 0
  · have : ¬ 0 ≤ a := by omega
    simp only [a0, this, if_true, false_and, decide_false]; exact Ev.pure _
  · by_cases b0 : b < 0
    · have : ¬ 0 ≤ b := by omega
      simp only [a0, b0, this, if_false, if_true, false_and, and_false, decide_false]; exact Ev.pure _
    · by_cases a1 : (E.length : Int) ≤ a
      · have : ¬ a < (E.length : Int) := by omega
        simp only [a0, b0, a1, this, if_false, if_true, false_and, and_false, decide_false]; exact Ev.pure _
      · by_cases b1 : (E.length : Int) ≤ b
        · have : ¬ b < (E.length : Int) := by omega
          simp only [a0, b0, a1, b1, this, if_false, if_true, false_and, and_false, decide_false]; exact Ev.pure _
        · have q1 : 0 ≤ a := by omega
          have q2 : a < (E.length : Int) := by omega
          have q3 : 0 ≤ b := by omega
          have q4 : b < (E.length : Int) := by omega
          by_cases c3 : toE E a = fromE E b
          · have c3' : (E.getD a.toNat (0, (0, (0, 0)))).2.1 = (E.getD b.toNat (0, (0, (0, 0)))).1 := c3
            simp only [a0, b0, a1, b1, q1, q2, q3, q4, c3', c3, if_false, if_true, not_true_eq_false, decide_false, Bool.false_eq_true, true_and, and_self]
            exact hloop
          · have c3' : ¬ (E.getD a.toNat (0, (0, (0, 0)))).2.1 = (E.getD b.toNat (0, (0, (0, 0)))).1 := c3
            simp only [a0, b0, a1, b1, q1, q2, q3, q4, c3', c3, if_false, if_true, not_false_eq_true, decide_true, true_and, false_and, decide_false]
            exact Ev.pure _
theorem wayCost_loop (N : List Pt) (E : List Ed) (B : List Pt) (hB : B.length ≤ 1000000) : ∀ (w pre : List Int) (s : Int), ((pre ++ w).length : Int) ≤ 9000000000000000000 → (∀ y, pre.getLast? = some y → inR y E.length) →
    Ev2 (fun k n => f43_l0 k n N E B (pre ++ w) ((pre ++ w).length : Int) (pre.length : Int) s) (costL E B pre.getLast? s w)
  | [], pre, s, hl, hv => Ev2.step (g := fun _ _ => some (s, 0, ())) (fun k n => by rw [f43_l0, f43_l0_B, if_neg (by simp)]) (Ev2.pure _)
  | x :: w, pre, s, hl, hv => by
    have h0 : (0 : Int) ≤ (pre.length : Int) := by omega
    have h1 : (pre.length : Int) < ((pre ++ x :: w).length : Int) := by simp; omega
    have hw : w64 ((pre.length : Int) + 1) = (((pre ++ [x]).length : Nat) : Int) := by
      rw [w64_id (by omega) (by simp at hl; omega)]; simp
    have opn : ∀ k n, f43_l0 k (n + 1) N E B (pre ++ x :: w) ((pre ++ x :: w).length : Int) (pre.length : Int) s = f43_r5 k (fun y2_0 y2_1 y2_2 x1 x10 x11 x6 => f43_l0 k n y2_0 y2_1 y2_2 x1 x10 x11 x6) N E B (pre ++ x :: w) ((pre ++ x :: w).length : Int) (pre.length : Int) (decide (¬ inR x E.length)) s x := fun k n => by
      rw [f43_l0, f43_l0_B, if_pos h1, if_pos h0, if_pos h1, getD_mid]
      unfold inR
      by_cases g : x < 0
      · rw [if_pos g, decide_eq_true (show ¬ (0 ≤ x ∧ x < (E.length : Int)) by omega)]
      · rw [if_neg g]
        congr 1
        exact decide_eq_decide.2 (by omega)
    simp only [costL]
    by_cases c1 : inR x E.length
    · have d1 := c1
      unfold inR at d1
      have ih := wayCost_loop N E B hB w (pre ++ [x]) (w64 (s + costE E x)) (by simpa using hl) (fun y hy => by simp at hy; subst hy; exact c1)
      rw [show pre ++ [x] ++ w = pre ++ x :: w by simp, show (pre ++ [x]).getLast? = some x by simp] at ih
      rw [if_pos c1]
      rcases List.eq_nil_or_concat pre with rfl | ⟨p, y, rfl⟩
      · refine Ev2.step (fun k n => ?_) ih
        rw [opn]
        simp only [c1, not_true_eq_false, decide_false, f43_r5, f43_r5_B, Bool.false_eq_true, if_false, List.length_nil, Int.ofNat_zero, Int.lt_irrefl, f43_r7, f43_r7_B, f43_r9, f43_r9_B, if_pos d1.1, if_pos d1.2]
        rfl
      · have hy := hv y (by simp)
        have dy := hy
        unfold inR at dy
        have e1 : (((p.concat y).length : Nat) : Int) = (p.length : Int) + 1 := by simp
        have e2 : w64 ((((p.concat y).length : Nat) : Int) - 1) = (p.length : Int) := by rw [e1, w64_id (by omega) (by simp at hl; omega)]; omega
        have e5 : (0 : Int) < ((p.concat y).length : Int) := by rw [e1]; omega
        have e6 : (p.length : Int) < ((p.concat y ++ x :: w).length : Int) := by simp; omega
        have e7 : (0 : Int) ≤ (p.length : Int) := by omega
        have e9 : (p.concat y).getLast? = some y := by simp
        rw [e9]
        simp only
        by_cases c3 : toE E y = fromE E x
        · have c3' : (E.getD y.toNat (0, (0, (0, 0)))).2.1 = (E.getD x.toNat (0, (0, (0, 0)))).1 := c3
          rw [if_pos c3]
          refine Ev2.step (g := fun k n => (f39 k (N, (E, B)) y x).bind fun r1 => if r1.1 = true then f43_l0 k n N E B (p.concat y ++ x :: w) ((p.concat y ++ x :: w).length : Int) (((p.concat y ++ [x]).length : Nat) : Int) (w64 (s + costE E x)) else some (0, 19, ())) (fun k n => ?_) ((turnOK_ev N E B hB y x).bind2 ?_)
          · rw [opn]
            simp only [c1, not_true_eq_false, decide_false, f43_r5, f43_r5_B, Bool.false_eq_true, if_false, if_pos e5, e2, if_pos e6, if_pos e7, getD_prev, if_pos dy.1, if_pos dy.2, if_pos d1.1, if_pos d1.2, c3', f43_r7, f43_r7_B, hw]
            congr 1
            funext r1
            by_cases g : r1.1 = true
            · simp only [g, not_true_eq_false, decide_false, f43_r9, f43_r9_B, Bool.false_eq_true, if_false, if_pos d1.1, if_pos d1.2, if_true, hw]
              rfl
            · simp only [g, Bool.false_eq_true, not_false_eq_true, decide_true, f43_r9, f43_r9_B, if_true, if_false]
          · by_cases c4 : (y, x) ∈ B
            · simp only [turnF, hy, c1, c3, c4, not_true_eq_false, and_false, decide_false, Bool.false_eq_true, if_false, if_true]; exact Ev2.pure _
            · simp only [turnF, hy, c1, c3, c4, not_false_eq_true, and_self, decide_true, if_true, if_false]; exact ih
        · have c3' : ¬ (E.getD y.toNat (0, (0, (0, 0)))).2.1 = (E.getD x.toNat (0, (0, (0, 0)))).1 := c3
          rw [if_neg c3]
          refine Ev2.step (g := fun _ _ => some (0, 9, ())) (fun k n => ?_) (Ev2.pure _)
          rw [opn]
          simp only [c1, not_true_eq_false, decide_false, f43_r5, f43_r5_B, Bool.false_eq_true, if_false, if_pos e5, e2, if_pos e6, if_pos e7, getD_prev, if_pos dy.1, if_pos dy.2, if_pos d1.1, if_pos d1.2, c3', not_false_eq_true, decide_true, f43_r7, f43_r7_B, if_true]
    · rw [if_neg c1]
      refine Ev2.step (g := fun _ _ => some (0, 1, ())) (fun k n => ?_) (Ev2.pure _)
      rw [opn]
      simp only [c1, not_false_eq_true, decide_true, f43_r5, f43_r5_B, if_true]
theorem wayCost_ev (n : Nt) (way : List Int) (hB : n.2.2.length ≤ 1000000) (hway : (way.length : Int) ≤ 9000000000000000000) : Ev (fun k => f43 k n way) (costL n.2.1 n.2.2 none 0 way) := by
  obtain ⟨N, E, B⟩ := n
  simp only [f43, f43_entry_B]
  exact (wayCost_loop N E B hB way [] 0 (by simpa using hway) (fun y hy => by cases hy)).diag

theorem eqP_loop : ∀ (x p : List Pt), (p ++ x).length ≤ 1073741824 → Ev2 (fun k n => f75_l0 k n (p ++ x) (p ++ x) ((p ++ x).length : Int) (p.length : Int)) (true, ())
  | [], p, hl => Ev2.step (g := fun _ _ => some (true, ())) (fun k n => by rw [f75_l0, f75_l0_B, if_neg (by simp)]) (Ev2.pure _)
  | a :: x, p, hl => by
    have h0 : (0 : Int) ≤ (p.length : Int) := by omega
    have h1 : (p.length : Int) < ((p ++ a :: x).length : Int) := by simp; omega
    have hw : w64 ((p.length : Int) + 1) = (((p ++ [a]).length : Nat) : Int) := by
      rw [w64_id (by omega) (by simp at hl; omega)]; simp
    have ih := eqP_loop x (p ++ [a]) (by simpa using hl)
    rw [show p ++ [a] ++ x = p ++ a :: x by simp] at ih
    refine Ev2.step (fun k n => ?_) ih
    rw [f75_l0, f75_l0_B, if_pos h1, if_pos h0, if_pos h1, if_pos h0, if_pos h1, if_neg (by simp), hw]
theorem eqP_ev (l : List Pt) (hl : l.length ≤ 1073741824) : Ev (fun k => f75 k l l) (true, ()) := by
  have h := (eqP_loop l [] (by simpa using hl)).diag
  refine Ev.of (fun k => ?_) h
  simp only [f75, f75_entry_B, not_true_eq_false, if_false]
  rfl

theorem eqE_loop : ∀ (x p : List Ed), (p ++ x).length ≤ 1073741824 → Ev2 (fun k n => f76_l0 k n (p ++ x) (p ++ x) ((p ++ x).length : Int) (p.length : Int)) (true, ())
  | [], p, hl => Ev2.step (g := fun _ _ => some (true, ())) (fun k n => by rw [f76_l0, f76_l0_B, if_neg (by simp)]) (Ev2.pure _)
  | a :: x, p, hl => by
    have h0 : (0 : Int) ≤ (p.length : Int) := by omega
    have h1 : (p.length : Int) < ((p ++ a :: x).length : Int) := by simp; omega
    have hw : w64 ((p.length : Int) + 1) = (((p ++ [a]).length : Nat) : Int) := by
      rw [w64_id (by omega) (by simp at hl; omega)]; simp
    have ih := eqE_loop x (p ++ [a]) (by simpa using hl)
    rw [show p ++ [a] ++ x = p ++ a :: x by simp] at ih
    refine Ev2.step (fun k n => ?_) ih
    rw [f76_l0, f76_l0_B, if_pos h1, if_pos h0, if_pos h1, if_pos h0, if_pos h1, if_neg (by simp), hw]
theorem eqE_ev (l : List Ed) (hl : l.length ≤ 1073741824) : Ev (fun k => f76 k l l) (true, ()) := by
  have h := (eqE_loop l [] (by simpa using hl)).diag
  refine Ev.of (fun k => ?_) h
  simp only [f76, f76_entry_B, not_true_eq_false, if_false]
  rfl

theorem eqB_loop : ∀ (x p : List Pt), (p ++ x).length ≤ 1073741824 → Ev2 (fun k n => f77_l0 k n (p ++ x) (p ++ x) ((p ++ x).length : Int) (p.length : Int)) (true, ())
  | [], p, hl => Ev2.step (g := fun _ _ => some (true, ())) (fun k n => by rw [f77_l0, f77_l0_B, if_neg (by simp)]) (Ev2.pure _)
  | a :: x, p, hl => by
    have h0 : (0 : Int) ≤ (p.length : Int) := by omega
    have h1 : (p.length : Int) < ((p ++ a :: x).length : Int) := by simp; omega
    have hw : w64 ((p.length : Int) + 1) = (((p ++ [a]).length : Nat) : Int) := by
      rw [w64_id (by omega) (by simp at hl; omega)]; simp
    have ih := eqB_loop x (p ++ [a]) (by simpa using hl)
    rw [show p ++ [a] ++ x = p ++ a :: x by simp] at ih
    refine Ev2.step (fun k n => ?_) ih
    rw [f77_l0, f77_l0_B, if_pos h1, if_pos h0, if_pos h1, if_pos h0, if_pos h1, if_neg (by simp), hw]
theorem eqB_ev (l : List Pt) (hl : l.length ≤ 1073741824) : Ev (fun k => f77 k l l) (true, ()) := by
  have h := (eqB_loop l [] (by simpa using hl)).diag
  refine Ev.of (fun k => ?_) h
  simp only [f77, f77_entry_B, not_true_eq_false, if_false]
  rfl

theorem same_ev (n : Nt) (h : n.1.length ≤ 200 ∧ n.2.1.length ≤ 600 ∧ n.2.2.length ≤ 600) : Ev (fun k => f44 k n n) (true, ()) := by
  obtain ⟨N, E, B⟩ := n
  have h1 : N.length ≤ 200 := h.1
  have h2 : E.length ≤ 600 := h.2.1
  have h3 : B.length ≤ 600 := h.2.2
  simp only [f44, f44_entry_B]
  refine (eqP_ev N (by omega)).bind ?_
  simp only [if_true]
  refine (eqE_ev E (by omega)).bind ?_
  simp only [if_true]
  refine (eqB_ev B (by omega)).bind ?_
  exact Ev.of (fun k => by simp [f44_r1, f44_r1_B]) (Ev.pure _)
end Go.Proofs.Ythjejgaekoopnaa.Rw
