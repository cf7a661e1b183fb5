/- Curves: the reference's CurveFault and CostAt. No condition. -/
import Derived.Test.YtpbmlhlpfbcnbaaPlTimedHoursi
namespace Go.Proofs.Ytpbmlhlpfbcnbaa.Rw
open Go.Rx
set_option linter.unusedVariables false
set_option linter.unusedSimpArgs false

def PrevQ (n : Nat) (q0 q1 : Int) : Option St → Prop
  | none => n = 0
  | some q => 0 < n ∧ q0 = q.1 ∧ q1 = q.2 ∧ goodS q
theorem cflt_loop (c : List St) (hc : c.length ≤ 24) : ∀ (l pre : List St) (p : Option St) (q0 q1 : Int), pre ++ l = c → PrevQ pre.length q0 q1 p →
    Ev2 (fun k n => f43_l0 k n q0 q1 c (c.length : Int) (pre.length : Int)) (crvFrom p l, ())
  | [], pre, p, q0, q1, hpl, hp => by
    subst hpl
    refine Ev2.step (g := fun _ _ => some (0, ())) (fun k n => by rw [f43_l0, f43_l0_B, if_neg (by simp)]) ?_
    cases p <;> exact Ev2.pure _
  | s :: l, pre, p, q0, q1, hpl, hp => by
    have h0 : (0 : Int) ≤ (pre.length : Int) := by omega
    have h1 : (pre.length : Int) < (c.length : Int) := by rw [← hpl]; simp; omega
    have hg : c.getD ((pre.length : Int)).toNat (0, 0) = s := by rw [← hpl]; exact getD_mid
    have hpre : pre.length ≤ 24 := by rw [← hpl] at hc; simp at hc; omega
    have hw : w64 ((pre.length : Int) + 1) = (((pre ++ [s]).length : Nat) : Int) := by
      rw [w64_id (by omega) (by omega)]; simp
    have bad : ¬ goodS s → crvFrom p (s :: l) = 1 := fun h => by cases p <;> simp only [crvFrom, if_neg h]
    by_cases g1 : s.1 < 0
    · rw [bad (by unfold goodS; omega)]
      refine Ev2.step (g := fun _ _ => some (1, ())) (fun k n => ?_) (Ev2.pure _)
      rw [f43_l0, f43_l0_B, if_pos h1, if_pos h0, if_pos h1, hg, if_pos g1, decide_eq_true g1]; rfl
    by_cases g2 : 1073741824 < s.1
    · rw [bad (by unfold goodS; omega)]
      refine Ev2.step (g := fun _ _ => some (1, ())) (fun k n => ?_) (Ev2.pure _)
      rw [f43_l0, f43_l0_B, if_pos h1, if_pos h0, if_pos h1, hg, if_neg g1, if_pos g2, decide_eq_true g2]; rfl
    by_cases g3 : s.2 < 0
    · rw [bad (by unfold goodS; omega)]
      refine Ev2.step (g := fun _ _ => some (1, ())) (fun k n => ?_) (Ev2.pure _)
      rw [f43_l0, f43_l0_B, if_pos h1, if_pos h0, if_pos h1, hg, if_neg g1, if_neg g2, if_pos g3, decide_eq_true g3]; rfl
    by_cases g4 : 1073741824 < s.2
    · rw [bad (by unfold goodS; omega)]
      refine Ev2.step (g := fun _ _ => some (1, ())) (fun k n => ?_) (Ev2.pure _)
      rw [f43_l0, f43_l0_B, if_pos h1, if_pos h0, if_pos h1, hg, if_neg g1, if_neg g2, if_neg g3, decide_eq_true g4]; rfl
    have hgs : goodS s := by unfold goodS; omega
    have ih := cflt_loop c hc l (pre ++ [s]) (some s) s.1 s.2 (by simp [← hpl]) ⟨by simp, rfl, rfl, hgs⟩
    rw [← hw] at ih
    cases p with
    | none =>
      have hp0 : pre.length = 0 := hp
      simp only [crvFrom, if_pos hgs]
      refine Ev2.step (fun k n => ?_) ih
      rw [f43_l0, f43_l0_B, if_pos h1, if_pos h0, if_pos h1, hg, if_neg g1, if_neg g2, if_neg g3, decide_eq_false g4, f43_c10, f43_c10_B, if_neg (by simp), if_neg (by omega), f43_r14, f43_r14_B, if_neg (by simp), if_neg (by omega), f43_r16, f43_r16_B, if_neg (by simp), f43_c13, f43_c13_B]
    | some q =>
      obtain ⟨hn, rfl, rfl, hgq⟩ := hp
      have h2 : (0 : Int) < (pre.length : Int) := by omega
      have e1 : w64 (s.1 + s.2) = s.1 + s.2 := w64_id (by omega) (by omega)
      have e2 : w64 (q.1 + q.2) = q.1 + q.2 := w64_id (by unfold goodS at hgq; omega) (by unfold goodS at hgq; omega)
      by_cases g5 : s.1 ≤ q.1
      · simp only [crvFrom]
        rw [if_pos hgs, if_pos g5]
        refine Ev2.step (g := fun _ _ => some (9, ())) (fun k n => ?_) (Ev2.pure _)
        rw [f43_l0, f43_l0_B, if_pos h1, if_pos h0, if_pos h1, hg, if_neg g1, if_neg g2, if_neg g3, decide_eq_false g4, f43_c10, f43_c10_B, if_neg (by simp), if_pos h2, decide_eq_true g5]; rfl
      by_cases g6 : s.1 + s.2 < q.1 + q.2
      · simp only [crvFrom]
        rw [if_pos hgs, if_neg g5, if_pos g6]
        refine Ev2.step (g := fun _ _ => some (19, ())) (fun k n => ?_) (Ev2.pure _)
        rw [f43_l0, f43_l0_B, if_pos h1, if_pos h0, if_pos h1, hg, if_neg g1, if_neg g2, if_neg g3, decide_eq_false g4, f43_c10, f43_c10_B, if_neg (by simp), if_pos h2, decide_eq_false g5, f43_r14, f43_r14_B, if_neg (by simp), if_pos h2, e1, e2, decide_eq_true g6]; rfl
      · simp only [crvFrom]
        rw [if_pos hgs, if_neg g5, if_neg g6]
        refine Ev2.step (fun k n => ?_) ih
        rw [f43_l0, f43_l0_B, if_pos h1, if_pos h0, if_pos h1, hg, if_neg g1, if_neg g2, if_neg g3, decide_eq_false g4, f43_c10, f43_c10_B, if_neg (by simp), if_pos h2, decide_eq_false g5, f43_r14, f43_r14_B, if_neg (by simp), if_pos h2, e1, e2, decide_eq_false g6, f43_r16, f43_r16_B, if_neg (by simp), f43_c13, f43_c13_B]
theorem cflt_ev (c : List St) : Ev (fun k => f43 k c) (crvF c, ()) := by
  simp only [f43, f43_entry_B]
  unfold crvF
  by_cases h1 : c.length > 24
  · rw [if_pos h1]
    exact Ev.of (fun k => by rw [if_pos (by omega)]) (Ev.pure _)
  by_cases h2 : c.length = 0
  · rw [if_neg h1, if_pos h2]
    exact Ev.of (fun k => by rw [if_neg (by omega), if_pos (by omega)]) (Ev.pure _)
  rw [if_neg h1, if_neg h2]
  exact Ev.of (fun k => by rw [if_neg (by omega), if_neg (by omega)]; rfl) (cflt_loop c (by omega) c [] none (-1) 0 rfl rfl).diag
theorem ref_mid (k : Nat) {a b : St} {t : Int} (ha : goodS a) (hb : goodS b) (hd : a.1 < b.1) (h0 : a.1 < t) (h1 : t < b.1) : f110_b0 k a.1 a.2 b.1 b.2 t = some (segC a b t, ()) := by
  have hs := segC_good ha hb hd (by omega) (by omega) (t := t)
  unfold segC at hs ⊢
  unfold goodS at ha hb
  have hm := mul_bound (x := b.2 - a.2) (y := t - a.1) (by omega) (by omega) (by omega) (by omega)
  rw [f110_b0, f110_b0_B, if_neg (by omega), decide_eq_false (by omega), f110_r9, f110_r9_B, if_neg (by simp)]
  rw [w64_id (n := b.2 - a.2) (by omega) (by omega), w64_id (n := t - a.1) (by omega) (by omega), w64_id (n := b.1 - a.1) (by omega) (by omega)]
  generalize hne : (b.2 - a.2) * (t - a.1) = n at *
  generalize hde : b.1 - a.1 = d at *
  have hdp : 0 < d := by omega
  have hdn : ¬ d = 0 := by omega
  rw [w64_id (n := n) (by omega) (by omega)]
  by_cases h : n < 0
  · rw [if_pos h, if_pos hdn]
    have q0 : 0 ≤ (-n) / d := Int.ediv_nonneg (by omega) (by omega)
    have q1 : (-n) / d ≤ -n := Int.ediv_le_self _ (by omega)
    have q2 : d * ((-n) / d) ≤ -n := Int.mul_ediv_self_le (by omega)
    have q3 : -n < d * ((-n) / d) + d := by
      have := Int.lt_mul_ediv_self_add (x := -n) hdp
      omega
    rw [Int.zero_sub, w64_id (n := -n) (by omega) (by omega), Int.tdiv_eq_ediv_of_nonneg (a := -n) (b := d) (by omega)]
    rw [w64_id (n := (-n) / d) (by omega) (by omega), w64_id (n := (-n) / d + 1) (by omega) (by omega)]
    have e : ((-n) / d + 1) * d = d * ((-n) / d) + d := by rw [Int.add_mul, Int.one_mul, Int.mul_comm]
    rw [w64_id (n := ((-n) / d + 1) * d) (by omega) (by omega), w64_id (n := n + ((-n) / d + 1) * d) (by omega) (by omega)]
    rw [f110_c17, f110_c17_B, if_pos hdn, Int.tdiv_eq_ediv_of_nonneg (a := n + ((-n) / d + 1) * d) (b := d) (by omega), Int.add_mul_ediv_right _ _ (by omega)]
    congr 2
    rw [w64_id (n := n / d + ((-n) / d + 1)) (by omega) (by omega), w64_id (n := a.2 + (n / d + ((-n) / d + 1))) (by omega) (by omega), w64_id (by omega) (by omega)]
    omega
  · rw [if_neg h]
    have q0 : 0 ≤ n / d := Int.ediv_nonneg (by omega) (by omega)
    rw [f110_c17, f110_c17_B, if_pos hdn, Int.tdiv_eq_ediv_of_nonneg (a := n) (b := d) (by omega)]
    congr 2
    rw [w64_id (n := n / d) (by omega) (by omega), w64_id (n := a.2 + n / d) (by omega) (by omega), w64_id (by omega) (by omega)]
    omega
theorem ref_low (k : Nat) {t a0 a1 b0 b1 : Int} (h : t ≤ a0) : f110_b0 k a0 a1 b0 b1 t = some (a1, ()) := by
  rw [f110_b0, f110_b0_B, if_pos h, f110_r9, f110_r9_B, if_pos rfl, if_pos h]
theorem ref_high (k : Nat) {t a0 a1 b0 b1 : Int} (h : ¬ t ≤ a0) (h1 : b0 ≤ t) : f110_b0 k a0 a1 b0 b1 t = some (b1, ()) := by
  rw [f110_b0, f110_b0_B, if_neg h, decide_eq_true h1, f110_r9, f110_r9_B, if_pos rfl, if_neg h]
theorem refAt_loop (c : List St) (t : Int) (hc : c.length ≤ 24) : ∀ (l pre : List St) (a : St), pre ++ l = c → ChainC a l → a.1 < t →
    Ev2 (fun k n => f110_l0 k n a.1 a.2 t c (c.length : Int) (pre.length : Int)) (atFrom a l t, ())
  | [], pre, a, hpl, hch, hat => by
    subst hpl
    exact Ev2.step (g := fun _ _ => some (a.2, ())) (fun k n => by rw [f110_l0, f110_l0_B, if_neg (by simp), ref_high k (by omega) (by omega)]) (Ev2.pure _)
  | s :: l, pre, a, hpl, hch, hat => by
    obtain ⟨hga, hds, hss, hcs⟩ := hch
    have h0 : (0 : Int) ≤ (pre.length : Int) := by omega
    have h1 : (pre.length : Int) < (c.length : Int) := by rw [← hpl]; simp; omega
    have hg : c.getD ((pre.length : Int)).toNat (0, 0) = s := by rw [← hpl]; exact getD_mid
    have hpre : pre.length ≤ 24 := by rw [← hpl] at hc; simp at hc; omega
    have hw : w64 ((pre.length : Int) + 1) = (((pre ++ [s]).length : Nat) : Int) := by
      rw [w64_id (by omega) (by omega)]; simp
    simp only [atFrom]
    by_cases h : t ≤ s.1
    · rw [if_pos h]
      refine Ev2.step (g := fun _ _ => some (segC a s t, ())) (fun k n => ?_) (Ev2.pure _)
      rw [f110_l0, f110_l0_B, if_pos h1, if_pos h0, if_pos h1, hg, if_pos h]
      by_cases he : t = s.1
      · subst he
        have e : segC a s s.1 = s.2 := segC_end hds
        rw [e]
        exact ref_high k (by omega) (by omega)
      · exact ref_mid k hga (chain_good hcs) hds hat (by omega)
    · rw [if_neg h]
      have ih := refAt_loop c t hc l (pre ++ [s]) s (by simp [← hpl]) hcs (by omega)
      refine Ev2.step (fun k n => ?_) ih
      rw [f110_l0, f110_l0_B, if_pos h1, if_pos h0, if_pos h1, hg, if_neg h, hw]
theorem refAt_ev {c : List St} {t : Int} (h : ValidC c) : Ev (fun k => f110 k c t) (atC c t, ()) := by
  cases c with
  | nil => exact h.elim
  | cons a r =>
    have hp : (0 : Int) < ((a :: r).length : Int) := by simp
    have hg : (a :: r).getD ((0 : Int)).toNat (0, 0) = a := rfl
    simp only [f110, f110_entry_B, if_pos hp, hg, atC]
    refine Ev2.diag (f := fun k n => f110_l0 k n a.1 a.2 t (a :: r) ((a :: r).length : Int) 0) ?_
    by_cases h1 : t ≤ a.1
    · rw [if_pos h1]
      exact Ev2.step (g := fun _ _ => some (a.2, ())) (fun k n => by rw [f110_l0, f110_l0_B, if_pos hp, if_pos (by omega), if_pos hp, hg, if_pos h1, ref_low k h1]) (Ev2.pure _)
    · rw [if_neg h1]
      have hw : w64 (0 + 1) = (([a].length : Nat) : Int) := by rw [w64_id (by omega) (by omega)]; rfl
      refine Ev2.step (fun k n => ?_) (refAt_loop (a :: r) t h.1 r [a] a rfl h.2 (by omega))
      rw [f110_l0, f110_l0_B, if_pos hp, if_pos (by omega), if_pos hp, hg, if_neg h1, hw]
end Go.Proofs.Ytpbmlhlpfbcnbaa.Rw
