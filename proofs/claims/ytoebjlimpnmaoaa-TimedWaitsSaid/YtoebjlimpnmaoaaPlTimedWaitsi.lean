/- Curves: Check, At, Arrive of the program. No condition. -/
import Derived.Test.YtoebjlimpnmaoaaPlTimedWaitsh
namespace Go.Proofs.Ytoebjlimpnmaoaa.Rw
open Go.Rx
set_option linter.unusedVariables false
set_option linter.unusedSimpArgs false

def PrevC (pre : List St) : Option St → Prop
  | none => pre = []
  | some q => goodS q ∧ ∃ p0, pre = p0 ++ [q]
theorem pred_nat (n : Nat) (h : (n : Int) ≤ 1000000) : w64 (((n + 1 : Nat) : Int) - 1) = (n : Int) := by rw [w64_id (by omega) (by omega)]; omega
theorem crv_loop (c : List St) (hc : c.length ≤ 24) : ∀ (l pre : List St) (p : Option St), pre ++ l = c → PrevC pre p →
    Ev2 (fun k n => f53_l0 k n c (c.length : Int) (pre.length : Int)) (crvFrom p l, ())
  | [], pre, p, hpl, hp => by
    subst hpl
    refine Ev2.step (g := fun _ _ => some (0, ())) (fun k n => by rw [f53_l0, f53_l0_B, if_neg (by simp)]) ?_
    cases p <;> exact Ev2.pure _
  | s :: l, pre, p, hpl, hp => by
    have h0 : (0 : Int) ≤ (pre.length : Int) := by omega
    have h1 : (pre.length : Int) < (c.length : Int) := by rw [← hpl]; simp; omega
    have hg : c.getD ((pre.length : Int)).toNat (0, 0) = s := by rw [← hpl]; exact getD_mid
    have hpre : pre.length ≤ 24 := by rw [← hpl] at hc; simp at hc; omega
    have hw : w64 ((pre.length : Int) + 1) = (((pre ++ [s]).length : Nat) : Int) := by
      rw [w64_id (by omega) (by omega)]; simp
    have bad : ¬ goodS s → crvFrom p (s :: l) = 1 := fun h => by cases p <;> simp only [crvFrom, if_neg h]
    by_cases g1 : s.1 < 0
    · rw [bad (by unfold goodS; omega)]
      refine Ev2.step (g := fun _ _ => some (1, ())) (fun k n => ?_) (Ev2.pure _)
      rw [f53_l0, f53_l0_B, if_pos h1, if_pos h0, if_pos h1, hg, if_pos g1]; rfl
    by_cases g2 : 1073741824 < s.1
    · rw [bad (by unfold goodS; omega)]
      refine Ev2.step (g := fun _ _ => some (1, ())) (fun k n => ?_) (Ev2.pure _)
      rw [f53_l0, f53_l0_B, if_pos h1, if_pos h0, if_pos h1, hg, if_neg g1, if_pos g2]; rfl
    by_cases g3 : s.2 < 0
    · rw [bad (by unfold goodS; omega)]
      refine Ev2.step (g := fun _ _ => some (1, ())) (fun k n => ?_) (Ev2.pure _)
      rw [f53_l0, f53_l0_B, if_pos h1, if_pos h0, if_pos h1, hg, if_neg g1, if_neg g2, if_pos g3]; rfl
    by_cases g4 : 1073741824 < s.2
    · rw [bad (by unfold goodS; omega)]
      refine Ev2.step (g := fun _ _ => some (1, ())) (fun k n => ?_) (Ev2.pure _)
      rw [f53_l0, f53_l0_B, if_pos h1, if_pos h0, if_pos h1, hg, if_neg g1, if_neg g2, if_neg g3, decide_eq_true g4]; rfl
    have hgs : goodS s := by unfold goodS; omega
    have ih := crv_loop c hc l (pre ++ [s]) (some s) (by simp [← hpl]) ⟨hgs, pre, rfl⟩
    rw [← hw] at ih
    cases p with
    | none =>
      have hp0 : pre = [] := hp
      subst hp0
      simp only [crvFrom, if_pos hgs]
      refine Ev2.step (fun k n => ?_) ih
      rw [f53_l0, f53_l0_B, if_pos h1, if_pos h0, if_pos h1, hg, if_neg g1, if_neg g2, if_neg g3, decide_eq_false g4, f53_r8, f53_r8_B, if_neg (by simp), if_neg (by simp), f53_r10, f53_r10_B, if_neg (by simp), if_neg (by simp), f53_r12, f53_r12_B, if_neg (by simp)]
    | some q =>
      obtain ⟨hgq, p0, rfl⟩ := hp
      have h2 : (0 : Int) < ((p0 ++ [q]).length : Int) := by simp
      have hz : w64 (((p0 ++ [q]).length : Int) - 1) = (p0.length : Int) := by
        rw [List.length_append]; exact pred_nat _ (by simp at hpre; omega)
      have h3 : (0 : Int) ≤ (p0.length : Int) := by omega
      have h4 : (p0.length : Int) < (c.length : Int) := by rw [← hpl]; simp; omega
      have hq : c.getD ((p0.length : Int)).toNat (0, 0) = q := by rw [← hpl, List.append_assoc]; exact getD_mid
      have e1 : w64 (s.1 + s.2) = s.1 + s.2 := w64_id (by omega) (by omega)
      have e2 : w64 (q.1 + q.2) = q.1 + q.2 := w64_id (by unfold goodS at hgq; omega) (by unfold goodS at hgq; omega)
      by_cases g5 : s.1 ≤ q.1
      · simp only [crvFrom]
        rw [if_pos hgs, if_pos g5]
        refine Ev2.step (g := fun _ _ => some (9, ())) (fun k n => ?_) (Ev2.pure _)
        rw [f53_l0, f53_l0_B, if_pos h1, if_pos h0, if_pos h1, hg, if_neg g1, if_neg g2, if_neg g3, decide_eq_false g4, f53_r8, f53_r8_B, if_neg (by simp), if_pos h2, hz, if_pos h3, if_pos h4, hq, decide_eq_true g5]; rfl
      by_cases g6 : s.1 + s.2 < q.1 + q.2
      · simp only [crvFrom]
        rw [if_pos hgs, if_neg g5, if_pos g6]
        refine Ev2.step (g := fun _ _ => some (19, ())) (fun k n => ?_) (Ev2.pure _)
        rw [f53_l0, f53_l0_B, if_pos h1, if_pos h0, if_pos h1, hg, if_neg g1, if_neg g2, if_neg g3, decide_eq_false g4, f53_r8, f53_r8_B, if_neg (by simp), if_pos h2, hz, if_pos h3, if_pos h4, hq, decide_eq_false g5, f53_r10, f53_r10_B, if_neg (by simp), if_pos h2, hz, if_pos h3, if_pos h4, if_pos h3, if_pos h4, hq, e1, e2, decide_eq_true g6]; rfl
      · simp only [crvFrom]
        rw [if_pos hgs, if_neg g5, if_neg g6]
        refine Ev2.step (fun k n => ?_) ih
        rw [f53_l0, f53_l0_B, if_pos h1, if_pos h0, if_pos h1, hg, if_neg g1, if_neg g2, if_neg g3, decide_eq_false g4, f53_r8, f53_r8_B, if_neg (by simp), if_pos h2, hz, if_pos h3, if_pos h4, hq, decide_eq_false g5, f53_r10, f53_r10_B, if_neg (by simp), if_pos h2, hz, if_pos h3, if_pos h4, if_pos h3, if_pos h4, hq, e1, e2, decide_eq_false g6, f53_r12, f53_r12_B, if_neg (by simp)]
theorem crv_ev (c : List St) : Ev (fun k => f53 k c) (crvF c, ()) := by
  simp only [f53, f53_entry_B]
  unfold crvF
  by_cases h1 : c.length > 24
  · rw [if_pos h1]
    exact Ev.of (fun k => by rw [if_pos (by omega)]) (Ev.pure _)
  by_cases h2 : c.length = 0
  · rw [if_neg h1, if_pos h2]
    exact Ev.of (fun k => by rw [if_neg (by omega), if_pos (by omega)]) (Ev.pure _)
  rw [if_neg h1, if_neg h2]
  exact Ev.of (fun k => by rw [if_neg (by omega), if_neg (by omega)]; rfl) (crv_loop c (by omega) c [] none rfl rfl).diag

theorem down_eq (k : Nat) (a b : Int) (hb : 0 < b) (h1 : -9223372036854775807 ≤ a) (h2 : a ≤ 9223372036854775807) : f123 k a b = some (a / b, ()) := by
  have e := Int.mul_tdiv_add_tmod a b
  have l1 := Int.tmod_lt_of_pos a hb
  have l2 := Int.lt_tmod_of_pos a hb
  have q1 : -9223372036854775807 ≤ a.tdiv b ∧ a.tdiv b ≤ 9223372036854775807 := by
    have hn := Int.natAbs_tdiv a b
    have hle : (a.tdiv b).natAbs ≤ a.natAbs := by rw [hn]; exact Nat.div_le_self _ _
    omega
  have hb' : ¬ b = 0 := by omega
  simp only [f123, f123_entry_B, f123_c3, f123_c3_B, if_pos hb']
  rw [w64_id (n := a.tdiv b) (by omega) (by omega)]
  by_cases hm : a.tmod b < 0
  · rw [if_pos hm, w64_id (n := a.tdiv b - 1) (by omega) (by omega)]
    congr 2
    have e2 : a = (a.tmod b + b) + b * (a.tdiv b - 1) := by rw [Int.mul_sub]; omega
    conv => rhs; rw [e2]
    rw [Int.add_mul_ediv_left _ _ (by omega), Int.ediv_eq_zero_of_lt (by omega) (by omega)]
    omega
  · rw [if_neg hm]
    congr 2
    have e2 : a = a.tmod b + b * a.tdiv b := by omega
    conv => rhs; rw [e2]
    rw [Int.add_mul_ediv_left _ _ (by omega), Int.ediv_eq_zero_of_lt (by omega) (by omega)]
    omega
theorem at_loop (c : List St) (t : Int) (hc : c.length ≤ 24) (ht : t ≤ 1073741824) : ∀ (l p0 : List St) (a : St), p0 ++ a :: l = c → ChainC a l → a.1 < t →
    Ev2 (fun k n => f108_l0 k n c t ((p0.length + 1 : Nat) : Int)) (atFrom a l t, ())
  | [], p0, a, hpl, hch, hat => by
    have hq : c.getD ((p0.length : Int)).toNat (0, 0) = a := by rw [← hpl]; exact getD_mid
    have hcl : c.length = p0.length + 1 := by rw [← hpl]; simp
    have hz : w64 ((c.length : Int) - 1) = (p0.length : Int) := by rw [hcl]; exact pred_nat _ (by omega)
    refine Ev2.step (g := fun _ _ => some (a.2, ())) (fun k n => ?_) (Ev2.pure _)
    rw [f108_l0, f108_l0_B, if_neg (by omega), hz, if_pos (by omega), if_pos (by omega), hq]
  | s :: l, p0, a, hpl, hch, hat => by
    obtain ⟨hga, hds, hss, hcs⟩ := hch
    have hgs := chain_good hcs
    have ga := hga
    have gs := hgs
    unfold goodS at ga gs
    have hq : c.getD ((p0.length : Int)).toNat (0, 0) = a := by rw [← hpl]; exact getD_mid
    have hs : c.getD (((p0.length + 1 : Nat) : Int)).toNat (0, 0) = s := by
      have e : c = (p0 ++ [a]) ++ s :: l := by simp [← hpl]
      rw [e]; simp
    have hcl : c.length = p0.length + 1 + 1 + l.length := by rw [← hpl]; simp; omega
    have hz : w64 (((p0.length + 1 : Nat) : Int) - 1) = (p0.length : Int) := pred_nat _ (by omega)
    have hw : w64 (((p0.length + 1 : Nat) : Int) + 1) = ((((p0 ++ [a]).length + 1 : Nat)) : Int) := by
      rw [w64_id (by omega) (by omega)]; simp
    have c1 : (((p0.length + 1 : Nat) : Int)) < (c.length : Int) := by omega
    have c2 : (0 : Int) ≤ (p0.length : Int) := by omega
    have c3 : (p0.length : Int) < (c.length : Int) := by omega
    have c4 : (0 : Int) ≤ (((p0.length + 1 : Nat) : Int)) := by omega
    simp only [atFrom]
    by_cases h : t ≤ s.1
    · rw [if_pos h]
      have hb := mul_bound (x := s.2 - a.2) (y := t - a.1) (by omega) (by omega) (by omega) (by omega)
      have hsg := segC_good hga hgs hds (by omega) h
      unfold segC at hsg
      refine Ev2.step (g := fun _ _ => some (segC a s t, ())) (fun k n => ?_) (Ev2.pure _)
      rw [f108_l0, f108_l0_B, if_pos c1, hz, if_pos c2, if_pos c3, if_pos c4, if_pos c1, hs, hq, if_pos h]
      rw [w64_id (n := s.2 - a.2) (by omega) (by omega), w64_id (n := t - a.1) (by omega) (by omega), w64_id (n := (s.2 - a.2) * (t - a.1)) (by omega) (by omega), w64_id (n := s.1 - a.1) (by omega) (by omega), down_eq _ _ _ (by omega) (by omega) (by omega)]
      simp only [Option.bind_some]
      rw [w64_id (by omega) (by omega)]
      rfl
    · rw [if_neg h]
      have ih := at_loop c t hc ht l (p0 ++ [a]) s (by simp [← hpl]) hcs (by omega)
      refine Ev2.step (fun k n => ?_) ih
      rw [f108_l0, f108_l0_B, if_pos c1, hz, if_pos c2, if_pos c3, if_pos c4, if_pos c1, hs, if_neg h, hw]
theorem at_ev {c : List St} {t : Int} (h : ValidC c) (ht : t ≤ 1073741824) : Ev (fun k => f108 k c t) (atC c t, ()) := by
  cases c with
  | nil => exact h.elim
  | cons a r =>
    have hp : (0 : Int) < ((a :: r).length : Int) := by simp
    simp only [f108, f108_entry_B, if_pos hp, atC]
    by_cases h1 : t ≤ a.1
    · rw [if_pos h1]
      exact Ev.of (fun k => by rw [if_pos (by exact h1)]; rfl) (Ev.pure _)
    · rw [if_neg h1]
      exact Ev.of (fun k => by rw [if_neg (by exact h1)]; rfl) (at_loop (a :: r) t h.1 ht r [] a rfl h.2 (by omega)).diag
/-- Arrive of a valid curve. -/
theorem arrive_ev {c : List St} {t : Int} (h : ValidC c) (h0 : 0 ≤ t) : Ev (fun k => f55 k c t) (if t ≤ 1073741824 then (t + atC c t, 0, ()) else (0, 1, ())) := by
  have hb := atC_good (t := t) h
  simp only [f55, f55_entry_B]
  have hA : Ev (fun k => f78 k c t) (if t ≤ 1073741824 then (atC c t, 0, ()) else (0, 1, ())) := by
    simp only [f78, f78_entry_B]
    refine (crv_ev c).bind ?_
    simp only [(crvF_zero c).2 h, not_true_eq_false, if_false, if_neg (show ¬ t < 0 by omega), f78_r4, f78_r4_B]
    by_cases h1 : t ≤ 1073741824
    · rw [if_pos h1]
      refine Ev.of (fun k => by rw [if_neg (by simp; omega)]) ?_
      exact (at_ev h h1).bind (Ev.pure _)
    · rw [if_neg h1]
      exact Ev.of (fun k => by rw [if_pos (by simp; omega)]) (Ev.pure _)
  by_cases h1 : t ≤ 1073741824
  · rw [if_pos h1] at hA ⊢
    refine hA.bind ?_
    simp only [not_true_eq_false, if_false]
    rw [w64_id (by omega) (by omega)]
    exact Ev.pure _
  · rw [if_neg h1] at hA ⊢
    refine hA.bind ?_
    exact Ev.of (fun k => by rw [if_pos (by decide)]) (Ev.pure _)
end Go.Proofs.Ytoebjlimpnmaoaa.Rw
