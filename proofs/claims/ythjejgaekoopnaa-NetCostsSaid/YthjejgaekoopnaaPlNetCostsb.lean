/- The cost of an edge: the reference, bit by bit. No condition. -/
import Derived.Test.YthjejgaekoopnaaPlNetCostsa
namespace Go.Proofs.Ythjejgaekoopnaa.Rw
open Go.Rx
set_option linter.unusedVariables false
set_option linter.unusedSimpArgs false

theorem longOf_end {v x y far : Int} (h0 : 0 ≤ far) (h1 : far < 8388608) (hv : 1 ≤ v) (hv2 : v ≤ 1000) : Ev2 (fun k n => f42_l0 k n 0 v x y far) (price far v, ()) := by
  have q0 : 0 ≤ far * 100 / v := Int.ediv_nonneg (by omega) (by omega)
  have q1 : far * 100 / v * v ≤ far * 100 := Int.ediv_mul_le _ (by omega)
  have q2 : far * 100 / v ≤ far * 100 := by
    have := Int.mul_le_mul_of_nonneg_left hv q0
    omega
  have e1 : w64 (far * 100) = far * 100 := w64_id (by omega) (by omega)
  have e2 : w64 (Int.tdiv (far * 100) v) = far * 100 / v := by rw [Int.tdiv_eq_ediv_of_nonneg (by omega), w64_id (by omega) (by omega)]
  have q3 : 0 ≤ far * 100 / v * v := Int.mul_nonneg q0 (by omega)
  have e3 : w64 (far * 100 / v * v) = far * 100 / v * v := w64_id (by omega) (by omega)
  have e4 : w64 (far * 100 / v + 1) = far * 100 / v + 1 := w64_id (by omega) (by omega)
  have ep : price far v = if far * 100 / v * v < far * 100 then far * 100 / v + 1 else far * 100 / v := price_up (by omega) (by omega)
  refine Ev2.step (g := fun _ _ => some (price far v, ())) (fun k n => ?_) (Ev2.pure _)
  rw [f42_l0, f42_l0_B, if_neg (by omega), if_pos (by omega), e1, e2, e3, e4, ep]
  by_cases h : far * 100 / v * v < far * 100
  · rw [if_pos h, if_pos h]; rfl
  · rw [if_neg h, if_neg h]; rfl
theorem longOf_loop {v x y n : Int} (hx : -2097152 ≤ x ∧ x ≤ 2097152) (hy : -2097152 ≤ y ∧ y ≤ 2097152) (hn : x * x + y * y = n) (hv : 1 ≤ v) (hv2 : v ≤ 1000) :
    ∀ (j : Nat) (far : Int), j ≤ 22 → 0 ≤ far → far + 2 * 2 ^ j ≤ 8388608 → far * far ≤ n → n < (far + 2 * 2 ^ j) * (far + 2 * 2 ^ j) → ∃ r, IsRoot n r ∧ Ev2 (fun k m => f42_l0 k m (2 ^ j) v x y far) (price r v, ()) := by
  have b1 := sq_le (x := x) (m := 2097152) hx.1 hx.2
  have b2 := sq_le (x := y) (m := 2097152) hy.1 hy.2
  have ex : w64 (x * x) = x * x := w64_id (by omega) (by omega)
  have ey : w64 (y * y) = y * y := w64_id (by omega) (by omega)
  have exy : w64 (x * x + y * y) = n := by rw [w64_id (by omega) (by omega), hn]
  intro j
  induction j with
  | zero =>
    intro far _ h0 h1 h2 h3
    simp only [Int.pow_zero] at h1 h3 ⊢
    have bq := sq_le (x := far + 1) (m := 8388608) (by omega) (by omega)
    have step : ∀ r, 0 ≤ r → r < 8388608 → r * r ≤ n → n < (r + 1) * (r + 1) → IsRoot n r := fun r k0 _ k1 k2 => ⟨k0, by
      apply Decidable.byContradiction
      intro hh
      have := sq_mono (a := 4194304) (b := r) (by omega) (by omega)
      omega, k1, k2⟩
    have ed : w64 (Int.tdiv 1 2) = 0 := rfl
    have ef : w64 (far + 1) = far + 1 := w64_id (by omega) (by omega)
    have eq1 : w64 ((far + 1) * (far + 1)) = (far + 1) * (far + 1) := w64_id (by omega) (by omega)
    by_cases hq : (far + 1) * (far + 1) ≤ n
    · refine ⟨far + 1, step _ (by omega) (by omega) hq (by rw [show far + 1 + 1 = far + 2 * 1 by omega]; exact h3), Ev2.step (fun k m => ?_) (longOf_end (x := x) (y := y) (by omega) (by omega) hv hv2)⟩
      rw [f42_l0, f42_l0_B, if_pos (by omega), ef, eq1, ex, ey, exy, if_pos hq]
      simp only [f42_c9, f42_c9_B, ed]
    · refine ⟨far, step _ h0 (by omega) h2 (by omega), Ev2.step (fun k m => ?_) (longOf_end (x := x) (y := y) h0 (by omega) hv hv2)⟩
      rw [f42_l0, f42_l0_B, if_pos (by omega), ef, eq1, ex, ey, exy, if_neg hq]
      simp only [f42_c9, f42_c9_B, ed]
  | succ j ih =>
    intro far hj h0 h1 h2 h3
    have ep : (2 : Int) ^ (j + 1) = 2 * 2 ^ j := by rw [Int.pow_succ, Int.mul_comm]
    have pp : (0 : Int) < 2 ^ j := Int.pow_pos (by omega)
    rw [ep] at h1 h3 ⊢
    generalize (2 : Int) ^ j = b at *
    have bq := sq_le (x := far + 2 * b) (m := 8388608) (by omega) (by omega)
    have ed : w64 (Int.tdiv (2 * b) 2) = b := by
      rw [Int.tdiv_eq_ediv_of_nonneg (by omega), Int.mul_ediv_cancel_left _ (by omega), w64_id (by omega) (by omega)]
    have ef : w64 (far + 2 * b) = far + 2 * b := w64_id (by omega) (by omega)
    have eq1 : w64 ((far + 2 * b) * (far + 2 * b)) = (far + 2 * b) * (far + 2 * b) := w64_id (by omega) (by omega)
    by_cases hq : (far + 2 * b) * (far + 2 * b) ≤ n
    · obtain ⟨r, hr, hev⟩ := ih (far + 2 * b) (by omega) (by omega) (by omega) hq (by rw [show far + 2 * b + 2 * b = far + 2 * (2 * b) by omega]; exact h3)
      refine ⟨r, hr, Ev2.step (fun k m => ?_) hev⟩
      rw [f42_l0, f42_l0_B, if_pos (by omega), ef, eq1, ex, ey, exy, if_pos hq]
      simp only [f42_c9, f42_c9_B, ed]
    · obtain ⟨r, hr, hev⟩ := ih far (by omega) h0 (by omega) h2 (by omega)
      refine ⟨r, hr, Ev2.step (fun k m => ?_) hev⟩
      rw [f42_l0, f42_l0_B, if_pos (by omega), ef, eq1, ex, ey, exy, if_neg hq]
      simp only [f42_c9, f42_c9_B, ed]
theorem clampR_eq (k : Nat) (x : Int) : f74 k x = some (cut x, ()) := by
  have e : mx2 true (-1048576) (mx2 false x 1048576) = cut x := by
    rw [mx2_max, mx2_min]
    unfold cut
    repeat' split
    all_goals omega
  simp only [f74, f74_entry_B, e]
theorem longOf_ev (a b : Int × Int) (v : Int) : ∃ r, IsRoot (sqOf a.1 a.2 b.1 b.2) r ∧ Ev (fun k => f42 k a b v) (price r (speedOf v), ()) := by
  have h1 := cut_range a.1; have h2 := cut_range b.1; have h3 := cut_range a.2; have h4 := cut_range b.2
  have hs := sqOf_range a.1 a.2 b.1 b.2
  have hsp := speedOf_pos v
  have hn : (cut a.1 - cut b.1) * (cut a.1 - cut b.1) + (cut a.2 - cut b.2) * (cut a.2 - cut b.2) = sqOf a.1 a.2 b.1 b.2 := by
    rw [sqOf_comm]
    rfl
  obtain ⟨r, hr, hev⟩ := longOf_loop (v := speedOf v) (x := cut a.1 - cut b.1) (y := cut a.2 - cut b.2) (n := sqOf a.1 a.2 b.1 b.2) ⟨by omega, by omega⟩ ⟨by omega, by omega⟩ hn hsp.1 hsp.2 22 0 (by omega) (by omega) (by decide) (by omega) (by
    have : (0 + 2 * 2 ^ 22 : Int) * (0 + 2 * 2 ^ 22) = 70368744177664 := by decide
    omega)
  refine ⟨r, hr, ?_⟩
  have hev : Ev2 (fun k m => f42_l0 k m 4194304 (speedOf v) (cut a.1 - cut b.1) (cut a.2 - cut b.2) 0) (price r (speedOf v), ()) := hev
  have e1 : w64 (cut a.1 - cut b.1) = cut a.1 - cut b.1 := w64_id (by omega) (by omega)
  have e2 : w64 (cut a.2 - cut b.2) = cut a.2 - cut b.2 := w64_id (by omega) (by omega)
  refine Ev.of (fun k => ?_) hev.diag
  simp only [f42, f42_entry_B, f42_r1, f42_r1_B, f42_c2, f42_c2_B, clampR_eq, Option.bind_some, e1, e2]
  have s1 : (v < 1 ∨ 1000 < v) → speedOf v = 100 := fun h => if_pos h
  have s2 : ¬ (v < 1 ∨ 1000 < v) → speedOf v = v := fun h => if_neg h
  by_cases g1 : v < 1
  · rw [if_pos g1, s1 (.inl g1)]; rfl
  · by_cases g2 : 1000 < v
    · rw [if_neg g1, decide_eq_true g2, s1 (.inr g2)]; rfl
    · rw [if_neg g1, decide_eq_false g2, s2 (by omega)]; rfl
end Go.Proofs.Ythjejgaekoopnaa.Rw
