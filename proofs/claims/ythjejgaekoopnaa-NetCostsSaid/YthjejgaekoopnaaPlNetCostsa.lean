/- The cost of an edge between two points at a speed: the root of the square of the distance, times 100, by the speed, rounded up. No condition. -/
import Derived.Test.YthjejgaekoopnaaRwNetCostsb
namespace Go.Proofs.Ythjejgaekoopnaa.Rw
open Go.Rx
set_option linter.unusedVariables false
set_option linter.unusedSimpArgs false
/-- A coordinate that is cut to the grid. -/
def cut (x : Int) : Int := if x < -1048576 then -1048576 else if 1048576 < x then 1048576 else x
theorem cut_range (x : Int) : -1048576 ≤ cut x ∧ cut x ≤ 1048576 := by unfold cut; split <;> (try split) <;> omega
theorem cut_in {x : Int} (h1 : -1048576 ≤ x) (h2 : x ≤ 1048576) : cut x = x := by unfold cut; rw [if_neg (by omega), if_neg (by omega)]
def sqOf (ax ay bx by_ : Int) : Int := (cut bx - cut ax) * (cut bx - cut ax) + (cut by_ - cut ay) * (cut by_ - cut ay)
theorem sq_le {x m : Int} (h1 : -m ≤ x) (h2 : x ≤ m) : 0 ≤ x * x ∧ x * x ≤ m * m := by
  rcases Int.le_total 0 x with h | h
  · exact ⟨Int.mul_nonneg h h, Int.mul_le_mul h2 h2 h (by omega)⟩
  · have e : x * x = (-x) * (-x) := by rw [Int.neg_mul_neg]
    rw [e]
    exact ⟨Int.mul_nonneg (by omega) (by omega), Int.mul_le_mul (by omega) (by omega) (by omega) (by omega)⟩
theorem sq_pos {x : Int} (h : x ≠ 0) : 0 < x * x := by
  rcases Int.lt_or_gt_of_ne h with h | h
  · exact Int.mul_pos_of_neg_of_neg h h
  · exact Int.mul_pos h h
theorem sqOf_range (ax ay bx by_ : Int) : 0 ≤ sqOf ax ay bx by_ ∧ sqOf ax ay bx by_ ≤ 8796093022208 := by
  have a := cut_range ax; have b := cut_range bx; have c := cut_range ay; have d := cut_range by_
  have h1 := sq_le (x := cut bx - cut ax) (m := 2097152) (by omega) (by omega)
  have h2 := sq_le (x := cut by_ - cut ay) (m := 2097152) (by omega) (by omega)
  unfold sqOf
  omega
theorem sqOf_comm (ax ay bx by_ : Int) : sqOf ax ay bx by_ = sqOf bx by_ ax ay := by
  unfold sqOf
  have e : ∀ u v : Int, (u - v) * (u - v) = (v - u) * (v - u) := fun u v => by rw [← Int.neg_mul_neg, Int.neg_sub]
  rw [e (cut bx), e (cut by_)]
theorem sqOf_zero (ax ay bx by_ : Int) : sqOf ax ay bx by_ = 0 ↔ cut ax = cut bx ∧ cut ay = cut by_ := by
  unfold sqOf
  have h1 := sq_le (x := cut bx - cut ax) (m := 4194304) (by have := cut_range ax; have := cut_range bx; omega) (by have := cut_range ax; have := cut_range bx; omega)
  have h2 := sq_le (x := cut by_ - cut ay) (m := 4194304) (by have := cut_range ay; have := cut_range by_; omega) (by have := cut_range ay; have := cut_range by_; omega)
  refine ⟨fun h => ⟨?_, ?_⟩, fun ⟨a, b⟩ => by rw [a, b, Int.sub_self, Int.sub_self]; rfl⟩
  · apply Decidable.byContradiction
    intro hne
    have := sq_pos (x := cut bx - cut ax) (by omega)
    omega
  · apply Decidable.byContradiction
    intro hne
    have := sq_pos (x := cut by_ - cut ay) (by omega)
    omega
/-- r is the root of n, rounded down. -/
def IsRoot (n r : Int) : Prop := 0 ≤ r ∧ r < 4194304 ∧ r * r ≤ n ∧ n < (r + 1) * (r + 1)
theorem sq_mono {a b : Int} (h0 : 0 ≤ a) (h : a ≤ b) : a * a ≤ b * b := Int.mul_le_mul h h h0 (by omega)
theorem root_one {n r s : Int} (h : IsRoot n r) (k : IsRoot n s) : r = s := by
  have one : ∀ {r s : Int}, IsRoot n r → IsRoot n s → ¬ r < s := by
    intro r s ⟨a, _, b, c⟩ ⟨a', _, b', c'⟩ hlt
    have := sq_mono (a := r + 1) (b := s) (by omega) (by omega)
    omega
  have := one h k
  have := one k h
  omega
theorem root_zero {n r : Int} (h : IsRoot n r) : r = 0 ↔ n = 0 := by
  obtain ⟨a, _, b, c⟩ := h
  refine ⟨fun e => ?_, fun e => ?_⟩
  · subst e; simp at b c; omega
  · apply Decidable.byContradiction
    intro hne
    have := sq_pos hne
    omega
/-- The price at a speed: rounded up. -/
def price (r v : Int) : Int := (r * 100 + v - 1) / v
theorem price_mono {r v w : Int} (h0 : 0 ≤ r) (hv : 0 < v) (hw : v ≤ w) : price r w ≤ price r v := by
  have e : ∀ {v : Int}, 0 < v → ∀ q : Int, price r v ≤ q ↔ r * 100 ≤ q * v := by
    intro v hv q
    have h : price r v ≤ q ↔ (r * 100 + v - 1) / v < q + 1 := ⟨fun h => Int.lt_add_one_of_le h, fun h => Int.le_of_lt_add_one h⟩
    rw [h, Int.ediv_lt_iff_lt_mul hv, Int.add_mul]
    omega
  have h := (e hv (price r v)).1 (Int.le_refl _)
  have hp : 0 ≤ price r v := Int.ediv_nonneg (by omega) (by omega)
  rw [e (by omega)]
  exact Int.le_trans h (Int.mul_le_mul_of_nonneg_left hw hp)
theorem price_zero {r v : Int} (h0 : 0 ≤ r) (hv : 0 < v) : price r v = 0 ↔ r = 0 := by
  refine ⟨fun h => ?_, fun h => ?_⟩
  · apply Decidable.byContradiction
    intro hne
    have : 1 ≤ price r v := by
      show 1 ≤ (r * 100 + v - 1) / v
      rw [Int.le_ediv_iff_mul_le hv]
      omega
    omega
  · subst h
    show (0 * 100 + v - 1) / v = 0
    exact Int.ediv_eq_zero_of_lt (by omega) (by omega)
theorem price_range {r v : Int} (h0 : 0 ≤ r) (h1 : r < 4194304) (hv : 0 < v) : 0 ≤ price r v ∧ price r v ≤ 419430400 := by
  refine ⟨Int.ediv_nonneg (by omega) (by omega), ?_⟩
  show (r * 100 + v - 1) / v ≤ 419430400
  have : (r * 100 + v - 1) / v < 419430401 := by
    rw [Int.ediv_lt_iff_lt_mul hv]
    have : 419430401 * v = 419430400 * v + v := by rw [show (419430401 : Int) = 419430400 + 1 from rfl, Int.add_mul, Int.one_mul]
    have : (419430400 : Int) * 1 ≤ 419430400 * v := Int.mul_le_mul_of_nonneg_left (show (1 : Int) ≤ v by omega) (by omega)
    omega
  omega
def speedOf (v : Int) : Int := if v < 1 ∨ 1000 < v then 100 else v
theorem speedOf_pos (v : Int) : 1 ≤ speedOf v ∧ speedOf v ≤ 1000 := by unfold speedOf; split <;> omega
theorem price_up {a v : Int} (ha : 0 ≤ a) (hv : 0 < v) : (a + v - 1) / v = if a / v * v < a then a / v + 1 else a / v := by
  have e := Int.mul_ediv_add_emod a v
  have m0 := Int.emod_nonneg a (b := v) (by omega)
  have m1 := Int.emod_lt_of_pos a hv
  rw [Int.mul_comm] at e
  by_cases h : a / v * v < a
  · rw [if_pos h, show a + v - 1 = (a % v - 1) + v * (a / v + 1) by rw [Int.mul_add, Int.mul_comm v (a / v)]; omega, Int.add_mul_ediv_left _ _ (by omega), Int.ediv_eq_zero_of_lt (by omega) (by omega)]
    omega
  · rw [if_neg h, show a + v - 1 = (v - 1) + v * (a / v) by rw [Int.mul_comm v (a / v)]; omega, Int.add_mul_ediv_left _ _ (by omega), Int.ediv_eq_zero_of_lt (by omega) (by omega)]
    omega

/-! ### net.Long -/
theorem limit_eq (k : Nat) (x : Int) : f87 k x 1048576 = some (cut x, ()) := by
  have e : mx2 true (w64 (0 - 1048576)) (mx2 false x 1048576) = cut x := by
    rw [w64_id (by omega) (by omega), mx2_max, mx2_min]
    unfold cut
    repeat' split
    all_goals omega
  simp only [f87, f87_entry_B, e]
theorem clamp_eq (k : Nat) (p : Int × Int) : f63 k p = some ((cut p.1, cut p.2), ()) := by
  simp only [f63, f63_entry_B, limit_eq, Option.bind_some]
theorem cut_cut (x : Int) : cut (cut x) = cut x := cut_in (cut_range x).1 (cut_range x).2
theorem way_eq (k : Nat) (a b : Int × Int) : f93 k a b = some ((cut b.1 - cut a.1, cut b.2 - cut a.2), ()) := by
  have h1 := cut_range a.1; have h2 := cut_range b.1; have h3 := cut_range a.2; have h4 := cut_range b.2
  simp only [f93, f93_entry_B, clamp_eq, Option.bind_some]
  rw [w64_id (by omega) (by omega), w64_id (by omega) (by omega)]
theorem sq_eq (k : Nat) (a b : Int × Int) : f62 k a b = some (sqOf a.1 a.2 b.1 b.2, ()) := by
  have h1 := cut_range a.1; have h2 := cut_range b.1; have h3 := cut_range a.2; have h4 := cut_range b.2
  have q1 := sq_le (x := cut b.1 - cut a.1) (m := 2097152) (by omega) (by omega)
  have q2 := sq_le (x := cut b.2 - cut a.2) (m := 2097152) (by omega) (by omega)
  simp only [f62, f62_entry_B, f86, f86_entry_B, way_eq, Option.bind_some]
  rw [w64_id (n := (cut b.1 - cut a.1) * (cut b.1 - cut a.1)) (by omega) (by omega), w64_id (n := (cut b.2 - cut a.2) * (cut b.2 - cut a.2)) (by omega) (by omega), w64_id (by omega) (by omega)]
  rfl
theorem root_loop {n : Int} : ∀ (d : Nat) (lo hi : Int), hi - lo = (d : Int) → 0 ≤ lo → lo < hi → hi ≤ 4194304 → lo * lo ≤ n → n < hi * hi → ∃ r, IsRoot n r ∧ Ev2 (fun k m => f61_l0 k m n lo hi) (r, ()) := by
  intro d
  induction d using Nat.strongRecOn with
  | _ d ih =>
    intro lo hi hd h0 h1 h2 h3 h4
    have w0 : w64 (hi - lo) = hi - lo := w64_id (by omega) (by omega)
    by_cases hlt : 1 < hi - lo
    · have hm1 : lo < (lo + hi) / 2 := by omega
      have hm2 : (lo + hi) / 2 < hi := by omega
      have hm := sq_le (x := (lo + hi) / 2) (m := 4194304) (by omega) (by omega)
      have e : w64 ((w64 (lo + hi)).tdiv 2) = (lo + hi) / 2 := by
        rw [w64_id (n := lo + hi) (by omega) (by omega), Int.tdiv_eq_ediv_of_nonneg (by omega), w64_id (by omega) (by omega)]
      have e2 : w64 ((lo + hi) / 2 * ((lo + hi) / 2)) = (lo + hi) / 2 * ((lo + hi) / 2) := w64_id (by omega) (by omega)
      by_cases hq : (lo + hi) / 2 * ((lo + hi) / 2) ≤ n
      · obtain ⟨r, hr, hev⟩ := ih (hi - (lo + hi) / 2).toNat (by omega) ((lo + hi) / 2) hi (by omega) (by omega) hm2 h2 hq h4
        refine ⟨r, hr, Ev2.step (fun k m => ?_) hev⟩
        rw [f61_l0, f61_l0_B, w0, if_pos hlt, e, e2, if_pos hq]
        rfl
      · obtain ⟨r, hr, hev⟩ := ih ((lo + hi) / 2 - lo).toNat (by omega) lo ((lo + hi) / 2) (by omega) h0 hm1 (by omega) h3 (by omega)
        refine ⟨r, hr, Ev2.step (fun k m => ?_) hev⟩
        rw [f61_l0, f61_l0_B, w0, if_pos hlt, e, e2, if_neg hq]
        rfl
    · refine ⟨lo, ⟨h0, by omega, h3, by rw [show lo + 1 = hi by omega]; exact h4⟩, Ev2.step (g := fun _ _ => some (lo, ())) (fun k m => ?_) (Ev2.pure _)⟩
      rw [f61_l0, f61_l0_B, w0, if_neg hlt]
theorem root_ev {n : Int} (h0 : 0 ≤ n) (h1 : n ≤ 8796093022208) : ∃ r, IsRoot n r ∧ Ev (fun k => f61 k n) (r, ()) := by
  obtain ⟨r, h, hev⟩ := root_loop (n := n) 4194304 0 4194304 rfl (by omega) (by omega) (by omega) (by omega) (by omega)
  exact ⟨r, h, hev.diag⟩
theorem long_ev (a b : Int × Int) (v : Int) : ∃ r, IsRoot (sqOf a.1 a.2 b.1 b.2) r ∧ Ev (fun k => f30 k a b v) (price r (speedOf v), ()) := by
  have hs := sqOf_range a.1 a.2 b.1 b.2
  obtain ⟨r, hr, hev⟩ := root_ev hs.1 hs.2
  refine ⟨r, hr, ?_⟩
  have e : sqOf (cut a.1) (cut a.2) (cut b.1) (cut b.2) = sqOf a.1 a.2 b.1 b.2 := by unfold sqOf; simp only [cut_cut]
  have c2 : ∀ s : Int, 1 ≤ s → s ≤ 1000 → Ev (fun k => f30_c2 k a.1 a.2 b.1 b.2 s) (price r s, ()) := by
    intro s h1 h2
    obtain ⟨r0, r1, _, _⟩ := hr
    have hp := price_range (r := r) (v := s) r0 r1 (by omega)
    simp only [f30_c2, f30_c2_B, clamp_eq, Option.bind_some, sq_eq, e]
    refine hev.bind ?_
    refine Ev.of (fun k => ?_) (Ev.pure _)
    rw [if_pos (by omega), w64_id (n := r * 100) (by omega) (by omega), w64_id (n := r * 100 + s) (by omega) (by omega), w64_id (n := r * 100 + s - 1) (by omega) (by omega), Int.tdiv_eq_ediv_of_nonneg (by omega)]
    rw [show (r * 100 + s - 1) / s = price r s from rfl, w64_id (by omega) (by omega)]
  simp only [f30, f30_entry_B, f30_r1, f30_r1_B]
  unfold speedOf
  by_cases h1 : v < 1
  · rw [if_pos (.inl h1)]
    simpa only [if_pos h1, if_true] using c2 100 (by omega) (by omega)
  · by_cases h2 : 1000 < v
    · rw [if_pos (.inr h2)]
      simpa only [if_neg h1, decide_eq_true h2, if_true] using c2 100 (by omega) (by omega)
    · rw [if_neg (by omega)]
      simpa only [if_neg h1, decide_eq_false h2, Bool.false_eq_true, if_false] using c2 v (by omega) (by omega)
end Go.Proofs.Ythjejgaekoopnaa.Rw
