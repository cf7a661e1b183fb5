/- The cost of an edge between two points at a speed (net.Long, terrref4.LongOf): the root of the square of the distance, times 100, by the speed, rounded up. -/
import Derived.Test.YthjejgaekoopnaaPNetLongsx0
import Derived.Test.YthjejgaekoopnaaPNetLongsx1
import Derived.Test.YthjejgaekoopnaaPNetLongsx2
import Derived.Test.YthjejgaekoopnaaPNetLongsx3
import Derived.Test.YthjejgaekoopnaaPNetLongsx4
import Derived.Test.YthjejgaekoopnaaPNetLongsx5
import Derived.Test.YthjejgaekoopnaaPNetLongsx6
import Derived.Test.YthjejgaekoopnaaPNetLongsx7
import Derived.Test.YthjejgaekoopnaaPNetLongsx8
import Derived.Test.YthjejgaekoopnaaPNetLongsx9
import Derived.Test.YthjejgaekoopnaaPNetLongsx10
import Derived.Test.YthjejgaekoopnaaEvs
namespace Go.Proofs.Ythjejgaekoopnaa.PNetLongs
open Go.RowKit Go.Proofs.YthjejgaekoopnaaW.PrintWords Go.Proofs.YthjejgaekoopnaaW.PrintLast Go.Proofs.YthjejgaekoopnaaW.PrintMore Go.Proofs.Ythjejgaekoopnaa.Evs
set_option linter.unusedVariables false
/-- A coordinate that is cut to the grid. -/
def cut (x : Int) : Int := if x < -1048576 then -1048576 else if 1048576 < x then 1048576 else x
theorem cut_range (x : Int) : -1048576 ≤ cut x ∧ cut x ≤ 1048576 := by unfold cut; split <;> (try split) <;> omega
theorem cut_in {x : Int} (h1 : -1048576 ≤ x) (h2 : x ≤ 1048576) : cut x = x := by unfold cut; rw [if_neg (by omega), if_neg (by omega)]
def sqOf (ax ay bx by_ : Int) : Int := (cut bx - cut ax) * (cut bx - cut ax) + (cut by_ - cut ay) * (cut by_ - cut ay)
theorem sq_le {x m : Int} (h1 : -m ≤ x) (h2 : x ≤ m) : 0 ≤ x * x ∧ x * x ≤ m * m := by
  rcases Int.le_total 0 x with h | h
  · exact ⟨Int.mul_nonneg h h, Int.mul_le_mul h2 h2 h (by omega)⟩
  · have e : x * x = (-x) * (-x) := by rw [Int.neg_mul_neg]
    rw [e]
    exact ⟨Int.mul_nonneg (by omega) (by omega), Int.mul_le_mul (by omega) (by omega) (by omega) (by omega)⟩
theorem sq_pos {x : Int} (h : x ≠ 0) : 0 < x * x := by
  rcases Int.lt_or_gt_of_ne h with h | h
  · exact Int.mul_pos_of_neg_of_neg h h
  · exact Int.mul_pos h h
theorem sqOf_range (ax ay bx by_ : Int) : 0 ≤ sqOf ax ay bx by_ ∧ sqOf ax ay bx by_ ≤ 8796093022208 := by
  have a := cut_range ax; have b := cut_range bx; have c := cut_range ay; have d := cut_range by_
  have h1 := sq_le (x := cut bx - cut ax) (m := 2097152) (by omega) (by omega)
  have h2 := sq_le (x := cut by_ - cut ay) (m := 2097152) (by omega) (by omega)
  unfold sqOf
  omega
theorem sqOf_comm (ax ay bx by_ : Int) : sqOf ax ay bx by_ = sqOf bx by_ ax ay := by
  unfold sqOf
  have e : ∀ u v : Int, (u - v) * (u - v) = (v - u) * (v - u) := fun u v => by rw [← Int.neg_mul_neg, Int.neg_sub]
  rw [e (cut bx), e (cut by_)]
theorem sqOf_zero (ax ay bx by_ : Int) : sqOf ax ay bx by_ = 0 ↔ cut ax = cut bx ∧ cut ay = cut by_ := by
  unfold sqOf
  have h1 := sq_le (x := cut bx - cut ax) (m := 4194304) (by have := cut_range ax; have := cut_range bx; omega) (by have := cut_range ax; have := cut_range bx; omega)
  have h2 := sq_le (x := cut by_ - cut ay) (m := 4194304) (by have := cut_range ay; have := cut_range by_; omega) (by have := cut_range ay; have := cut_range by_; omega)
  refine ⟨fun h => ⟨?_, ?_⟩, fun ⟨a, b⟩ => by rw [a, b, Int.sub_self, Int.sub_self]; rfl⟩
  · apply Decidable.byContradiction
    intro hne
    have := sq_pos (x := cut bx - cut ax) (by omega)
    omega
  · apply Decidable.byContradiction
    intro hne
    have := sq_pos (x := cut by_ - cut ay) (by omega)
    omega
/-- r is the root of n, rounded down. -/
def IsRoot (n r : Int) : Prop := 0 ≤ r ∧ r < 4194304 ∧ r * r ≤ n ∧ n < (r + 1) * (r + 1)
theorem sq_mono {a b : Int} (h0 : 0 ≤ a) (h : a ≤ b) : a * a ≤ b * b := Int.mul_le_mul h h h0 (by omega)
theorem root_one {n r s : Int} (h : IsRoot n r) (k : IsRoot n s) : r = s := by
  have one : ∀ {r s : Int}, IsRoot n r → IsRoot n s → ¬ r < s := by
    intro r s ⟨a, _, b, c⟩ ⟨a', _, b', c'⟩ hlt
    have := sq_mono (a := r + 1) (b := s) (by omega) (by omega)
    omega
  have := one h k
  have := one k h
  omega
theorem root_zero {n r : Int} (h : IsRoot n r) : r = 0 ↔ n = 0 := by
  obtain ⟨a, _, b, c⟩ := h
  refine ⟨fun e => ?_, fun e => ?_⟩
  · subst e; simp at b c; omega
  · apply Decidable.byContradiction
    intro hne
    have := sq_pos hne
    omega
/-- The price at a speed: rounded up. -/
def price (r v : Int) : Int := (r * 100 + v - 1) / v
theorem price_mono {r v w : Int} (h0 : 0 ≤ r) (hv : 0 < v) (hw : v ≤ w) : price r w ≤ price r v := by
  have e : ∀ {v : Int}, 0 < v → ∀ q : Int, price r v ≤ q ↔ r * 100 ≤ q * v := by
    intro v hv q
    have h : price r v ≤ q ↔ (r * 100 + v - 1) / v < q + 1 := ⟨fun h => Int.lt_add_one_of_le h, fun h => Int.le_of_lt_add_one h⟩
    rw [h, Int.ediv_lt_iff_lt_mul hv, Int.add_mul]
    omega
  have h := (e hv (price r v)).1 (Int.le_refl _)
  have hp : 0 ≤ price r v := Int.ediv_nonneg (by omega) (by omega)
  rw [e (by omega)]
  exact Int.le_trans h (Int.mul_le_mul_of_nonneg_left hw hp)
theorem price_zero {r v : Int} (h0 : 0 ≤ r) (hv : 0 < v) : price r v = 0 ↔ r = 0 := by
  refine ⟨fun h => ?_, fun h => ?_⟩
  · apply Decidable.byContradiction
    intro hne
    have : 1 ≤ price r v := by
      show 1 ≤ (r * 100 + v - 1) / v
      rw [Int.le_ediv_iff_mul_le hv]
      omega
    omega
  · subst h
    show (0 * 100 + v - 1) / v = 0
    exact Int.ediv_eq_zero_of_lt (by omega) (by omega)
theorem price_range {r v : Int} (h0 : 0 ≤ r) (h1 : r < 4194304) (hv : 0 < v) : 0 ≤ price r v ∧ price r v ≤ 419430400 := by
  refine ⟨Int.ediv_nonneg (by omega) (by omega), ?_⟩
  show (r * 100 + v - 1) / v ≤ 419430400
  have : (r * 100 + v - 1) / v < 419430401 := by
    rw [Int.ediv_lt_iff_lt_mul hv]
    have : 419430401 * v = 419430400 * v + v := by rw [show (419430401 : Int) = 419430400 + 1 from rfl, Int.add_mul, Int.one_mul]
    have : (419430400 : Int) * 1 ≤ 419430400 * v := Int.mul_le_mul_of_nonneg_left (show (1 : Int) ≤ v by omega) (by omega)
    omega
  omega
def speedOf (v : Int) : Int := if v < 1 ∨ 1000 < v then 100 else v
theorem speedOf_pos (v : Int) : 1 ≤ speedOf v ∧ speedOf v ≤ 1000 := by unfold speedOf; split <;> omega
/-! ### net.Long -/
theorem limit_eq (x : Int) : point_limit.f x 1048576 = some (cut x) := by
  unfold point_limit.f
  congr 1
  unfold mx mn cut wrap64
  repeat' split
  all_goals omega
theorem clamp_eq (x y : Int) : point_Clamp.f x y = some (cut x, cut y) := by
  unfold point_Clamp.f
  rw [limit_eq, limit_eq]
  rfl
theorem cut_cut (x : Int) : cut (cut x) = cut x := cut_in (cut_range x).1 (cut_range x).2
theorem way_eq (ax ay bx by_ : Int) : point_way.f ax ay bx by_ = some (cut bx - cut ax, cut by_ - cut ay) := by
  unfold point_way.f
  rw [clamp_eq, clamp_eq]
  have a := cut_range ax; have b := cut_range bx; have c := cut_range ay; have d := cut_range by_
  show some (wrap64 (cut bx - cut ax), wrap64 (cut by_ - cut ay)) = _
  rw [wrap_in (by omega) (by omega), wrap_in (by omega) (by omega)]
theorem sq_eq (ax ay bx by_ : Int) : point_Sq.f ax ay bx by_ = some (sqOf ax ay bx by_) := by
  unfold point_Sq.f point_Dot.f
  rw [way_eq]
  have a := cut_range ax; have b := cut_range bx; have c := cut_range ay; have d := cut_range by_
  have h1 := sq_le (x := cut bx - cut ax) (m := 2097152) (by omega) (by omega)
  have h2 := sq_le (x := cut by_ - cut ay) (m := 2097152) (by omega) (by omega)
  show some (wrap64 (wrap64 ((cut bx - cut ax) * (cut bx - cut ax)) + wrap64 ((cut by_ - cut ay) * (cut by_ - cut ay)))) = _
  rw [wrap_in (x := (cut bx - cut ax) * (cut bx - cut ax)) (by omega) (by omega), wrap_in (x := (cut by_ - cut ay) * (cut by_ - cut ay)) (by omega) (by omega), wrap_in (by omega) (by omega)]
  rfl
theorem root_loop {n : Int} : ∀ (d : Nat) (lo hi : Int), hi - lo = (d : Int) → 0 ≤ lo → lo < hi → hi ≤ 4194304 → lo * lo ≤ n → n < hi * hi → ∃ r, IsRoot n r ∧ Ev (fun k => net_root.l0 k n lo hi) r := by
  intro d
  induction d using Nat.strongRecOn with
  | _ d ih =>
    intro lo hi hd h0 h1 h2 h3 h4
    by_cases hlt : 1 < hi - lo
    · have hm1 : lo < (lo + hi) / 2 := by omega
      have hm2 : (lo + hi) / 2 < hi := by omega
      have hm := sq_le (x := (lo + hi) / 2) (m := 4194304) (by omega) (by omega)
      have e : wrap64 (Int.tdiv (wrap64 (lo + hi)) 2) = (lo + hi) / 2 := by
        rw [wrap_in (x := lo + hi) (by omega) (by omega), Int.tdiv_eq_ediv_of_nonneg (by omega), wrap_in (by omega) (by omega)]
      by_cases hq : (lo + hi) / 2 * ((lo + hi) / 2) ≤ n
      · obtain ⟨r, hr, hev⟩ := ih (hi - (lo + hi) / 2).toNat (by omega) ((lo + hi) / 2) hi (by omega) (by omega) hm2 h2 hq h4
        refine ⟨r, hr, Ev.step (fun k => by rw [net_root.l0]) ?_⟩
        rw [wrap_in (x := hi - lo) (by omega) (by omega)]
        refine ifp hlt ?_
        rw [e, wrap_in (by omega) (by omega)]
        exact ifp hq hev
      · obtain ⟨r, hr, hev⟩ := ih ((lo + hi) / 2 - lo).toNat (by omega) lo ((lo + hi) / 2) (by omega) h0 hm1 (by omega) h3 (by omega)
        refine ⟨r, hr, Ev.step (fun k => by rw [net_root.l0]) ?_⟩
        rw [wrap_in (x := hi - lo) (by omega) (by omega)]
        refine ifp hlt ?_
        rw [e, wrap_in (by omega) (by omega)]
        exact ifn hq hev
    · refine ⟨lo, ⟨h0, by omega, h3, by rw [show lo + 1 = hi by omega]; exact h4⟩, Ev.step (fun k => by rw [net_root.l0]) ?_⟩
      rw [wrap_in (x := hi - lo) (by omega) (by omega)]
      exact ifn hlt (Ev.now _)
theorem root_ev {n : Int} (h0 : 0 ≤ n) (h1 : n ≤ 8796093022208) : ∃ r, IsRoot n r ∧ Ev (fun k => net_root.f k n) r :=
  root_loop 4194304 0 4194304 rfl (by omega) (by omega) (by omega) (by omega) (by omega)
theorem long_ev (ax ay bx by_ v : Int) : ∃ r, IsRoot (sqOf ax ay bx by_) r ∧ Ev (fun k => net_Long.f k ax ay bx by_ v) (price r (speedOf v)) := by
  have hs := sqOf_range ax ay bx by_
  obtain ⟨r, hr, hev⟩ := root_ev hs.1 hs.2
  refine ⟨r, hr, ?_⟩
  have e : sqOf (cut ax) (cut ay) (cut bx) (cut by_) = sqOf ax ay bx by_ := by unfold sqOf; simp only [cut_cut]
  have j1 : ∀ s : Int, 1 ≤ s → s ≤ 1000 → Ev (fun k => net_Long.j1 k s ax ay bx by_) (price r s) := by
    intro s h1 h2
    refine Ev.step (fun k => by rw [net_Long.j1]) ?_
    refine bindc (clamp_eq ax ay) ?_
    refine bindc (clamp_eq bx by_) ?_
    refine bindc (sq_eq _ _ _ _) ?_
    dsimp only
    rw [e]
    refine Ev.bind hev ?_
    refine ifn (by omega) (some_ ?_)
    obtain ⟨r0, r1, _, _⟩ := hr
    have hp := price_range (r := r) (v := s) r0 r1 (by omega)
    rw [wrap_in (x := r * 100) (by omega) (by omega), wrap_in (x := r * 100 + s) (by omega) (by omega), wrap_in (x := r * 100 + s - 1) (by omega) (by omega), Int.tdiv_eq_ediv_of_nonneg (by omega)]
    exact wrap_in (by have := hp.1; unfold price at this; omega) (by have := hp.2; unfold price at this; omega)
  have j0 : ∀ z : Bool, (z = true ↔ (v < 1 ∨ 1000 < v)) → Ev (fun k => net_Long.j0 k v z ax ay bx by_) (price r (speedOf v)) := by
    intro z hz
    refine Ev.step (fun k => by rw [net_Long.j0]) ?_
    unfold speedOf
    by_cases h : v < 1 ∨ 1000 < v
    · rw [if_pos h]
      exact ifp (hz.2 h) (j1 100 (by omega) (by omega))
    · rw [if_neg h]
      exact ifn (fun k => h (hz.1 k)) (j1 v (by omega) (by omega))
  unfold net_Long.f
  refine ifc (fun h => j0 true (by simp; exact Or.inl h)) (fun h => j0 _ ?_)
  simp
  omega
end Go.Proofs.Ythjejgaekoopnaa.PNetLongs
