/- Timetables: Check and Right are what the reference says of them. No condition. -/
import Derived.Test.YthjejgaekoopnaaRwTimedChecksa
namespace Go.Proofs.Ythjejgaekoopnaa.Rw
open Go.Rx
set_option linter.unusedVariables false
set_option linter.unusedSimpArgs false
theorem f47_true (j : Nat) : f47 (j + 30) = some (true, ()) := by kernel_rfl

abbrev Ride := Int × (Int × (Int × (Int × Int)))
def rbad (S : Int) (r : Ride) : Prop := r.1 < 0 ∨ r.2.1 < 0 ∨ S ≤ r.1 ∨ S ≤ r.2.1 ∨ r.2.2.1 < 0 ∨ 1073741824 < r.2.2.2.1 ∨ r.2.2.2.1 ≤ r.2.2.1
instance (S : Int) (r : Ride) : Decidable (rbad S r) := by unfold rbad; infer_instance
def tabL (S : Int) : Int → List Ride → Int
  | _, [] => 0
  | d, r :: l => if rbad S r then 1 else if r.2.2.1 < d then 9 else tabL S r.2.2.1 l
def tabF (S C : Int) (l : List Ride) : Int := if S < 0 ∨ 200 < S ∨ 400 < (l.length : Int) then 2 else if C < 0 ∨ 1073741824 < C then 1 else tabL S 0 l

theorem f45_l0_step (k n : Nat) (S C : Int) (pre l : List Ride) (r : Ride) (d : Int) (hlen : ((pre ++ r :: l).length : Int) ≤ 400) :
    f45_l0 k (n + 1) S C (pre ++ r :: l) d ((pre ++ r :: l).length : Int) (pre.length : Int) = if rbad S r then some (1, ()) else if r.2.2.1 < d then some (9, ()) else f45_l0 k n S C (pre ++ r :: l) r.2.2.1 ((pre ++ r :: l).length : Int) (((pre ++ [r]).length : Nat) : Int) := by
  have h0 : (pre.length : Int) < ((pre ++ r :: l).length : Int) := by simp; omega
  have h1 : (0 : Int) ≤ pre.length := by omega
  have hw : w64 ((pre.length : Int) + 1) = (((pre ++ [r]).length : Nat) : Int) := by
    rw [w64_id (by omega) (by simp at hlen; omega)]; simp
  rw [f45_l0, f45_l0_B, if_pos h0, if_pos h1, if_pos h0, getD_mid]
  simp only [f45_r9, f45_r9_B, hw, mx2_min, mx2_max, decide_eq_true_eq]
  by_cases hb : rbad S r
  · rw [if_pos hb]
    unfold rbad at hb
    repeat' split
    all_goals first | rfl | (exfalso; omega) | (exfalso; simp at *; omega) | (exfalso; simp at *)
  · rw [if_neg hb]
    unfold rbad at hb
    repeat' split
    all_goals first | rfl | (exfalso; omega) | (exfalso; simp at *; omega) | (exfalso; simp at *)
theorem f45_loop (S C : Int) : ∀ (l pre : List Ride) (d : Int), ((pre ++ l).length : Int) ≤ 400 → Ev2 (fun k n => f45_l0 k n S C (pre ++ l) d ((pre ++ l).length : Int) (pre.length : Int)) (tabL S d l, ())
  | [], pre, d, h => Ev2.step (g := fun _ _ => some (0, ())) (fun k n => by rw [f45_l0, f45_l0_B, if_neg (by simp)]) (Ev2.pure _)
  | r :: l, pre, d, h => by
    refine Ev2.step (fun k n => f45_l0_step k n S C pre l r d h) ?_
    simp only [tabL]
    split
    · exact Ev2.pure _
    · split
      · exact Ev2.pure _
      · have := f45_loop S C l (pre ++ [r]) r.2.2.1 (by simpa using h)
        rw [show pre ++ [r] ++ l = pre ++ r :: l by simp] at this
        exact this
theorem f45_ev (S C : Int) (l : List Ride) : Ev (fun k => f45 k (S, (C, l))) (tabF S C l, ()) := by
  unfold tabF
  by_cases h : S < 0 ∨ 200 < S ∨ 400 < (l.length : Int)
  · rw [if_pos h]
    refine Ev.of (g := fun _ => some (2, ())) (fun k => ?_) (Ev.pure _)
    simp only [f45, f45_entry_B, f45_r1, f45_r1_B]
    by_cases h1 : S < 0 <;> by_cases h2 : 200 < S <;> simp [h1, h2] <;> simp [h1, h2] at h <;> omega
  · rw [if_neg h]
    by_cases h4 : C < 0 ∨ 1073741824 < C
    · rw [if_pos h4]
      refine Ev.of (g := fun _ => some (1, ())) (fun k => ?_) (Ev.pure _)
      have h1 : ¬ S < 0 := by omega
      have h2 : ¬ 200 < S := by omega
      have h3 : ¬ 400 < (l.length : Int) := by omega
      simp only [f45, f45_entry_B, f45_r1, f45_r1_B, f45_r3, f45_r3_B, h1, h2, h3]
      by_cases h5 : C < 0 <;> by_cases h6 : 1073741824 < C <;> simp [h5, h6] <;> omega
    · rw [if_neg h4]
      have := (f45_loop S C l [] 0 (by simp; omega)).diag
      refine Ev.of (fun k => ?_) this
      have h1 : ¬ S < 0 := by omega
      have h2 : ¬ 200 < S := by omega
      have h3 : ¬ 400 < (l.length : Int) := by omega
      have h5 : ¬ C < 0 := by omega
      have h6 : ¬ 1073741824 < C := by omega
      simp [f45, f45_entry_B, f45_r1, f45_r1_B, f45_r3, f45_r3_B, h1, h2, h3, h5, h6]

/-! ### Check -/
def lastD (pre : List Ride) : Int := match pre.getLast? with
  | some q => q.2.2.1
  | none => 0
theorem f48_l0_step (k n : Nat) (S C : Int) (pre l : List Ride) (r : Ride) (hlen : ((pre ++ r :: l).length : Int) ≤ 400) :
    f48_l0 k (n + 1) S C (pre ++ r :: l) ((pre ++ r :: l).length : Int) (pre.length : Int) = if rbad S r then some (1, ()) else if r.2.2.1 < lastD pre then some (9, ()) else f48_l0 k n S C (pre ++ r :: l) ((pre ++ r :: l).length : Int) (((pre ++ [r]).length : Nat) : Int) := by
  have h0 : (pre.length : Int) < ((pre ++ r :: l).length : Int) := by simp; omega
  have h1 : (0 : Int) ≤ pre.length := by omega
  have hw : w64 ((pre.length : Int) + 1) = (((pre ++ [r]).length : Nat) : Int) := by
    rw [w64_id (by omega) (by simp at hlen; omega)]; simp
  rw [f48_l0, f48_l0_B, if_pos h0, if_pos h1, if_pos h0, getD_mid]
  have key : ∀ (g : Int → Int → List Ride → Int → Int → Int → Int → Int → Int → Int → Bool → Option (Int × Unit)) (x y : Option (Int × Unit)), g S C (pre ++ r :: l) r.1 r.2.1 r.2.2.1 r.2.2.2.1 r.2.2.2.2 ((pre ++ r :: l).length : Int) (pre.length : Int) true = x → (¬ rbad S r → g S C (pre ++ r :: l) r.1 r.2.1 r.2.2.1 r.2.2.2.1 r.2.2.2.2 ((pre ++ r :: l).length : Int) (pre.length : Int) false = y) →
      (if r.1 < 0 then g S C (pre ++ r :: l) r.1 r.2.1 r.2.2.1 r.2.2.2.1 r.2.2.2.2 ((pre ++ r :: l).length : Int) (pre.length : Int) true else if r.2.1 < 0 then g S C (pre ++ r :: l) r.1 r.2.1 r.2.2.1 r.2.2.2.1 r.2.2.2.2 ((pre ++ r :: l).length : Int) (pre.length : Int) true else if S ≤ r.1 then g S C (pre ++ r :: l) r.1 r.2.1 r.2.2.1 r.2.2.2.1 r.2.2.2.2 ((pre ++ r :: l).length : Int) (pre.length : Int) true
        else if S ≤ r.2.1 then g S C (pre ++ r :: l) r.1 r.2.1 r.2.2.1 r.2.2.2.1 r.2.2.2.2 ((pre ++ r :: l).length : Int) (pre.length : Int) true else if r.2.2.1 < 0 then g S C (pre ++ r :: l) r.1 r.2.1 r.2.2.1 r.2.2.2.1 r.2.2.2.2 ((pre ++ r :: l).length : Int) (pre.length : Int) true else if 1073741824 < r.2.2.2.1 then g S C (pre ++ r :: l) r.1 r.2.1 r.2.2.1 r.2.2.2.1 r.2.2.2.2 ((pre ++ r :: l).length : Int) (pre.length : Int) true
        else g S C (pre ++ r :: l) r.1 r.2.1 r.2.2.1 r.2.2.2.1 r.2.2.2.2 ((pre ++ r :: l).length : Int) (pre.length : Int) (decide (r.2.2.2.1 ≤ r.2.2.1))) = if rbad S r then x else y := fun g x y hx hy => by
    by_cases hb : rbad S r
    · rw [if_pos hb]
      unfold rbad at hb
      repeat' split
      all_goals first | exact hx | (exfalso; omega) | (have : r.2.2.2.1 ≤ r.2.2.1 := by omega
                                                       rw [decide_eq_true this]; exact hx)
    · have hy := hy hb
      rw [if_neg hb]
      unfold rbad at hb
      rw [if_neg (by omega), if_neg (by omega), if_neg (by omega), if_neg (by omega), if_neg (by omega), if_neg (by omega), decide_eq_false (by omega)]
      exact hy
  refine key _ _ _ ?_ fun hb => ?_
  · simp [f48_r8, f48_r8_B]
  · simp only [f48_r8, f48_r8_B, f48_r10, f48_r10_B, hw]
    rcases List.eq_nil_or_concat pre with rfl | ⟨p, q, rfl⟩
    · have hd : ¬ r.2.2.1 < 0 := fun h => hb (by unfold rbad; omega)
      simp [lastD, hd]
    · have e1 : (((p.concat q).length : Nat) : Int) = (p.length : Int) + 1 := by simp
      have e2 : w64 ((((p.concat q).length : Nat) : Int) - 1) = (p.length : Int) := by rw [e1, w64_id (by omega) (by simp at hlen; omega)]; omega
      have e3 : (p.concat q ++ r :: l).getD ((p.length : Int)).toNat (0, (0, (0, (0, 0)))) = q := by simp
      have e4 : lastD (p.concat q) = q.2.2.1 := by simp [lastD]
      have e5 : (0 : Int) < ((p.concat q).length : Int) := by rw [e1]; omega
      have e6 : (p.length : Int) < ((p.concat q ++ r :: l).length : Int) := by simp; omega
      have e7 : (0 : Int) ≤ (p.length : Int) := by omega
      simp only [Bool.false_eq_true, if_false, e2, if_pos e5, if_pos e6, if_pos e7, e3, e4]
      by_cases hd : r.2.2.1 < q.2.2.1 <;> simp [hd]
theorem f48_loop (S C : Int) : ∀ (l pre : List Ride), ((pre ++ l).length : Int) ≤ 400 → Ev2 (fun k n => f48_l0 k n S C (pre ++ l) ((pre ++ l).length : Int) (pre.length : Int)) (tabL S (lastD pre) l, ())
  | [], pre, h => Ev2.step (g := fun _ _ => some (0, ())) (fun k n => by rw [f48_l0, f48_l0_B, if_neg (by simp)]) (Ev2.pure _)
  | r :: l, pre, h => by
    refine Ev2.step (fun k n => f48_l0_step k n S C pre l r h) ?_
    simp only [tabL]
    split
    · exact Ev2.pure _
    · split
      · exact Ev2.pure _
      · have := f48_loop S C l (pre ++ [r]) (by simpa using h)
        rw [show pre ++ [r] ++ l = pre ++ r :: l by simp, show lastD (pre ++ [r]) = r.2.2.1 by simp [lastD]] at this
        exact this
theorem f48_ev (S C : Int) (l : List Ride) : Ev (fun k => f48 k (S, (C, l))) (tabF S C l, ()) := by
  unfold tabF
  by_cases h : S < 0 ∨ 200 < S ∨ 400 < (l.length : Int)
  · rw [if_pos h]
    refine Ev.of (g := fun _ => some (2, ())) (fun k => ?_) (Ev.pure _)
    simp only [f48, f48_entry_B, f48_r1, f48_r1_B]
    by_cases h1 : S < 0 <;> by_cases h2 : 200 < S <;> simp [h1, h2] <;> simp [h1, h2] at h <;> omega
  · rw [if_neg h]
    by_cases h4 : C < 0 ∨ 1073741824 < C
    · rw [if_pos h4]
      refine Ev.of (g := fun _ => some (1, ())) (fun k => ?_) (Ev.pure _)
      have h1 : ¬ S < 0 := by omega
      have h2 : ¬ 200 < S := by omega
      have h3 : ¬ 400 < (l.length : Int) := by omega
      simp only [f48, f48_entry_B, f48_r1, f48_r1_B, f48_r3, f48_r3_B, h1, h2, h3]
      by_cases h5 : C < 0 <;> by_cases h6 : 1073741824 < C <;> simp [h5, h6] <;> omega
    · rw [if_neg h4]
      have := (f48_loop S C l [] (by simp; omega)).diag
      refine Ev.of (fun k => ?_) this
      have h1 : ¬ S < 0 := by omega
      have h2 : ¬ 200 < S := by omega
      have h3 : ¬ 400 < (l.length : Int) := by omega
      have h5 : ¬ C < 0 := by omega
      have h6 : ¬ 1073741824 < C := by omega
      simp [f48, f48_entry_B, f48_r1, f48_r1_B, f48_r3, f48_r3_B, h1, h2, h3, h5, h6]

/-! ### Right -/
def canF (C : Int) (a b : Ride) : Bool := if a.2.2.2.2 = b.2.2.2.2 then decide (a.2.1 = b.1) && decide (a.2.2.2.1 ≤ b.2.2.1) else decide (a.2.1 = b.1) && decide (a.2.2.2.1 ≤ w64 (b.2.2.1 - C))
def folF (C : Int) (a b : Ride) : Bool := decide (a.2.1 = b.1) && decide ((if a.2.2.2.2 = b.2.2.2.2 then 0 else C) ≤ w64 (b.2.2.1 - a.2.2.2.1))
theorem f78_eq' (k : Nat) (S C : Int) (l : List Ride) (a b : Ride) : f78 k (S, (C, l)) a b = some (canF C a b, ()) := by
  simp only [f78, f78_entry_B, f78_c2, f78_c2_B, f78_r2, f78_r2_B, f78_r3, f78_r3_B, canF]
  by_cases h1 : a.2.2.2.2 = b.2.2.2.2 <;> by_cases h2 : a.2.1 = b.1 <;> simp [h1, h2]
theorem f80_eq' (k : Nat) (S C : Int) (l : List Ride) (a b : Ride) : f80 k (S, (C, l)) a b = some (folF C a b, ()) := by
  simp only [f80, f80_entry_B, f80_c3, f80_c3_B, f80_r4, f80_r4_B, folF]
  by_cases h1 : a.2.2.2.2 = b.2.2.2.2 <;> by_cases h2 : a.2.1 = b.1 <;> simp [h1, h2]
theorem can_fol {S C : Int} (hC : 0 ≤ C ∧ C ≤ 1073741824) {a b : Ride} (ha : ¬ rbad S a) (hb : ¬ rbad S b) : canF C a b = folF C a b := by
  unfold rbad at ha hb
  unfold canF folF
  rw [w64_id (by omega) (by omega), w64_id (by omega) (by omega)]
  by_cases h1 : a.2.2.2.2 = b.2.2.2.2
  · simp only [h1, if_true]
    congr 1
    exact decide_eq_decide.2 (by omega)
  · simp only [h1, if_false]
    congr 1
    exact decide_eq_decide.2 (by omega)
def zR : Ride := (0, (0, (0, (0, 0))))
def okL (F : Ride → Ride → Bool) (rides : List Ride) (fr at_ : Int) : Option Ride → List Int → Bool
  | _, [] => true
  | p, x :: w => if x < 0 ∨ (rides.length : Int) ≤ x then false else match p with
    | none => if (rides.getD x.toNat zR).1 ≠ fr ∨ (rides.getD x.toNat zR).2.2.1 < at_ then false else okL F rides fr at_ (some (rides.getD x.toNat zR)) w
    | some q => if F q (rides.getD x.toNat zR) = true then okL F rides fr at_ (some (rides.getD x.toNat zR)) w else false

theorem eta5 (r : Ride) : (r.1, (r.2.1, (r.2.2.1, (r.2.2.2.1, r.2.2.2.2)))) = r := rfl
theorem getD_prev {α : Type} {p m : List α} {q z : α} : ((p.concat q) ++ m).getD ((p.length : Int)).toNat z = q := by simp
/-- One ride more: both programs' rounds. -/
def nextL (F : Ride → Ride → Bool) (rides : List Ride) (fr at_ : Int) (pre : List Int) (x : Int) (nx : Option (Bool × Unit)) : Option (Bool × Unit) :=
  if x < 0 ∨ (rides.length : Int) ≤ x then some (false, ()) else match pre.getLast? with
    | none => if (rides.getD x.toNat zR).1 ≠ fr ∨ (rides.getD x.toNat zR).2.2.1 < at_ then some (false, ()) else nx
    | some y => if F (rides.getD y.toNat zR) (rides.getD x.toNat zR) = true then nx else some (false, ())
theorem f46_l0_step (k n : Nat) (S C fr at_ : Int) (rides : List Ride) (pre w : List Int) (x : Int) (hlen : ((pre ++ x :: w).length : Int) ≤ 9223372036854775000) (hv : ∀ y, pre.getLast? = some y → 0 ≤ y ∧ y < (rides.length : Int)) :
    f46_l0 k (n + 1) S C rides fr (pre ++ x :: w) ((pre ++ x :: w).length : Int) (pre.length : Int) at_ = nextL (canF C) rides fr at_ pre x (f46_l0 k n S C rides fr (pre ++ x :: w) ((pre ++ x :: w).length : Int) (((pre ++ [x]).length : Nat) : Int) at_) := by
  have h0 : (pre.length : Int) < ((pre ++ x :: w).length : Int) := by simp; omega
  have h1 : (0 : Int) ≤ pre.length := by omega
  have hw : w64 ((pre.length : Int) + 1) = (((pre ++ [x]).length : Nat) : Int) := by
    rw [w64_id (by omega) (by simp at hlen; omega)]; simp
  rw [f46_l0, f46_l0_B, if_pos h0, if_pos h1, if_pos h0, getD_mid]
  simp only [f46_r4, f46_r4_B, f46_r6, f46_r6_B, f46_r8, f46_r8_B, hw, nextL, f78_eq', Option.bind_some, eta5]
  by_cases hx : x < 0
  · simp [hx]
  · by_cases hx2 : (rides.length : Int) ≤ x
    · simp [hx, hx2]
    · have g1 : 0 ≤ x := by omega
      have g2 : x < (rides.length : Int) := by omega
      rcases List.eq_nil_or_concat pre with rfl | ⟨p, q, rfl⟩
      · simp only [hx, hx2, g1, g2, if_true, if_false, decide_false, Bool.false_eq_true, List.length_nil, Int.ofNat_zero, List.getLast?_nil, or_self]
        by_cases h3 : (rides.getD x.toNat zR).1 = fr <;> by_cases h4 : (rides.getD x.toNat zR).2.2.1 < at_ <;> simp [zR] at h3 h4 <;> simp [h3, h4, zR]
      · have hq := hv q (by simp)
        have e1 : (((p.concat q).length : Nat) : Int) = (p.length : Int) + 1 := by simp
        have e2 : w64 ((((p.concat q).length : Nat) : Int) - 1) = (p.length : Int) := by rw [e1, w64_id (by omega) (by simp at hlen; omega)]; omega
        have e5 : (0 : Int) < ((p.concat q).length : Int) := by rw [e1]; omega
        have e8 : ¬ ((p.concat q).length : Int) = 0 := by omega
        have e6 : (p.length : Int) < ((p.concat q ++ x :: w).length : Int) := by simp; omega
        have e7 : (0 : Int) ≤ (p.length : Int) := by omega
        have e9 : (p.concat q).getLast? = some q := by simp
        simp only [hx, hx2, g1, g2, if_true, if_false, decide_false, Bool.false_eq_true, e2, if_pos e5, if_pos e6, if_pos e7, if_neg e8, getD_prev, hq.1, hq.2, e9, or_self]
        by_cases h3 : canF C (rides.getD q.toNat zR) (rides.getD x.toNat zR) = true <;> simp [zR] at h3 <;> simp [h3, zR]

theorem f49_l0_step (k n : Nat) (S C fr at_ : Int) (rides : List Ride) (pre w : List Int) (x : Int) (hlen : ((pre ++ x :: w).length : Int) ≤ 9223372036854775000) (hv : ∀ y, pre.getLast? = some y → 0 ≤ y ∧ y < (rides.length : Int)) :
    f49_l0 k (n + 1) S C rides fr at_ (pre ++ x :: w) ((pre ++ x :: w).length : Int) (pre.length : Int) = nextL (folF C) rides fr at_ pre x (f49_l0 k n S C rides fr at_ (pre ++ x :: w) ((pre ++ x :: w).length : Int) (((pre ++ [x]).length : Nat) : Int)) := by
  have h0 : (pre.length : Int) < ((pre ++ x :: w).length : Int) := by simp; omega
  have h1 : (0 : Int) ≤ pre.length := by omega
  have hw : w64 ((pre.length : Int) + 1) = (((pre ++ [x]).length : Nat) : Int) := by
    rw [w64_id (by omega) (by simp at hlen; omega)]; simp
  rw [f49_l0, f49_l0_B, if_pos h0, if_pos h1, if_pos h0, getD_mid]
  simp only [f49_r6, f49_r6_B, f49_r9, f49_r9_B, hw, nextL, f80_eq', Option.bind_some, eta5]
  by_cases hx : x < 0
  · simp [hx]
  · by_cases hx2 : (rides.length : Int) ≤ x
    · simp [hx, hx2]
    · have g1 : 0 ≤ x := by omega
      have g2 : x < (rides.length : Int) := by omega
      rcases List.eq_nil_or_concat pre with rfl | ⟨p, q, rfl⟩
      · simp only [hx, hx2, g1, g2, if_true, if_false, decide_false, Bool.false_eq_true, List.length_nil, Int.ofNat_zero, List.getLast?_nil, or_self]
        by_cases h3 : (rides.getD x.toNat zR).1 = fr <;> by_cases h4 : (rides.getD x.toNat zR).2.2.1 < at_ <;> simp [zR] at h3 h4 <;> simp [h3, h4, zR]
      · have hq := hv q (by simp)
        have e1 : (((p.concat q).length : Nat) : Int) = (p.length : Int) + 1 := by simp
        have e2 : w64 ((((p.concat q).length : Nat) : Int) - 1) = (p.length : Int) := by rw [e1, w64_id (by omega) (by simp at hlen; omega)]; omega
        have e5 : (0 : Int) < ((p.concat q).length : Int) := by rw [e1]; omega
        have e8 : ¬ ((p.concat q).length : Int) = 0 := by omega
        have e6 : (p.length : Int) < ((p.concat q ++ x :: w).length : Int) := by simp; omega
        have e7 : (0 : Int) ≤ (p.length : Int) := by omega
        have e9 : (p.concat q).getLast? = some q := by simp
        simp only [hx, hx2, g1, g2, if_true, if_false, decide_false, Bool.false_eq_true, e2, if_pos e5, if_pos e6, if_pos e7, if_neg e8, getD_prev, hq.1, hq.2, e9, or_self]
        by_cases h3 : folF C (rides.getD q.toNat zR) (rides.getD x.toNat zR) = true <;> simp [zR] at h3 <;> simp [h3, zR]
def prevR (rides : List Ride) (pre : List Int) : Option Ride := pre.getLast?.map fun y => rides.getD y.toNat zR
theorem nextL_ok {F : Ride → Ride → Bool} {rides : List Ride} {fr at_ : Int} {pre w : List Int} {x : Int} {G : Nat → Nat → Option (Bool × Unit)} (h : (0 ≤ x ∧ x < (rides.length : Int)) → Ev2 G (okL F rides fr at_ (prevR rides (pre ++ [x])) w, ())) :
    Ev2 (fun k n => nextL F rides fr at_ pre x (G k n)) (okL F rides fr at_ (prevR rides pre) (x :: w), ()) := by
  have e : prevR rides (pre ++ [x]) = some (rides.getD x.toNat zR) := by simp [prevR]
  rw [e] at h
  unfold nextL okL
  by_cases hx : x < 0 ∨ (rides.length : Int) ≤ x
  · simp only [if_pos hx]; exact Ev2.pure _
  · simp only [if_neg hx]
    have h := h (by omega)
    unfold prevR
    cases pre.getLast? with
    | none =>
      simp only [Option.map_none]
      split
      · exact Ev2.pure _
      · exact h
    | some y =>
      simp only [Option.map_some]
      split
      · exact h
      · exact Ev2.pure _
theorem f46_loop (S C fr at_ : Int) (rides : List Ride) : ∀ (w pre : List Int), ((pre ++ w).length : Int) ≤ 9223372036854775000 → (∀ y, pre.getLast? = some y → 0 ≤ y ∧ y < (rides.length : Int)) →
    Ev2 (fun k n => f46_l0 k n S C rides fr (pre ++ w) ((pre ++ w).length : Int) (pre.length : Int) at_) (okL (canF C) rides fr at_ (prevR rides pre) w, ())
  | [], pre, h, hv => Ev2.step (g := fun _ _ => some (true, ())) (fun k n => by rw [f46_l0, f46_l0_B, if_neg (by simp)]) (Ev2.pure _)
  | x :: w, pre, h, hv => by
    refine Ev2.step (fun k n => f46_l0_step k n S C fr at_ rides pre w x h hv) (nextL_ok fun hx => ?_)
    have := f46_loop S C fr at_ rides w (pre ++ [x]) (by simpa using h) (fun y hy => by simp at hy; subst hy; exact hx)
    rw [show pre ++ [x] ++ w = pre ++ x :: w by simp] at this
    exact this
theorem f49_loop (S C fr at_ : Int) (rides : List Ride) : ∀ (w pre : List Int), ((pre ++ w).length : Int) ≤ 9223372036854775000 → (∀ y, pre.getLast? = some y → 0 ≤ y ∧ y < (rides.length : Int)) →
    Ev2 (fun k n => f49_l0 k n S C rides fr at_ (pre ++ w) ((pre ++ w).length : Int) (pre.length : Int)) (okL (folF C) rides fr at_ (prevR rides pre) w, ())
  | [], pre, h, hv => Ev2.step (g := fun _ _ => some (true, ())) (fun k n => by rw [f49_l0, f49_l0_B, if_neg (by simp)]) (Ev2.pure _)
  | x :: w, pre, h, hv => by
    refine Ev2.step (fun k n => f49_l0_step k n S C fr at_ rides pre w x h hv) (nextL_ok fun hx => ?_)
    have := f49_loop S C fr at_ rides w (pre ++ [x]) (by simpa using h) (fun y hy => by simp at hy; subst hy; exact hx)
    rw [show pre ++ [x] ++ w = pre ++ x :: w by simp] at this
    exact this
theorem okL_congr {F G : Ride → Ride → Bool} {rides : List Ride} (h : ∀ a ∈ rides, ∀ b ∈ rides, F a b = G a b) (fr at_ : Int) : ∀ (w : List Int) (p : Option Ride), (∀ q, p = some q → q ∈ rides) → okL F rides fr at_ p w = okL G rides fr at_ p w
  | [], p, _ => rfl
  | x :: w, p, hp => by
    unfold okL
    by_cases hx : x < 0 ∨ (rides.length : Int) ≤ x
    · rw [if_pos hx, if_pos hx]
    · rw [if_neg hx, if_neg hx]
      have hm : rides.getD x.toNat zR ∈ rides := by
        have : x.toNat < rides.length := by omega
        rw [List.getD_eq_getElem?_getD, List.getElem?_eq_getElem this]
        exact List.getElem_mem this
      have ih := okL_congr h fr at_ w (some (rides.getD x.toNat zR)) (fun q hq => by cases hq; exact hm)
      cases p with
      | none => simp only [ih]
      | some q => simp only [ih, h q (hp q rfl) _ hm]
theorem tabL_good {S : Int} : ∀ {l : List Ride} {d : Int}, tabL S d l = 0 → ∀ r ∈ l, ¬ rbad S r
  | r :: l, d, h, q, hq => by
    simp only [tabL] at h
    split at h
    · cases h
    · rename_i hb
      split at h
      · cases h
      · rcases List.mem_cons.1 hq with rfl | hq
        · exact hb
        · exact tabL_good h q hq

theorem timedChecks_ev (S C : Int) (rides : List Ride) (fr at_ : Int) (way : List Int) (hway : (way.length : Int) ≤ 9223372036854775000) : Ev (fun k => f11 k (S, (C, rides)) fr at_ way) (true, ()) := by
  have hplan : Ev (fun k => f47 k) (true, ()) := Ev.off 30 f47_true
  have h49 : ∀ (r : Bool), (tabF S C rides = 0 → r = (decide (0 ≤ fr) && decide (fr < S) && okL (folF C) rides fr at_ none way)) → (tabF S C rides ≠ 0 → r = false) → Ev (fun k => f49 k (S, (C, rides)) fr at_ way) (r, ()) := fun r h1 h2 => by
    have hc := f48_ev S C rides
    simp only [f49, f49_entry_B]
    refine hc.bind ?_
    by_cases h0 : tabF S C rides = 0
    · rw [h1 h0]
      by_cases g1 : 0 ≤ fr
      · by_cases g2 : fr < S
        · have := (f49_loop S C fr at_ rides way [] (by simpa using hway) (fun y hy => by cases hy)).diag
          refine Ev.of (fun k => ?_) (by simpa [g1, g2, prevR] using this)
          have g3 : ¬ fr < 0 := by omega
          have g4 : ¬ S ≤ fr := by omega
          simp [h0, g3, g4, f49_r1, f49_r1_B]
        · refine Ev.of (fun k => ?_) (by simpa [g1, g2] using Ev.pure (false, ()))
          have g3 : ¬ fr < 0 := by omega
          have g4 : S ≤ fr := by omega
          simp [h0, g3, g4, f49_r1, f49_r1_B]
      · refine Ev.of (fun k => ?_) (by simpa [g1] using Ev.pure (false, ()))
        have g3 : fr < 0 := by omega
        simp [h0, g3, f49_r1, f49_r1_B]
    · rw [h2 h0]
      refine Ev.of (fun k => ?_) (Ev.pure (false, ()))
      simp [h0, f49_r1, f49_r1_B]
  have fin : ∀ (b : Bool), Ev (fun k => f49 k (S, (C, rides)) fr at_ way) (b, ()) → Ev (fun k => f11_r2 k S C rides fr b at_ way (tabF S C rides)) (true, ()) := fun b hb => by
    simp only [f11_r2, f11_r2_B]
    refine hplan.bind ?_
    simp only [if_true]
    refine (f48_ev S C rides).bind ?_
    simp only [if_true]
    refine hb.bind ?_
    refine Ev.of (fun k => ?_) (Ev.pure (true, ()))
    simp [f11_r3, f11_r3_B]
  simp only [f11, f11_entry_B]
  refine (f45_ev S C rides).bind ?_
  by_cases h0 : tabF S C rides = 0
  · simp only [h0, if_true]
    have hC : 0 ≤ C ∧ C ≤ 1073741824 := by
      unfold tabF at h0; split at h0
      · cases h0
      · split at h0
        · cases h0
        · omega
    have hg : ∀ r ∈ rides, ¬ rbad S r := by
      unfold tabF at h0; split at h0
      · cases h0
      · split at h0
        · cases h0
        · exact tabL_good h0
    have hcf : okL (canF C) rides fr at_ none way = okL (folF C) rides fr at_ none way := okL_congr (fun a ha b hb => can_fol hC (hg a ha) (hg b hb)) fr at_ way none (fun q hq => by cases hq)
    have fin := fin
    rw [h0] at fin
    by_cases g1 : 0 ≤ fr
    · by_cases g2 : fr < S
      · simp only [g1, g2, if_true]
        have h46 : Ev (fun k => f46 k (S, (C, rides)) fr at_ way) (okL (canF C) rides fr at_ none way, ()) := by
          have := (f46_loop S C fr at_ rides way [] (by simpa using hway) (fun y hy => by cases hy)).diag
          simp only [f46, f46_entry_B]
          simpa [prevR] using this
        refine h46.bind ?_
        refine Ev.of (fun k => ?_) (fin _ (h49 (okL (canF C) rides fr at_ none way) (fun _ => by simp [g1, g2, hcf]) (fun h => (h h0).elim)))
        simp
      · simp only [g1, g2, if_true, if_false]
        exact fin _ (h49 false (fun _ => by simp [g2]) (fun h => (h h0).elim))
    · simp only [g1, if_false]
      exact fin _ (h49 false (fun _ => by simp [g1]) (fun h => (h h0).elim))
  · simp only [h0, if_false]
    exact fin _ (h49 false (fun h => (h0 h).elim) (fun _ => rfl))
/-- **Check and Right return what the reference says.** -/
theorem pure_TimedChecks : Pure_TimedChecks := by
  rintro ⟨⟨S, C, rides⟩, fr, at_, way, u⟩ hwf
  have hway : (List.length (α := Int) way : Int) ≤ 9223372036854775000 := by
    have : List.length (α := Int) way * 8 ≤ 140737488351232 := hwf.2.2.2.1.1
    omega
  exact (timedChecks_ev S C rides fr at_ way hway).get
end Go.Proofs.Ythjejgaekoopnaa.Rw
