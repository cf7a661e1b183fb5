/- What the functions that the law TopTimes reaches come to, part 2. No condition. -/
import Derived.Test.YthfjdcdbimjkjaaRwTopTimesa
namespace Go.Proofs.Ythfjdcdbimjkjaa.Rw
open Go.Rx Go.Proofs
set_option linter.unusedVariables false
set_option maxRecDepth 100000
/-! ### terrier/cost.at: function 170 -/
noncomputable def f170_c : Code := Try.f170.body.getD .skip
noncomputable abbrev f170_p (n : Nat) : Code := sb f170_c n
abbrev f170_sig : List PT := [(false, Tq3), (false, (.int .i64))]
abbrev f170_rs : List RT := [.d false (.int .i64)]
abbrev f170_ts : List RV := [.tmp 4]
abbrev f170_S := St → Option (RDL f170_rs)
abbrev f170_L := List (Fr (RDL f170_rs))
def f170_Y : Tys := []
noncomputable def f170_E (k : Nat) : Env := [(217, .c (f217_con k))]
def f170_A : Ann := { loops := [(0, { slots := [(0, .val false Tq2), (1, .id), (5, .id)] })] }
noncomputable abbrev f170_a (k : Nat) (F : f170_L) : Kont (RDL f170_rs) := ap T f170_Y (f170_E k) f170_A k (Kfin T f170_rs f170_ts) F
def f170_s_l0 (x0 : (List (Int × Int))) (x1 : Int) (x5 : Int) : St := mkS 63 192 [(0, aV Tq2 x0), (1, aI x1), (5, aI x5)] []
abbrev f170_t_l0 := (List (Int × Int)) → Int → Int → Option (Int × Unit)
abbrev f170_o_l0 (R : f170_S) : f170_t_l0 := (fun x0 x1 x5 => R (f170_s_l0 x0 x1 x5))
noncomputable def f170_Q_l0 (k : Nat) (R_l0 : f170_S) : f170_L := [.c (f170_p 116) 0, .j (fun σ => R_l0 (cut f170_A.loops 0 σ)), .blk 0, .c (f170_p 15) 0]
noncomputable def f170_C_l0 (k : Nat) (n : Nat) (σ : St) : Option (RDL f170_rs) := loopK (fun σ K => den T f170_Y (f170_E k) f170_A k (f170_p 116) 0 σ K) (cut f170_A.loops 0) (f170_a k [.blk 0, .c (f170_p 15) 0]) n σ
noncomputable def f170_F_l0 (k : Nat) (G_l0 : f170_S) : f170_L := .c (f170_p 116) 0 :: .j (fun σ => G_l0 (cut f170_A.loops 0 σ)) :: .blk 0 :: .c (f170_p 15) 0 :: []
theorem f170_f_l0 (k : Nat) (R_l0 : f170_S) : f170_a k (f170_Q_l0 k R_l0) = f170_a k (f170_F_l0 k R_l0) := (ap_cons _ (ap_cons _ (ap_cons _ (ap_cons _ rfl))))
def f170_entry_B (k : Nat) (g_l0 : f170_t_l0) (a0 : Td4) (a1 : Int) : Option (Int × Unit) := (if 0 < (a0.length : Int) then (if a1 ≤ ((a0.getD (0 : Int).toNat (0, 0)).1) then (if 0 < (a0.length : Int) then some ((a0.getD (0 : Int).toNat (0, 0)).2, ()) else none) else (g_l0 a0 a1 1)) else none)
def f170_l0_B (k : Nat) (g_l0 : f170_t_l0) (x0 : (List (Int × Int))) (x1 : Int) (x5 : Int) : Option (Int × Unit) := (if x5 < (x0.length : Int) then (if 0 ≤ (w64 (x5 - 1)) then (if (w64 (x5 - 1)) < (x0.length : Int) then (if 0 ≤ x5 then (if x5 < (x0.length : Int) then (if x1 ≤ ((x0.getD (x5).toNat (0, 0)).1) then ((f217 k (w64 ((w64 (((x0.getD (x5).toNat (0, 0)).2) - ((x0.getD (w64 (x5 - 1)).toNat (0, 0)).2))) * (w64 (x1 - ((x0.getD (w64 (x5 - 1)).toNat (0, 0)).1))))) (w64 (((x0.getD (x5).toNat (0, 0)).1) - ((x0.getD (w64 (x5 - 1)).toNat (0, 0)).1)))).bind fun r1 => some (w64 (((x0.getD (w64 (x5 - 1)).toNat (0, 0)).2) + r1.1), ())) else (g_l0 x0 x1 (w64 (x5 + 1)))) else none) else none) else none) else none) else (if 0 ≤ (w64 ((x0.length : Int) - 1)) then (if (w64 ((x0.length : Int) - 1)) < (x0.length : Int) then some ((x0.getD (w64 ((x0.length : Int) - 1)).toNat (0, 0)).2, ()) else none) else none))
theorem f170_l0_P (k : Nat) (G_l0 : f170_S) : f170_o_l0 (fun σ => f170_a k (f170_F_l0 k G_l0) .nx σ) = f170_l0_B k (f170_o_l0 G_l0) := by kernel_rfl
def f170_l0 (k : Nat) : Nat → f170_t_l0
  | 0 => fun _ _ _ => none
  | n + 1 => f170_l0_B k (f170_l0 k n)
theorem f170_l0_E (k : Nat) : ∀ n, f170_o_l0 (f170_C_l0 k n) = f170_l0 k n
  | 0 => rfl
  | n + 1 =>
    Eq.trans (congrArg f170_o_l0 (Eq.trans (b := fun σ => f170_a k (f170_Q_l0 k (f170_C_l0 k n)) .nx σ) (by kernel_rfl) (ap_fn (f170_f_l0 k (f170_C_l0 k n))))) ((f170_l0_P k (f170_C_l0 k n)).trans (by rw [f170_l0_E k n] <;> rfl))
theorem f170_entry_P (k : Nat) (G_l0 : f170_S) (xs : DL f170_sig) : f170_a k (.c (f170_p 2) 0 :: .c (f170_p 6) 0 :: .c (f170_p 28) 0 :: .j (fun σ => f170_a k (.j (fun σ => G_l0 (cut f170_A.loops 0 σ)) :: .blk 0 :: .c (f170_p 15) 0 :: []) .nx σ) :: .c (f170_p 15) 0 :: []) .nx (σ0 63 192 f170_sig xs) = f170_entry_B k (f170_o_l0 G_l0) xs.1 xs.2.1 := by kernel_rfl
def f170 (k : Nat) (a0 : Td4) (a1 : Int) : Option (Int × Unit) := f170_entry_B k (f170_l0 k k) a0 a1
theorem f170_fe (k : Nat) : f170_a k [.c (f170_p 1) 0] = f170_a k (.c (f170_p 2) 0 :: .c (f170_p 6) 0 :: .c (f170_p 28) 0 :: .j (fun σ => f170_a k (.j (fun σ => (f170_C_l0 k k) (cut f170_A.loops 0 σ)) :: .blk 0 :: .c (f170_p 15) 0 :: []) .nx σ) :: .c (f170_p 15) 0 :: []) := (Eq.trans ap_sq (ap_cons _ (Eq.trans ap_sq (ap_cons _ (Eq.trans ap_sq (Eq.trans ap_sq (ap_cons _ (Eq.trans (ap_bl 0) (Eq.trans (ap_j (Eq.trans (ap_lp (C := (f170_C_l0 k)) (fun _ _ => rfl)) (ap_cons _ (ap_cons _ (ap_cons _ rfl))))) (ap_cons _ (ap_cons _ rfl)))))))))))
theorem f170_eq (k : Nat) (xs : DL f170_sig) : den T f170_Y (f170_E k) f170_A k f170_c 0 (σ0 63 192 f170_sig xs) (Kfin T f170_rs f170_ts) = f170 k xs.1 xs.2.1 :=
  Eq.trans (Eq.trans den_sb (ap_at (f170_fe k) _)) ((f170_entry_P k (f170_C_l0 k k) xs).trans (by rw [f170_l0_E k k] <;> rfl))
noncomputable def f170_con (k : Nat) : Con := ⟨f170_sig, f170_rs, fun xs => f170 k xs.1 xs.2.1⟩
theorem f170_ok (k : Nat) : PureOK Try.prog 170 f170_sig f170_rs (fun xs => f170 k xs.1 xs.2.1) :=
  (pure_of_den (k := k) (A := f170_A) (T := T) (Y := f170_Y) (E := f170_E k) (M := 192) (ts := f170_ts) T_ok ⟨f217_ok k, trivial⟩ ⟨f217_ent, trivial⟩ mixed (f := 170) (fn := Try.f170) (c := f170_c) (by kernel_rfl) (by kernel_rfl) (by kernel_rfl) (by decide) (by kernel_rfl)).congr fun xs => (f170_eq k xs).symm
theorem f170_ent : Ent Try.prog 170 := fun args w => by kernel_rfl
/-! ### terrier/cost.At: function 139 -/
noncomputable def f139_c : Code := Try.f139.body.getD .skip
noncomputable abbrev f139_p (n : Nat) : Code := sb f139_c n
abbrev f139_sig : List PT := [(false, Tq3), (false, (.int .i64))]
abbrev f139_rs : List RT := [.d false (.int .i64), .d false (.int .i64)]
abbrev f139_ts : List RV := [.tmp 4, .tmp 5]
abbrev f139_S := St → Option (RDL f139_rs)
abbrev f139_L := List (Fr (RDL f139_rs))
def f139_Y : Tys := []
noncomputable def f139_E (k : Nat) : Env := [(72, .c (f72_con k)), (170, .c (f170_con k))]
def f139_A : Ann := { regs := [(4, { slots := [(0, .val false Tq2), (1, .id), (17, .bool)] })] }
noncomputable abbrev f139_a (k : Nat) (F : f139_L) : Kont (RDL f139_rs) := ap T f139_Y (f139_E k) f139_A k (Kfin T f139_rs f139_ts) F
def f139_s_r4 (x0 : (List (Int × Int))) (x1 : Int) (x17 : Bool) : St := mkS 21 64 [(0, aV Tq2 x0), (1, aI x1), (17, aB x17)] []
abbrev f139_t_r4 := (List (Int × Int)) → Int → Bool → Option (Int × Int × Unit)
abbrev f139_o_r4 (R : f139_S) : f139_t_r4 := (fun x0 x1 x17 => R (f139_s_r4 x0 x1 x17))
noncomputable def f139_Q_r4 (k : Nat) : f139_L := [.c (f139_p 29) 0, .c (f139_p 15) 0]
noncomputable def f139_C_r4 (k : Nat) : f139_S := fun σ => f139_a k (f139_Q_r4 k) .nx σ
noncomputable def f139_F_r4 (k : Nat) : f139_L := .c (f139_p 29) 0 :: .c (f139_p 15) 0 :: []
theorem f139_f_r4 (k : Nat) : f139_a k (f139_Q_r4 k) = f139_a k (f139_F_r4 k) := (ap_cons _ (ap_cons _ rfl))
def f139_entry_B (k : Nat) (g_r4 : f139_t_r4) (a0 : Td4) (a1 : Int) : Option (Int × Int × Unit) := ((f72 k a0).bind fun r1 => (if ¬ (r1.1 = 0) then some (0, r1.1, ()) else (if a1 < 0 then (g_r4 a0 a1 true) else (g_r4 a0 a1 (decide (1073741824 < a1))))))
def f139_r4_B (k : Nat) (x0 : (List (Int × Int))) (x1 : Int) (x17 : Bool) : Option (Int × Int × Unit) := (if x17 = true then some (0, 1, ()) else ((f170 k x0 x1).bind fun r1 => some (r1.1, 0, ())))
theorem f139_r4_P (k : Nat) : f139_o_r4 (fun σ => f139_a k (f139_F_r4 k) .nx σ) = f139_r4_B k := by kernel_rfl
def f139_r4 (k : Nat) : f139_t_r4 := f139_r4_B k
theorem f139_r4_E (k : Nat) : f139_o_r4 (f139_C_r4 k) = f139_r4 k :=
  Eq.trans (congrArg f139_o_r4 (ap_fn (f139_f_r4 k))) ((f139_r4_P k).trans (by rfl))
theorem f139_entry_P (k : Nat) (G_r4 : f139_S) (xs : DL f139_sig) : f139_a k (.c (f139_p 2) 0 :: .c (f139_p 6) 0 :: .c (f139_p 28) 0 :: .j G_r4 :: f139_F_r4 k) .nx (σ0 21 64 f139_sig xs) = f139_entry_B k (f139_o_r4 G_r4) xs.1 xs.2.1 := by kernel_rfl
def f139 (k : Nat) (a0 : Td4) (a1 : Int) : Option (Int × Int × Unit) := f139_entry_B k (f139_r4 k) a0 a1
theorem f139_fe (k : Nat) : f139_a k [.c (f139_p 1) 0] = f139_a k (.c (f139_p 2) 0 :: .c (f139_p 6) 0 :: .c (f139_p 28) 0 :: .j (f139_C_r4 k) :: f139_F_r4 k) := (Eq.trans ap_sq (ap_cons _ (Eq.trans ap_sq (ap_cons _ (Eq.trans ap_sq (Eq.trans ap_sq (ap_cons _ (Eq.trans (ap_pass (C := (f139_C_r4 k)) (fun _ => rfl)) (ap_cons _ (f139_f_r4 k))))))))))
theorem f139_eq (k : Nat) (xs : DL f139_sig) : den T f139_Y (f139_E k) f139_A k f139_c 0 (σ0 21 64 f139_sig xs) (Kfin T f139_rs f139_ts) = f139 k xs.1 xs.2.1 :=
  Eq.trans (Eq.trans den_sb (ap_at (f139_fe k) _)) ((f139_entry_P k (f139_C_r4 k) xs).trans (by rw [f139_r4_E k] <;> rfl))
noncomputable def f139_con (k : Nat) : Con := ⟨f139_sig, f139_rs, fun xs => f139 k xs.1 xs.2.1⟩
theorem f139_ok (k : Nat) : PureOK Try.prog 139 f139_sig f139_rs (fun xs => f139 k xs.1 xs.2.1) :=
  (pure_of_den (k := k) (A := f139_A) (T := T) (Y := f139_Y) (E := f139_E k) (M := 64) (ts := f139_ts) T_ok ⟨f72_ok k, f170_ok k, trivial⟩ ⟨f72_ent, f170_ent, trivial⟩ mixed (f := 139) (fn := Try.f139) (c := f139_c) (by kernel_rfl) (by kernel_rfl) (by kernel_rfl) (by decide) (by kernel_rfl)).congr fun xs => (f139_eq k xs).symm
theorem f139_ent : Ent Try.prog 139 := fun args w => by kernel_rfl
/-! ### terrier/cost.Arrive: function 74 -/
noncomputable def f74_c : Code := Try.f74.body.getD .skip
noncomputable abbrev f74_p (n : Nat) : Code := sb f74_c n
abbrev f74_sig : List PT := [(false, Tq3), (false, (.int .i64))]
abbrev f74_rs : List RT := [.d false (.int .i64), .d false (.int .i64)]
abbrev f74_ts : List RV := [.tmp 4, .tmp 5]
abbrev f74_S := St → Option (RDL f74_rs)
abbrev f74_L := List (Fr (RDL f74_rs))
def f74_Y : Tys := []
noncomputable def f74_E (k : Nat) : Env := [(139, .c (f139_con k))]
def f74_A : Ann := {}
noncomputable abbrev f74_a (k : Nat) (F : f74_L) : Kont (RDL f74_rs) := ap T f74_Y (f74_E k) f74_A k (Kfin T f74_rs f74_ts) F
def f74_entry_B (k : Nat) (a0 : Td4) (a1 : Int) : Option (Int × Int × Unit) := ((f139 k a0 a1).bind fun r1 => (if ¬ (r1.2.1 = 0) then some (0, r1.2.1, ()) else some (w64 (a1 + r1.1), 0, ())))
theorem f74_entry_P (k : Nat) (xs : DL f74_sig) : f74_a k (.c (f74_p 1) 0 :: []) .nx (σ0 20 64 f74_sig xs) = f74_entry_B k xs.1 xs.2.1 := by kernel_rfl
def f74 (k : Nat) (a0 : Td4) (a1 : Int) : Option (Int × Int × Unit) := f74_entry_B k a0 a1
theorem f74_eq (k : Nat) (xs : DL f74_sig) : den T f74_Y (f74_E k) f74_A k f74_c 0 (σ0 20 64 f74_sig xs) (Kfin T f74_rs f74_ts) = f74 k xs.1 xs.2.1 :=
  Eq.trans (Eq.trans den_sb (ap_at (ap_cons _ rfl) _)) ((f74_entry_P k xs).trans (by rfl))
noncomputable def f74_con (k : Nat) : Con := ⟨f74_sig, f74_rs, fun xs => f74 k xs.1 xs.2.1⟩
theorem f74_ok (k : Nat) : PureOK Try.prog 74 f74_sig f74_rs (fun xs => f74 k xs.1 xs.2.1) :=
  (pure_of_den (k := k) (A := f74_A) (T := T) (Y := f74_Y) (E := f74_E k) (M := 64) (ts := f74_ts) T_ok ⟨f139_ok k, trivial⟩ ⟨f139_ent, trivial⟩ mixed (f := 74) (fn := Try.f74) (c := f74_c) (by kernel_rfl) (by kernel_rfl) (by kernel_rfl) (by decide) (by kernel_rfl)).congr fun xs => (f74_eq k xs).symm
theorem f74_ent : Ent Try.prog 74 := fun args w => by kernel_rfl
/-! ### terrier/timed.Hours: function 17 -/
noncomputable def f17_c : Code := Try.f17.body.getD .skip
noncomputable abbrev f17_p (n : Nat) : Code := sb f17_c n
abbrev f17_sig : List PT := [(true, Tq9), (false, Tq21), (false, (.int .i64)), (false, (.int .i64))]
abbrev f17_rs : List RT := [.new (.int .i64), .d false (.int .i64)]
abbrev f17_ts : List RV := [.tmp 8, .tmp 9]
abbrev f17_S := St → Option (RDL f17_rs)
abbrev f17_L := List (Fr (RDL f17_rs))
def f17_Y : Tys := [(3, (.int .i64)), (4, .bool)]
noncomputable def f17_E (k : Nat) : Env := [(69, .c (f69_con k)), (71, .c (f71_con k)), (72, .c (f72_con k)), (73, .c (f73_con k)), (74, .c (f74_con k))]
def f17_A : Ann := { loops := [(0, { slots := [(1, .val false Tq3), (2, .id), (3, .id), (4, .id), (39, .val false Tq3), (40, .id), (41, .id)], keys := [(4, [.val false Tq2, .val false Tq6, .val false Tq2])] }), (2, { slots := [(1, .val false Tq3), (4, .id), (14, .id), (15, .id)], keys := [(4, [.val false Tq2, .val false Tq6, .val false Tq2]), (72, []), (76, [])] }), (4, { slots := [(1, .val false Tq3), (4, .id), (14, .id), (15, .id), (16, .id), (81, .id), (82, .id), (83, .id)], keys := [(4, [.val false Tq2, .val false Tq6, .val false Tq2]), (72, []), (76, [])] }), (6, { slots := [(1, .val false Tq3), (4, .id), (14, .id), (15, .id), (16, .id), (119, .id), (120, .id), (121, .id)], keys := [(4, [.val false Tq2, .val false Tq6, .val false Tq2]), (72, []), (76, []), (119, [])] })], regs := [(15, { slots := [(1, .val false Tq3), (2, .id), (3, .id), (4, .id), (67, .bool)], keys := [(4, [.val false Tq2, .val false Tq6, .val false Tq2])] }), (24, { slots := [(1, .val false Tq3), (4, .id), (14, .id), (15, .id), (16, .id), (17, .id), (81, .id), (82, .id), (83, .id), (108, .bool)], keys := [(4, [.val false Tq2, .val false Tq6, .val false Tq2]), (72, []), (76, [])] }), (35, { slots := [(1, .val false Tq3), (4, .id), (14, .id), (15, .id), (16, .id), (21, .id), (23, .id), (119, .id), (120, .id), (121, .id), (159, .bool)], keys := [(4, [.val false Tq2, .val false Tq6, .val false Tq2]), (72, []), (76, []), (119, [])] })], conds := [(25, { slots := [(1, .val false Tq3), (4, .id), (14, .id), (15, .id), (16, .id), (81, .id), (82, .id), (83, .id)], keys := [(4, [.val false Tq2, .val false Tq6, .val false Tq2]), (72, []), (76, [])] }), (36, { slots := [(1, .val false Tq3), (4, .id), (14, .id), (15, .id), (16, .id), (119, .id), (120, .id), (121, .id)], keys := [(4, [.val false Tq2, .val false Tq6, .val false Tq2]), (72, []), (76, []), (119, [])] })] }
noncomputable abbrev f17_a (k : Nat) (F : f17_L) : Kont (RDL f17_rs) := ap T f17_Y (f17_E k) f17_A k (Kfin T f17_rs f17_ts) F
def f17_s_l0 (y4_0 : (List (Int × Int))) (y4_1 : (List (Int × (Int × (Int × Int))))) (y4_2 : (List (Int × Int))) (x1 : (List (List (Int × Int)))) (x2 : Int) (x3 : Int) (x40 : Int) (x41 : Int) : St := mkS 165 496 [(1, aV Tq3 x1), (2, aI x2), (3, aI x3), (4, aP 4), (39, aV Tq3 x1), (40, aI x40), (41, aI x41)] [(4, .box [cV Tq2 y4_0, cV Tq6 y4_1, cV Tq2 y4_2])]
abbrev f17_t_l0 := (List (Int × Int)) → (List (Int × (Int × (Int × Int)))) → (List (Int × Int)) → (List (List (Int × Int))) → Int → Int → Int → Int → Option ((List Int) × Int × Unit)
abbrev f17_o_l0 (R : f17_S) : f17_t_l0 := (fun y4_0 y4_1 y4_2 x1 x2 x3 x40 x41 => R (f17_s_l0 y4_0 y4_1 y4_2 x1 x2 x3 x40 x41))
noncomputable def f17_Q_l0 (k : Nat) (R_l0 : f17_S) : f17_L := [.c (f17_p 500) 0, .j (fun σ => R_l0 (cut f17_A.loops 0 σ)), .blk 0, .c (f17_p 63) 0]
noncomputable def f17_C_l0 (k : Nat) (n : Nat) (σ : St) : Option (RDL f17_rs) := loopK (fun σ K => den T f17_Y (f17_E k) f17_A k (f17_p 500) 0 σ K) (cut f17_A.loops 0) (f17_a k [.blk 0, .c (f17_p 63) 0]) n σ
def f17_s_r15 (y4_0 : (List (Int × Int))) (y4_1 : (List (Int × (Int × (Int × Int))))) (y4_2 : (List (Int × Int))) (x1 : (List (List (Int × Int)))) (x2 : Int) (x3 : Int) (x67 : Bool) : St := mkS 165 496 [(1, aV Tq3 x1), (2, aI x2), (3, aI x3), (4, aP 4), (67, aB x67)] [(4, .box [cV Tq2 y4_0, cV Tq6 y4_1, cV Tq2 y4_2])]
abbrev f17_t_r15 := (List (Int × Int)) → (List (Int × (Int × (Int × Int)))) → (List (Int × Int)) → (List (List (Int × Int))) → Int → Int → Bool → Option ((List Int) × Int × Unit)
abbrev f17_o_r15 (R : f17_S) : f17_t_r15 := (fun y4_0 y4_1 y4_2 x1 x2 x3 x67 => R (f17_s_r15 y4_0 y4_1 y4_2 x1 x2 x3 x67))
noncomputable def f17_Q_r15 (k : Nat) : f17_L := [.c (f17_p 253) 0, .c (f17_p 127) 0]
noncomputable def f17_C_r15 (k : Nat) : f17_S := fun σ => f17_a k (f17_Q_r15 k) .nx σ
def f17_s_l2 (y4_0 : (List (Int × Int))) (y4_1 : (List (Int × (Int × (Int × Int))))) (y4_2 : (List (Int × Int))) (y72 : (List Int)) (y76 : (List Bool)) (x1 : (List (List (Int × Int)))) : St := mkS 165 496 [(1, aV Tq3 x1), (4, aP 4), (14, aO 72), (15, aO 76)] [(4, .box [cV Tq2 y4_0, cV Tq6 y4_1, cV Tq2 y4_2]), (72, .vec (.int .i64) y72), (76, .vec .bool y76)]
abbrev f17_t_l2 := (List (Int × Int)) → (List (Int × (Int × (Int × Int)))) → (List (Int × Int)) → (List Int) → (List Bool) → (List (List (Int × Int))) → Option ((List Int) × Int × Unit)
abbrev f17_o_l2 (R : f17_S) : f17_t_l2 := (fun y4_0 y4_1 y4_2 y72 y76 x1 => R (f17_s_l2 y4_0 y4_1 y4_2 y72 y76 x1))
noncomputable def f17_Q_l2 (k : Nat) (R_l2 : f17_S) : f17_L := [.c (f17_p 4092) 2, .j (fun σ => R_l2 (cut f17_A.loops 2 σ)), .blk 2]
noncomputable def f17_C_l2 (k : Nat) (n : Nat) (σ : St) : Option (RDL f17_rs) := loopK (fun σ K => den T f17_Y (f17_E k) f17_A k (f17_p 4092) 2 σ K) (cut f17_A.loops 2) (f17_a k [.blk 2]) n σ
def f17_s_l4 (y4_0 : (List (Int × Int))) (y4_1 : (List (Int × (Int × (Int × Int))))) (y4_2 : (List (Int × Int))) (y72 : (List Int)) (y76 : (List Bool)) (x1 : (List (List (Int × Int)))) (x16 : Int) (x82 : Int) (x83 : Int) : St := mkS 165 496 [(1, aV Tq3 x1), (4, aP 4), (14, aO 72), (15, aO 76), (16, aI x16), (81, aO 72), (82, aI x82), (83, aI x83)] [(4, .box [cV Tq2 y4_0, cV Tq6 y4_1, cV Tq2 y4_2]), (72, .vec (.int .i64) y72), (76, .vec .bool y76)]
abbrev f17_t_l4 := (List (Int × Int)) → (List (Int × (Int × (Int × Int)))) → (List (Int × Int)) → (List Int) → (List Bool) → (List (List (Int × Int))) → Int → Int → Int → Option ((List Int) × Int × Unit)
abbrev f17_o_l4 (R : f17_S) : f17_t_l4 := (fun y4_0 y4_1 y4_2 y72 y76 x1 x16 x82 x83 => R (f17_s_l4 y4_0 y4_1 y4_2 y72 y76 x1 x16 x82 x83))
noncomputable def f17_Q_l4 (k : Nat) (R_l2 R_l4 : f17_S) : f17_L := [.c (f17_p 261908) 4, .j (fun σ => R_l4 (cut f17_A.loops 4 σ)), .blk 4, .c (f17_p 32739) 3, .blk 3, .j (fun σ => R_l2 (cut f17_A.loops 2 σ)), .blk 2]
noncomputable def f17_C_l4 (k : Nat) (R_l2 : f17_S) (n : Nat) (σ : St) : Option (RDL f17_rs) := loopK (fun σ K => den T f17_Y (f17_E k) f17_A k (f17_p 261908) 4 σ K) (cut f17_A.loops 4) (f17_a k [.blk 4, .c (f17_p 32739) 3, .blk 3, .j (fun σ => R_l2 (cut f17_A.loops 2 σ)), .blk 2]) n σ
def f17_s_r24 (y4_0 : (List (Int × Int))) (y4_1 : (List (Int × (Int × (Int × Int))))) (y4_2 : (List (Int × Int))) (y72 : (List Int)) (y76 : (List Bool)) (x1 : (List (List (Int × Int)))) (x108 : Bool) (x16 : Int) (x17 : Int) (x82 : Int) : St := mkS 165 496 [(1, aV Tq3 x1), (4, aP 4), (14, aO 72), (15, aO 76), (16, aI x16), (17, aI x17), (81, aO 72), (82, aI x82), (83, aI x17), (108, aB x108)] [(4, .box [cV Tq2 y4_0, cV Tq6 y4_1, cV Tq2 y4_2]), (72, .vec (.int .i64) y72), (76, .vec .bool y76)]
abbrev f17_t_r24 := (List (Int × Int)) → (List (Int × (Int × (Int × Int)))) → (List (Int × Int)) → (List Int) → (List Bool) → (List (List (Int × Int))) → Bool → Int → Int → Int → Option ((List Int) × Int × Unit)
abbrev f17_o_r24 (R : f17_S) : f17_t_r24 := (fun y4_0 y4_1 y4_2 y72 y76 x1 x108 x16 x17 x82 => R (f17_s_r24 y4_0 y4_1 y4_2 y72 y76 x1 x108 x16 x17 x82))
noncomputable def f17_Q_r24 (k : Nat) (R_l4 R_l2 : f17_S) : f17_L := [.c (f17_p 16762163) 5, .blk 5, .c (f17_p 2095271) 4, .j (fun σ => R_l4 (cut f17_A.loops 4 σ)), .blk 4, .c (f17_p 32739) 3, .blk 3, .j (fun σ => R_l2 (cut f17_A.loops 2 σ)), .blk 2]
noncomputable def f17_C_r24 (k : Nat) (R_l4 R_l2 : f17_S) : f17_S := fun σ => f17_a k (f17_Q_r24 k R_l4 R_l2) .nx σ
def f17_s_l6 (y119 : (List Int)) (y4_0 : (List (Int × Int))) (y4_1 : (List (Int × (Int × (Int × Int))))) (y4_2 : (List (Int × Int))) (y72 : (List Int)) (y76 : (List Bool)) (x1 : (List (List (Int × Int)))) (x120 : Int) (x121 : Int) (x16 : Int) : St := mkS 165 496 [(1, aV Tq3 x1), (4, aP 4), (14, aO 72), (15, aO 76), (16, aI x16), (119, aO 119), (120, aI x120), (121, aI x121)] [(4, .box [cV Tq2 y4_0, cV Tq6 y4_1, cV Tq2 y4_2]), (72, .vec (.int .i64) y72), (76, .vec .bool y76), (119, .vec (.int .i64) y119)]
abbrev f17_t_l6 := (List Int) → (List (Int × Int)) → (List (Int × (Int × (Int × Int)))) → (List (Int × Int)) → (List Int) → (List Bool) → (List (List (Int × Int))) → Int → Int → Int → Option ((List Int) × Int × Unit)
abbrev f17_o_l6 (R : f17_S) : f17_t_l6 := (fun y119 y4_0 y4_1 y4_2 y72 y76 x1 x120 x121 x16 => R (f17_s_l6 y119 y4_0 y4_1 y4_2 y72 y76 x1 x120 x121 x16))
noncomputable def f17_Q_l6 (k : Nat) (R_l2 R_l6 : f17_S) : f17_L := [.c (f17_p 1047676) 6, .j (fun σ => R_l6 (cut f17_A.loops 6 σ)), .blk 6, .blk 3, .j (fun σ => R_l2 (cut f17_A.loops 2 σ)), .blk 2]
noncomputable def f17_C_l6 (k : Nat) (R_l2 : f17_S) (n : Nat) (σ : St) : Option (RDL f17_rs) := loopK (fun σ K => den T f17_Y (f17_E k) f17_A k (f17_p 1047676) 6 σ K) (cut f17_A.loops 6) (f17_a k [.blk 6, .blk 3, .j (fun σ => R_l2 (cut f17_A.loops 2 σ)), .blk 2]) n σ
def f17_s_c25 (y4_0 : (List (Int × Int))) (y4_1 : (List (Int × (Int × (Int × Int))))) (y4_2 : (List (Int × Int))) (y72 : (List Int)) (y76 : (List Bool)) (x1 : (List (List (Int × Int)))) (x16 : Int) (x82 : Int) (x83 : Int) : St := mkS 165 496 [(1, aV Tq3 x1), (4, aP 4), (14, aO 72), (15, aO 76), (16, aI x16), (81, aO 72), (82, aI x82), (83, aI x83)] [(4, .box [cV Tq2 y4_0, cV Tq6 y4_1, cV Tq2 y4_2]), (72, .vec (.int .i64) y72), (76, .vec .bool y76)]
abbrev f17_t_c25 := (List (Int × Int)) → (List (Int × (Int × (Int × Int)))) → (List (Int × Int)) → (List Int) → (List Bool) → (List (List (Int × Int))) → Int → Int → Int → Option ((List Int) × Int × Unit)
abbrev f17_o_c25 (R : f17_S) : f17_t_c25 := (fun y4_0 y4_1 y4_2 y72 y76 x1 x16 x82 x83 => R (f17_s_c25 y4_0 y4_1 y4_2 y72 y76 x1 x16 x82 x83))
noncomputable def f17_Q_c25 (k : Nat) (R_l4 R_l2 : f17_S) : f17_L := [.blk 5, .c (f17_p 2095271) 4, .j (fun σ => R_l4 (cut f17_A.loops 4 σ)), .blk 4, .c (f17_p 32739) 3, .blk 3, .j (fun σ => R_l2 (cut f17_A.loops 2 σ)), .blk 2]
noncomputable def f17_C_c25 (k : Nat) (R_l4 R_l2 : f17_S) : f17_S := fun σ => f17_a k (f17_Q_c25 k R_l4 R_l2) .nx σ
def f17_s_r35 (y119 : (List Int)) (y4_0 : (List (Int × Int))) (y4_1 : (List (Int × (Int × (Int × Int))))) (y4_2 : (List (Int × Int))) (y72 : (List Int)) (y76 : (List Bool)) (x1 : (List (List (Int × Int)))) (x120 : Int) (x121 : Int) (x159 : Bool) (x16 : Int) (x21 : Int) (x23 : Int) : St := mkS 165 496 [(1, aV Tq3 x1), (4, aP 4), (14, aO 72), (15, aO 76), (16, aI x16), (21, aI x21), (23, aI x23), (119, aO 119), (120, aI x120), (121, aI x121), (159, aB x159)] [(4, .box [cV Tq2 y4_0, cV Tq6 y4_1, cV Tq2 y4_2]), (72, .vec (.int .i64) y72), (76, .vec .bool y76), (119, .vec (.int .i64) y119)]
abbrev f17_t_r35 := (List Int) → (List (Int × Int)) → (List (Int × (Int × (Int × Int)))) → (List (Int × Int)) → (List Int) → (List Bool) → (List (List (Int × Int))) → Int → Int → Bool → Int → Int → Int → Option ((List Int) × Int × Unit)
abbrev f17_o_r35 (R : f17_S) : f17_t_r35 := (fun y119 y4_0 y4_1 y4_2 y72 y76 x1 x120 x121 x159 x16 x21 x23 => R (f17_s_r35 y119 y4_0 y4_1 y4_2 y72 y76 x1 x120 x121 x159 x16 x21 x23))
noncomputable def f17_Q_r35 (k : Nat) (R_l6 R_l2 : f17_S) : f17_L := [.c (f17_p 268205263) 7, .blk 7, .c (f17_p 8381415) 6, .j (fun σ => R_l6 (cut f17_A.loops 6 σ)), .blk 6, .blk 3, .j (fun σ => R_l2 (cut f17_A.loops 2 σ)), .blk 2]
noncomputable def f17_C_r35 (k : Nat) (R_l6 R_l2 : f17_S) : f17_S := fun σ => f17_a k (f17_Q_r35 k R_l6 R_l2) .nx σ
def f17_s_c36 (y119 : (List Int)) (y4_0 : (List (Int × Int))) (y4_1 : (List (Int × (Int × (Int × Int))))) (y4_2 : (List (Int × Int))) (y72 : (List Int)) (y76 : (List Bool)) (x1 : (List (List (Int × Int)))) (x120 : Int) (x121 : Int) (x16 : Int) : St := mkS 165 496 [(1, aV Tq3 x1), (4, aP 4), (14, aO 72), (15, aO 76), (16, aI x16), (119, aO 119), (120, aI x120), (121, aI x121)] [(4, .box [cV Tq2 y4_0, cV Tq6 y4_1, cV Tq2 y4_2]), (72, .vec (.int .i64) y72), (76, .vec .bool y76), (119, .vec (.int .i64) y119)]
abbrev f17_t_c36 := (List Int) → (List (Int × Int)) → (List (Int × (Int × (Int × Int)))) → (List (Int × Int)) → (List Int) → (List Bool) → (List (List (Int × Int))) → Int → Int → Int → Option ((List Int) × Int × Unit)
abbrev f17_o_c36 (R : f17_S) : f17_t_c36 := (fun y119 y4_0 y4_1 y4_2 y72 y76 x1 x120 x121 x16 => R (f17_s_c36 y119 y4_0 y4_1 y4_2 y72 y76 x1 x120 x121 x16))
noncomputable def f17_Q_c36 (k : Nat) (R_l6 R_l2 : f17_S) : f17_L := [.blk 7, .c (f17_p 8381415) 6, .j (fun σ => R_l6 (cut f17_A.loops 6 σ)), .blk 6, .blk 3, .j (fun σ => R_l2 (cut f17_A.loops 2 σ)), .blk 2]
noncomputable def f17_C_c36 (k : Nat) (R_l6 R_l2 : f17_S) : f17_S := fun σ => f17_a k (f17_Q_c36 k R_l6 R_l2) .nx σ
noncomputable def f17_F_r15 (k : Nat) (G_l2 : f17_S) : f17_L := .c (f17_p 253) 0 :: .c (f17_p 254) 0 :: .c (f17_p 510) 0 :: .c (f17_p 1022) 0 :: .j (fun σ => f17_a k (.j (fun σ => G_l2 (cut f17_A.loops 2 σ)) :: .blk 2 :: []) .nx σ) :: []
theorem f17_f_r15 (k : Nat) : f17_a k (f17_Q_r15 k) = f17_a k (f17_F_r15 k (f17_C_l2 k k)) := (ap_cons _ (Eq.trans ap_sq (ap_cons _ (Eq.trans ap_sq (ap_cons _ (Eq.trans ap_sq (ap_cons _ (Eq.trans (ap_bl 2) (Eq.trans (ap_j (Eq.trans (ap_lp (C := (f17_C_l2 k)) (fun _ _ => rfl)) (ap_cons _ (ap_cons _ rfl)))) (ap_cons _ rfl))))))))))
noncomputable def f17_F_l0 (k : Nat) (G_l0 G_r15 G_l2 : f17_S) : f17_L := .c (f17_p 500) 0 :: .j (fun σ => G_l0 (cut f17_A.loops 0 σ)) :: .blk 0 :: .c (f17_p 252) 0 :: .j G_r15 :: f17_F_r15 k G_l2
theorem f17_f_l0 (k : Nat) (R_l0 : f17_S) : f17_a k (f17_Q_l0 k R_l0) = f17_a k (f17_F_l0 k R_l0 (f17_C_r15 k) (f17_C_l2 k k)) := (ap_cons _ (ap_cons _ (ap_cons _ (Eq.trans ap_sq (Eq.trans ap_sq (ap_cons _ (Eq.trans (ap_pass (C := (f17_C_r15 k)) (fun _ => rfl)) (ap_cons _ (f17_f_r15 k)))))))))
noncomputable def f17_F_l2 (k : Nat) (G_l2 G_l4 G_l6 : f17_S) : f17_L := .j (fun σ => f17_a k (.c (f17_p 16368) 3 :: .c (f17_p 65476) 3 :: .j (fun σ => f17_a k (.j (fun σ => G_l4 (cut f17_A.loops 4 σ)) :: .blk 4 :: .c (f17_p 65478) 3 :: .c (f17_p 130958) 3 :: .c (f17_p 261918) 3 :: .j (fun σ => f17_a k (.j (fun σ => G_l6 (cut f17_A.loops 6 σ)) :: .blk 6 :: .blk 3 :: .j (fun σ => G_l2 (cut f17_A.loops 2 σ)) :: .blk 2 :: []) .nx σ) :: .blk 3 :: .j (fun σ => G_l2 (cut f17_A.loops 2 σ)) :: .blk 2 :: []) .nx σ) :: .c (f17_p 65478) 3 :: .c (f17_p 130958) 3 :: .c (f17_p 261918) 3 :: .j (fun σ => f17_a k (.j (fun σ => G_l6 (cut f17_A.loops 6 σ)) :: .blk 6 :: .blk 3 :: .j (fun σ => G_l2 (cut f17_A.loops 2 σ)) :: .blk 2 :: []) .nx σ) :: .blk 3 :: .j (fun σ => G_l2 (cut f17_A.loops 2 σ)) :: .blk 2 :: []) .nx σ) :: .j (fun σ => G_l2 (cut f17_A.loops 2 σ)) :: .blk 2 :: []
theorem f17_f_l2 (k : Nat) (R_l2 : f17_S) : f17_a k (f17_Q_l2 k R_l2) = f17_a k (f17_F_l2 k R_l2 (f17_C_l4 k R_l2 k) (f17_C_l6 k R_l2 k)) := (Eq.trans (ap_bl 3) (Eq.trans (ap_j (Eq.trans ap_sq (ap_cons _ (Eq.trans ap_sq (Eq.trans ap_sq (ap_cons _ (Eq.trans (ap_bl 4) (Eq.trans (ap_j (Eq.trans (ap_lp (C := (f17_C_l4 k R_l2)) (fun _ _ => rfl)) (ap_cons _ (ap_cons _ (Eq.trans ap_sq (ap_cons _ (Eq.trans ap_sq (ap_cons _ (Eq.trans ap_sq (ap_cons _ (Eq.trans (ap_bl 6) (Eq.trans (ap_j (Eq.trans (ap_lp (C := (f17_C_l6 k R_l2)) (fun _ _ => rfl)) (ap_cons _ (ap_cons _ (ap_cons _ (ap_cons _ (ap_cons _ rfl))))))) (ap_cons _ (ap_cons _ (ap_cons _ (ap_cons _ rfl)))))))))))))))) (ap_cons _ (Eq.trans ap_sq (ap_cons _ (Eq.trans ap_sq (ap_cons _ (Eq.trans ap_sq (ap_cons _ (Eq.trans (ap_bl 6) (Eq.trans (ap_j (Eq.trans (ap_lp (C := (f17_C_l6 k R_l2)) (fun _ _ => rfl)) (ap_cons _ (ap_cons _ (ap_cons _ (ap_cons _ (ap_cons _ rfl))))))) (ap_cons _ (ap_cons _ (ap_cons _ (ap_cons _ rfl))))))))))))))))))))) (ap_cons _ (ap_cons _ (ap_cons _ rfl)))))
noncomputable def f17_F_c25 (k : Nat) (G_l2 G_l4 G_l6 : f17_S) : f17_L := .blk 5 :: .c (f17_p 2095271) 4 :: .j (fun σ => G_l4 (cut f17_A.loops 4 σ)) :: .blk 4 :: .c (f17_p 65478) 3 :: .c (f17_p 130958) 3 :: .c (f17_p 261918) 3 :: .j (fun σ => f17_a k (.j (fun σ => G_l6 (cut f17_A.loops 6 σ)) :: .blk 6 :: .blk 3 :: .j (fun σ => G_l2 (cut f17_A.loops 2 σ)) :: .blk 2 :: []) .nx σ) :: .blk 3 :: .j (fun σ => G_l2 (cut f17_A.loops 2 σ)) :: .blk 2 :: []
theorem f17_f_c25 (k : Nat) (R_l4 R_l2 : f17_S) : f17_a k (f17_Q_c25 k R_l4 R_l2) = f17_a k (f17_F_c25 k R_l2 R_l4 (f17_C_l6 k R_l2 k)) := (ap_cons _ (ap_cons _ (ap_cons _ (ap_cons _ (Eq.trans ap_sq (ap_cons _ (Eq.trans ap_sq (ap_cons _ (Eq.trans ap_sq (ap_cons _ (Eq.trans (ap_bl 6) (Eq.trans (ap_j (Eq.trans (ap_lp (C := (f17_C_l6 k R_l2)) (fun _ _ => rfl)) (ap_cons _ (ap_cons _ (ap_cons _ (ap_cons _ (ap_cons _ rfl))))))) (ap_cons _ (ap_cons _ (ap_cons _ (ap_cons _ rfl))))))))))))))))
noncomputable def f17_F_r24 (k : Nat) (G_l2 G_l4 G_l6 G_c25 : f17_S) : f17_L := .c (f17_p 16762163) 5 :: .j G_c25 :: f17_F_c25 k G_l2 G_l4 G_l6
theorem f17_f_r24 (k : Nat) (R_l4 R_l2 : f17_S) : f17_a k (f17_Q_r24 k R_l4 R_l2) = f17_a k (f17_F_r24 k R_l2 R_l4 (f17_C_l6 k R_l2 k) (f17_C_c25 k R_l4 R_l2)) := (ap_cons _ (Eq.trans (ap_pass (C := (f17_C_c25 k R_l4 R_l2)) (fun _ => rfl)) (ap_cons _ (f17_f_c25 k R_l4 R_l2))))
noncomputable def f17_F_l4 (k : Nat) (G_l2 G_l4 G_r24 G_l6 G_c25 : f17_S) : f17_L := .c (f17_p 523816) 4 :: .c (f17_p 1047634) 4 :: .j (fun σ => f17_a k (.c (f17_p 8381080) 5 :: .c (f17_p 16762162) 5 :: .j G_r24 :: f17_F_r24 k G_l2 G_l4 G_l6 G_c25) .nx σ) :: .c (f17_p 2095271) 4 :: .j (fun σ => G_l4 (cut f17_A.loops 4 σ)) :: .blk 4 :: .c (f17_p 65478) 3 :: .c (f17_p 130958) 3 :: .c (f17_p 261918) 3 :: .j (fun σ => f17_a k (.j (fun σ => G_l6 (cut f17_A.loops 6 σ)) :: .blk 6 :: .blk 3 :: .j (fun σ => G_l2 (cut f17_A.loops 2 σ)) :: .blk 2 :: []) .nx σ) :: .blk 3 :: .j (fun σ => G_l2 (cut f17_A.loops 2 σ)) :: .blk 2 :: []
theorem f17_f_l4 (k : Nat) (R_l2 R_l4 : f17_S) : f17_a k (f17_Q_l4 k R_l2 R_l4) = f17_a k (f17_F_l4 k R_l2 R_l4 (f17_C_r24 k R_l4 R_l2) (f17_C_l6 k R_l2 k) (f17_C_c25 k R_l4 R_l2)) := (Eq.trans ap_sq (ap_cons _ (Eq.trans ap_sq (ap_cons _ (Eq.trans ap_sq (Eq.trans (ap_bl 5) (Eq.trans (ap_j (Eq.trans ap_sq (ap_cons _ (Eq.trans ap_sq (ap_cons _ (Eq.trans (ap_pass (C := (f17_C_r24 k R_l4 R_l2)) (fun _ => rfl)) (ap_cons _ (f17_f_r24 k R_l4 R_l2)))))))) (ap_cons _ (ap_cons _ (ap_cons _ (ap_cons _ (Eq.trans ap_sq (ap_cons _ (Eq.trans ap_sq (ap_cons _ (Eq.trans ap_sq (ap_cons _ (Eq.trans (ap_bl 6) (Eq.trans (ap_j (Eq.trans (ap_lp (C := (f17_C_l6 k R_l2)) (fun _ _ => rfl)) (ap_cons _ (ap_cons _ (ap_cons _ (ap_cons _ (ap_cons _ rfl))))))) (ap_cons _ (ap_cons _ (ap_cons _ (ap_cons _ rfl)))))))))))))))))))))))
noncomputable def f17_F_c36 (k : Nat) (G_l2 G_l6 : f17_S) : f17_L := .blk 7 :: .c (f17_p 8381415) 6 :: .j (fun σ => G_l6 (cut f17_A.loops 6 σ)) :: .blk 6 :: .blk 3 :: .j (fun σ => G_l2 (cut f17_A.loops 2 σ)) :: .blk 2 :: []
theorem f17_f_c36 (k : Nat) (R_l6 R_l2 : f17_S) : f17_a k (f17_Q_c36 k R_l6 R_l2) = f17_a k (f17_F_c36 k R_l2 R_l6) := (ap_cons _ (ap_cons _ (ap_cons _ (ap_cons _ (ap_cons _ (ap_cons _ (ap_cons _ rfl)))))))
noncomputable def f17_F_r35 (k : Nat) (G_l2 G_l6 G_c36 : f17_S) : f17_L := .c (f17_p 268205263) 7 :: .j G_c36 :: f17_F_c36 k G_l2 G_l6
theorem f17_f_r35 (k : Nat) (R_l6 R_l2 : f17_S) : f17_a k (f17_Q_r35 k R_l6 R_l2) = f17_a k (f17_F_r35 k R_l2 R_l6 (f17_C_c36 k R_l6 R_l2)) := (ap_cons _ (Eq.trans (ap_pass (C := (f17_C_c36 k R_l6 R_l2)) (fun _ => rfl)) (ap_cons _ (f17_f_c36 k R_l6 R_l2))))
noncomputable def f17_F_l6 (k : Nat) (G_l2 G_l6 G_r35 G_c36 : f17_S) : f17_L := .c (f17_p 2095352) 6 :: .c (f17_p 4190706) 6 :: .j (fun σ => f17_a k (.c (f17_p 33525656) 7 :: .c (f17_p 67051314) 7 :: .c (f17_p 134102630) 7 :: .c (f17_p 268205262) 7 :: .j G_r35 :: f17_F_r35 k G_l2 G_l6 G_c36) .nx σ) :: .c (f17_p 8381415) 6 :: .j (fun σ => G_l6 (cut f17_A.loops 6 σ)) :: .blk 6 :: .blk 3 :: .j (fun σ => G_l2 (cut f17_A.loops 2 σ)) :: .blk 2 :: []
theorem f17_f_l6 (k : Nat) (R_l2 R_l6 : f17_S) : f17_a k (f17_Q_l6 k R_l2 R_l6) = f17_a k (f17_F_l6 k R_l2 R_l6 (f17_C_r35 k R_l6 R_l2) (f17_C_c36 k R_l6 R_l2)) := (Eq.trans ap_sq (ap_cons _ (Eq.trans ap_sq (ap_cons _ (Eq.trans ap_sq (Eq.trans (ap_bl 7) (Eq.trans (ap_j (Eq.trans ap_sq (ap_cons _ (Eq.trans ap_sq (ap_cons _ (Eq.trans ap_sq (ap_cons _ (Eq.trans ap_sq (ap_cons _ (Eq.trans (ap_pass (C := (f17_C_r35 k R_l6 R_l2)) (fun _ => rfl)) (ap_cons _ (f17_f_r35 k R_l6 R_l2)))))))))))) (ap_cons _ (ap_cons _ (ap_cons _ (ap_cons _ (ap_cons _ (ap_cons _ (ap_cons _ rfl))))))))))))))
def f17_entry_B (k : Nat) (g_l0 : f17_t_l0) (a0 : Td12) (a1 : (List Td4)) (a2 : Int) (a3 : Int) : Option ((List Int) × Int × Unit) := ((f71 k (a0.1, (a0.2.1, a0.2.2))).bind fun r1 => (if ¬ (r1.1 = 0) then some ([], r1.1, ()) else (if 0 < (a0.2.2.length : Int) then some ([], 19, ()) else (if ¬ ((a1.length : Int) = (a0.2.1.length : Int)) then some ([], 3, ()) else (g_l0 a0.1 a0.2.1 a0.2.2 a1 a2 a3 (a1.length : Int) 0)))))
def f17_l0_B (k : Nat) (g_l0 : f17_t_l0) (g_r15 : f17_t_r15) (y4_0 : (List (Int × Int))) (y4_1 : (List (Int × (Int × (Int × Int))))) (y4_2 : (List (Int × Int))) (x1 : (List (List (Int × Int)))) (x2 : Int) (x3 : Int) (x40 : Int) (x41 : Int) : Option ((List Int) × Int × Unit) := (if x41 < x40 then (if 0 ≤ x41 then (if x41 < (x1.length : Int) then ((f72 k (x1.getD (x41).toNat [])).bind fun r1 => (if ¬ (r1.1 = 0) then some ([], r1.1, ()) else (g_l0 y4_0 y4_1 y4_2 x1 x2 x3 x40 (w64 (x41 + 1))))) else none) else none) else (if x2 < 0 then (g_r15 y4_0 y4_1 y4_2 x1 x2 x3 true) else (if (y4_0.length : Int) ≤ x2 then (g_r15 y4_0 y4_1 y4_2 x1 x2 x3 true) else (if x3 < 0 then (g_r15 y4_0 y4_1 y4_2 x1 x2 x3 true) else (g_r15 y4_0 y4_1 y4_2 x1 x2 x3 (decide (1073741824 < x3)))))))
def f17_r15_B (k : Nat) (g_l2 : f17_t_l2) (y4_0 : (List (Int × Int))) (y4_1 : (List (Int × (Int × (Int × Int))))) (y4_2 : (List (Int × Int))) (x1 : (List (List (Int × Int)))) (x2 : Int) (x3 : Int) (x67 : Bool) : Option ((List Int) × Int × Unit) := (if x67 = true then some ([], 1, ()) else ((f69 k ([(-1)]) (y4_0.length : Int)).bind fun r1 => (if 0 ≤ (y4_0.length : Int) then (if (y4_0.length : Int) ≤ 1073741824 then (if 0 ≤ x2 then (if x2 < (r1.1.length : Int) then (g_l2 y4_0 y4_1 y4_2 (r1.1.set ((x2).toNat) x3) (List.replicate ((y4_0.length : Int)).toNat (false : Bool)) x1) else none) else none) else none) else none)))
def f17_l2_B (k : Nat) (g_l4 : f17_t_l4) (y4_0 : (List (Int × Int))) (y4_1 : (List (Int × (Int × (Int × Int))))) (y4_2 : (List (Int × Int))) (y72 : (List Int)) (y76 : (List Bool)) (x1 : (List (List (Int × Int)))) : Option ((List Int) × Int × Unit) := (g_l4 y4_0 y4_1 y4_2 y72 y76 x1 (-1) (y72.length : Int) 0)
def f17_l4_B (k : Nat) (g_r24 : f17_t_r24) (g_l6 : f17_t_l6) (y4_0 : (List (Int × Int))) (y4_1 : (List (Int × (Int × (Int × Int))))) (y4_2 : (List (Int × Int))) (y72 : (List Int)) (y76 : (List Bool)) (x1 : (List (List (Int × Int)))) (x16 : Int) (x82 : Int) (x83 : Int) : Option ((List Int) × Int × Unit) := (if x83 < x82 then (if 0 ≤ x83 then (if x83 < (y72.length : Int) then (if 0 ≤ (y72.getD ((x83).toNat) 0) then (if 0 ≤ x83 then (if x83 < (y76.length : Int) then (if ¬ ((y76.getD ((x83).toNat) false) = true) then (if x16 < 0 then (g_r24 y4_0 y4_1 y4_2 y72 y76 x1 true x16 x83 x82) else (if 0 ≤ x16 then (if x16 < (y72.length : Int) then (g_r24 y4_0 y4_1 y4_2 y72 y76 x1 (decide ((y72.getD ((x83).toNat) 0) < (y72.getD ((x16).toNat) 0))) x16 x83 x82) else none) else none)) else (g_r24 y4_0 y4_1 y4_2 y72 y76 x1 false x16 x83 x82)) else none) else none) else (g_r24 y4_0 y4_1 y4_2 y72 y76 x1 false x16 x83 x82)) else none) else none) else (if x16 < 0 then some (y72, 0, ()) else (if 0 ≤ x16 then (if x16 < (y76.length : Int) then ((f73 k (y4_0, (y4_1, y4_2)) x16).bind fun r1 => (g_l6 r1.1 y4_0 y4_1 y4_2 y72 (y76.set ((x16).toNat) true) x1 (r1.1.length : Int) 0 x16)) else none) else none)))
def f17_r24_B (k : Nat) (g_c25 : f17_t_c25) (y4_0 : (List (Int × Int))) (y4_1 : (List (Int × (Int × (Int × Int))))) (y4_2 : (List (Int × Int))) (y72 : (List Int)) (y76 : (List Bool)) (x1 : (List (List (Int × Int)))) (x108 : Bool) (x16 : Int) (x17 : Int) (x82 : Int) : Option ((List Int) × Int × Unit) := (if x108 = true then (g_c25 y4_0 y4_1 y4_2 y72 y76 x1 x17 x82 x17) else (g_c25 y4_0 y4_1 y4_2 y72 y76 x1 x16 x82 x17))
def f17_l6_B (k : Nat) (g_l2 : f17_t_l2) (g_r35 : f17_t_r35) (y119 : (List Int)) (y4_0 : (List (Int × Int))) (y4_1 : (List (Int × (Int × (Int × Int))))) (y4_2 : (List (Int × Int))) (y72 : (List Int)) (y76 : (List Bool)) (x1 : (List (List (Int × Int)))) (x120 : Int) (x121 : Int) (x16 : Int) : Option ((List Int) × Int × Unit) := (if x121 < x120 then (if 0 ≤ x121 then (if x121 < (y119.length : Int) then (if 0 ≤ (y119.getD ((x121).toNat) 0) then (if (y119.getD ((x121).toNat) 0) < (x1.length : Int) then (if 0 ≤ x16 then (if x16 < (y72.length : Int) then ((f74 k (x1.getD ((y119.getD ((x121).toNat) 0)).toNat []) (y72.getD ((x16).toNat) 0)).bind fun r1 => (if 0 ≤ (y119.getD ((x121).toNat) 0) then (if (y119.getD ((x121).toNat) 0) < (y4_1.length : Int) then (if r1.2.1 = 0 then (if 0 ≤ (((y4_1.getD ((y119.getD ((x121).toNat) 0)).toNat (0, (0, (0, 0)))).2).1) then (if (((y4_1.getD ((y119.getD ((x121).toNat) 0)).toNat (0, (0, (0, 0)))).2).1) < (y72.length : Int) then (if (y72.getD ((((y4_1.getD ((y119.getD ((x121).toNat) 0)).toNat (0, (0, (0, 0)))).2).1).toNat) 0) < 0 then (g_r35 y119 y4_0 y4_1 y4_2 y72 y76 x1 x120 x121 true x16 r1.1 (((y4_1.getD ((y119.getD ((x121).toNat) 0)).toNat (0, (0, (0, 0)))).2).1)) else (if 0 ≤ (((y4_1.getD ((y119.getD ((x121).toNat) 0)).toNat (0, (0, (0, 0)))).2).1) then (if (((y4_1.getD ((y119.getD ((x121).toNat) 0)).toNat (0, (0, (0, 0)))).2).1) < (y72.length : Int) then (g_r35 y119 y4_0 y4_1 y4_2 y72 y76 x1 x120 x121 (decide (r1.1 < (y72.getD ((((y4_1.getD ((y119.getD ((x121).toNat) 0)).toNat (0, (0, (0, 0)))).2).1).toNat) 0))) x16 r1.1 (((y4_1.getD ((y119.getD ((x121).toNat) 0)).toNat (0, (0, (0, 0)))).2).1)) else none) else none)) else none) else none) else (g_r35 y119 y4_0 y4_1 y4_2 y72 y76 x1 x120 x121 false x16 r1.1 (((y4_1.getD ((y119.getD ((x121).toNat) 0)).toNat (0, (0, (0, 0)))).2).1))) else none) else none)) else none) else none) else none) else none) else none) else none) else (g_l2 y4_0 y4_1 y4_2 y72 y76 x1))
def f17_c25_B (k : Nat) (g_l4 : f17_t_l4) (y4_0 : (List (Int × Int))) (y4_1 : (List (Int × (Int × (Int × Int))))) (y4_2 : (List (Int × Int))) (y72 : (List Int)) (y76 : (List Bool)) (x1 : (List (List (Int × Int)))) (x16 : Int) (x82 : Int) (x83 : Int) : Option ((List Int) × Int × Unit) := (g_l4 y4_0 y4_1 y4_2 y72 y76 x1 x16 x82 (w64 (x83 + 1)))
def f17_r35_B (k : Nat) (g_c36 : f17_t_c36) (y119 : (List Int)) (y4_0 : (List (Int × Int))) (y4_1 : (List (Int × (Int × (Int × Int))))) (y4_2 : (List (Int × Int))) (y72 : (List Int)) (y76 : (List Bool)) (x1 : (List (List (Int × Int)))) (x120 : Int) (x121 : Int) (x159 : Bool) (x16 : Int) (x21 : Int) (x23 : Int) : Option ((List Int) × Int × Unit) := (if x159 = true then (if 0 ≤ x23 then (if x23 < (y72.length : Int) then (g_c36 y119 y4_0 y4_1 y4_2 (y72.set ((x23).toNat) x21) y76 x1 x120 x121 x16) else none) else none) else (g_c36 y119 y4_0 y4_1 y4_2 y72 y76 x1 x120 x121 x16))
def f17_c36_B (k : Nat) (g_l6 : f17_t_l6) (y119 : (List Int)) (y4_0 : (List (Int × Int))) (y4_1 : (List (Int × (Int × (Int × Int))))) (y4_2 : (List (Int × Int))) (y72 : (List Int)) (y76 : (List Bool)) (x1 : (List (List (Int × Int)))) (x120 : Int) (x121 : Int) (x16 : Int) : Option ((List Int) × Int × Unit) := (g_l6 y119 y4_0 y4_1 y4_2 y72 y76 x1 x120 (w64 (x121 + 1)) x16)
theorem f17_c25_P (k : Nat) (G_l2 G_l4 G_l6 : f17_S) : f17_o_c25 (fun σ => f17_a k (f17_F_c25 k G_l2 G_l4 G_l6) .nx σ) = f17_c25_B k (f17_o_l4 G_l4) := by kernel_rfl
def f17_c25 (k : Nat) (r_l4 : f17_t_l4) (r_l2 : f17_t_l2) : f17_t_c25 := f17_c25_B k r_l4
theorem f17_c25_E (k : Nat) (R_l4 R_l2 : f17_S) : f17_o_c25 (f17_C_c25 k R_l4 R_l2) = f17_c25 k (f17_o_l4 R_l4) (f17_o_l2 R_l2) :=
  Eq.trans (congrArg f17_o_c25 (ap_fn (f17_f_c25 k R_l4 R_l2))) ((f17_c25_P k R_l2 R_l4 (f17_C_l6 k R_l2 k)).trans (by rfl))
theorem f17_r24_P (k : Nat) (G_l2 G_l4 G_l6 G_c25 : f17_S) : f17_o_r24 (fun σ => f17_a k (f17_F_r24 k G_l2 G_l4 G_l6 G_c25) .nx σ) = f17_r24_B k (f17_o_c25 G_c25) := by kernel_rfl
def f17_r24 (k : Nat) (r_l4 : f17_t_l4) (r_l2 : f17_t_l2) : f17_t_r24 := f17_r24_B k (f17_c25 k r_l4 r_l2)
theorem f17_r24_E (k : Nat) (R_l4 R_l2 : f17_S) : f17_o_r24 (f17_C_r24 k R_l4 R_l2) = f17_r24 k (f17_o_l4 R_l4) (f17_o_l2 R_l2) :=
  Eq.trans (congrArg f17_o_r24 (ap_fn (f17_f_r24 k R_l4 R_l2))) ((f17_r24_P k R_l2 R_l4 (f17_C_l6 k R_l2 k) (f17_C_c25 k R_l4 R_l2)).trans (by rw [f17_c25_E k R_l4 R_l2] <;> rfl))
theorem f17_c36_P (k : Nat) (G_l2 G_l6 : f17_S) : f17_o_c36 (fun σ => f17_a k (f17_F_c36 k G_l2 G_l6) .nx σ) = f17_c36_B k (f17_o_l6 G_l6) := by kernel_rfl
def f17_c36 (k : Nat) (r_l6 : f17_t_l6) (r_l2 : f17_t_l2) : f17_t_c36 := f17_c36_B k r_l6
theorem f17_c36_E (k : Nat) (R_l6 R_l2 : f17_S) : f17_o_c36 (f17_C_c36 k R_l6 R_l2) = f17_c36 k (f17_o_l6 R_l6) (f17_o_l2 R_l2) :=
  Eq.trans (congrArg f17_o_c36 (ap_fn (f17_f_c36 k R_l6 R_l2))) ((f17_c36_P k R_l2 R_l6).trans (by rfl))
theorem f17_r35_P (k : Nat) (G_l2 G_l6 G_c36 : f17_S) : f17_o_r35 (fun σ => f17_a k (f17_F_r35 k G_l2 G_l6 G_c36) .nx σ) = f17_r35_B k (f17_o_c36 G_c36) := by kernel_rfl
def f17_r35 (k : Nat) (r_l6 : f17_t_l6) (r_l2 : f17_t_l2) : f17_t_r35 := f17_r35_B k (f17_c36 k r_l6 r_l2)
theorem f17_r35_E (k : Nat) (R_l6 R_l2 : f17_S) : f17_o_r35 (f17_C_r35 k R_l6 R_l2) = f17_r35 k (f17_o_l6 R_l6) (f17_o_l2 R_l2) :=
  Eq.trans (congrArg f17_o_r35 (ap_fn (f17_f_r35 k R_l6 R_l2))) ((f17_r35_P k R_l2 R_l6 (f17_C_c36 k R_l6 R_l2)).trans (by rw [f17_c36_E k R_l6 R_l2] <;> rfl))
theorem f17_l6_P (k : Nat) (G_l2 G_l6 G_r35 G_c36 : f17_S) : f17_o_l6 (fun σ => f17_a k (f17_F_l6 k G_l2 G_l6 G_r35 G_c36) .nx σ) = f17_l6_B k (f17_o_l2 G_l2) (f17_o_r35 G_r35) := by kernel_rfl
def f17_l6 (k : Nat) (r_l2 : f17_t_l2) : Nat → f17_t_l6
  | 0 => fun _ _ _ _ _ _ _ _ _ _ => none
  | n + 1 => f17_l6_B k r_l2 (f17_r35 k (f17_l6 k r_l2 n) r_l2)
theorem f17_l6_E (k : Nat) (R_l2 : f17_S) : ∀ n, f17_o_l6 (f17_C_l6 k R_l2 n) = f17_l6 k (f17_o_l2 R_l2) n
  | 0 => rfl
  | n + 1 =>
    Eq.trans (congrArg f17_o_l6 (Eq.trans (b := fun σ => f17_a k (f17_Q_l6 k R_l2 (f17_C_l6 k R_l2 n)) .nx σ) (by kernel_rfl) (ap_fn (f17_f_l6 k R_l2 (f17_C_l6 k R_l2 n))))) ((f17_l6_P k R_l2 (f17_C_l6 k R_l2 n) (f17_C_r35 k (f17_C_l6 k R_l2 n) R_l2) (f17_C_c36 k (f17_C_l6 k R_l2 n) R_l2)).trans (by rw [f17_r35_E k (f17_C_l6 k R_l2 n) R_l2, f17_l6_E k R_l2 n] <;> rfl))
theorem f17_l4_P (k : Nat) (G_l2 G_l4 G_r24 G_l6 G_c25 : f17_S) : f17_o_l4 (fun σ => f17_a k (f17_F_l4 k G_l2 G_l4 G_r24 G_l6 G_c25) .nx σ) = f17_l4_B k (f17_o_r24 G_r24) (f17_o_l6 G_l6) := by kernel_rfl
def f17_l4 (k : Nat) (r_l2 : f17_t_l2) : Nat → f17_t_l4
  | 0 => fun _ _ _ _ _ _ _ _ _ => none
  | n + 1 => f17_l4_B k (f17_r24 k (f17_l4 k r_l2 n) r_l2) (f17_l6 k r_l2 k)
theorem f17_l4_E (k : Nat) (R_l2 : f17_S) : ∀ n, f17_o_l4 (f17_C_l4 k R_l2 n) = f17_l4 k (f17_o_l2 R_l2) n
  | 0 => rfl
  | n + 1 =>
    Eq.trans (congrArg f17_o_l4 (Eq.trans (b := fun σ => f17_a k (f17_Q_l4 k R_l2 (f17_C_l4 k R_l2 n)) .nx σ) (by kernel_rfl) (ap_fn (f17_f_l4 k R_l2 (f17_C_l4 k R_l2 n))))) ((f17_l4_P k R_l2 (f17_C_l4 k R_l2 n) (f17_C_r24 k (f17_C_l4 k R_l2 n) R_l2) (f17_C_l6 k R_l2 k) (f17_C_c25 k (f17_C_l4 k R_l2 n) R_l2)).trans (by rw [f17_r24_E k (f17_C_l4 k R_l2 n) R_l2, f17_l6_E k R_l2 k, f17_l4_E k R_l2 n] <;> rfl))
theorem f17_l2_P (k : Nat) (G_l2 G_l4 G_l6 : f17_S) : f17_o_l2 (fun σ => f17_a k (f17_F_l2 k G_l2 G_l4 G_l6) .nx σ) = f17_l2_B k (f17_o_l4 G_l4) := by kernel_rfl
def f17_l2 (k : Nat) : Nat → f17_t_l2
  | 0 => fun _ _ _ _ _ _ => none
  | n + 1 => f17_l2_B k (f17_l4 k (f17_l2 k n) k)
theorem f17_l2_E (k : Nat) : ∀ n, f17_o_l2 (f17_C_l2 k n) = f17_l2 k n
  | 0 => rfl
  | n + 1 =>
    Eq.trans (congrArg f17_o_l2 (Eq.trans (b := fun σ => f17_a k (f17_Q_l2 k (f17_C_l2 k n)) .nx σ) (by kernel_rfl) (ap_fn (f17_f_l2 k (f17_C_l2 k n))))) ((f17_l2_P k (f17_C_l2 k n) (f17_C_l4 k (f17_C_l2 k n) k) (f17_C_l6 k (f17_C_l2 k n) k)).trans (by rw [f17_l4_E k (f17_C_l2 k n) k, f17_l2_E k n] <;> rfl))
theorem f17_r15_P (k : Nat) (G_l2 : f17_S) : f17_o_r15 (fun σ => f17_a k (f17_F_r15 k G_l2) .nx σ) = f17_r15_B k (f17_o_l2 G_l2) := by kernel_rfl
def f17_r15 (k : Nat) : f17_t_r15 := f17_r15_B k (f17_l2 k k)
theorem f17_r15_E (k : Nat) : f17_o_r15 (f17_C_r15 k) = f17_r15 k :=
  Eq.trans (congrArg f17_o_r15 (ap_fn (f17_f_r15 k))) ((f17_r15_P k (f17_C_l2 k k)).trans (by rw [f17_l2_E k k] <;> rfl))
theorem f17_l0_P (k : Nat) (G_l0 G_r15 G_l2 : f17_S) : f17_o_l0 (fun σ => f17_a k (f17_F_l0 k G_l0 G_r15 G_l2) .nx σ) = f17_l0_B k (f17_o_l0 G_l0) (f17_o_r15 G_r15) := by kernel_rfl
def f17_l0 (k : Nat) : Nat → f17_t_l0
  | 0 => fun _ _ _ _ _ _ _ _ => none
  | n + 1 => f17_l0_B k (f17_l0 k n) (f17_r15 k)
theorem f17_l0_E (k : Nat) : ∀ n, f17_o_l0 (f17_C_l0 k n) = f17_l0 k n
  | 0 => rfl
  | n + 1 =>
    Eq.trans (congrArg f17_o_l0 (Eq.trans (b := fun σ => f17_a k (f17_Q_l0 k (f17_C_l0 k n)) .nx σ) (by kernel_rfl) (ap_fn (f17_f_l0 k (f17_C_l0 k n))))) ((f17_l0_P k (f17_C_l0 k n) (f17_C_r15 k) (f17_C_l2 k k)).trans (by rw [f17_r15_E k, f17_l0_E k n] <;> rfl))
theorem f17_entry_P (k : Nat) (G_l0 G_r15 G_l2 : f17_S) (xs : DL f17_sig) : f17_a k (.c (f17_p 2) 0 :: .c (f17_p 6) 0 :: .c (f17_p 14) 0 :: .c (f17_p 30) 0 :: .c (f17_p 124) 0 :: .j (fun σ => f17_a k (.j (fun σ => G_l0 (cut f17_A.loops 0 σ)) :: .blk 0 :: .c (f17_p 252) 0 :: .j G_r15 :: f17_F_r15 k G_l2) .nx σ) :: .c (f17_p 252) 0 :: .j G_r15 :: f17_F_r15 k G_l2) .nx (σ0 165 496 f17_sig xs) = f17_entry_B k (f17_o_l0 G_l0) xs.1 xs.2.1 xs.2.2.1 xs.2.2.2.1 := by kernel_rfl
def f17 (k : Nat) (a0 : Td12) (a1 : (List Td4)) (a2 : Int) (a3 : Int) : Option ((List Int) × Int × Unit) := f17_entry_B k (f17_l0 k k) a0 a1 a2 a3
theorem f17_fe (k : Nat) : f17_a k [.c (f17_p 1) 0] = f17_a k (.c (f17_p 2) 0 :: .c (f17_p 6) 0 :: .c (f17_p 14) 0 :: .c (f17_p 30) 0 :: .c (f17_p 124) 0 :: .j (fun σ => f17_a k (.j (fun σ => (f17_C_l0 k k) (cut f17_A.loops 0 σ)) :: .blk 0 :: .c (f17_p 252) 0 :: .j (f17_C_r15 k) :: f17_F_r15 k (f17_C_l2 k k)) .nx σ) :: .c (f17_p 252) 0 :: .j (f17_C_r15 k) :: f17_F_r15 k (f17_C_l2 k k)) := (Eq.trans ap_sq (ap_cons _ (Eq.trans ap_sq (ap_cons _ (Eq.trans ap_sq (ap_cons _ (Eq.trans ap_sq (ap_cons _ (Eq.trans ap_sq (Eq.trans ap_sq (ap_cons _ (Eq.trans (ap_bl 0) (Eq.trans (ap_j (Eq.trans (ap_lp (C := (f17_C_l0 k)) (fun _ _ => rfl)) (ap_cons _ (ap_cons _ (Eq.trans ap_sq (Eq.trans ap_sq (ap_cons _ (Eq.trans (ap_pass (C := (f17_C_r15 k)) (fun _ => rfl)) (ap_cons _ (f17_f_r15 k)))))))))) (ap_cons _ (Eq.trans ap_sq (Eq.trans ap_sq (ap_cons _ (Eq.trans (ap_pass (C := (f17_C_r15 k)) (fun _ => rfl)) (ap_cons _ (f17_f_r15 k))))))))))))))))))))
theorem f17_eq (k : Nat) (xs : DL f17_sig) : den T f17_Y (f17_E k) f17_A k f17_c 0 (σ0 165 496 f17_sig xs) (Kfin T f17_rs f17_ts) = f17 k xs.1 xs.2.1 xs.2.2.1 xs.2.2.2.1 :=
  Eq.trans (Eq.trans den_sb (ap_at (f17_fe k) _)) ((f17_entry_P k (f17_C_l0 k k) (f17_C_r15 k) (f17_C_l2 k k) xs).trans (by rw [f17_l0_E k k] <;> rfl))
noncomputable def f17_con (k : Nat) : Con := ⟨f17_sig, f17_rs, fun xs => f17 k xs.1 xs.2.1 xs.2.2.1 xs.2.2.2.1⟩
theorem f17_ok (k : Nat) : PureOK Try.prog 17 f17_sig f17_rs (fun xs => f17 k xs.1 xs.2.1 xs.2.2.1 xs.2.2.2.1) :=
  (pure_of_den (k := k) (A := f17_A) (T := T) (Y := f17_Y) (E := f17_E k) (M := 496) (ts := f17_ts) T_ok ⟨f69_ok k, f71_ok k, f72_ok k, f73_ok k, f74_ok k, trivial⟩ ⟨f69_ent, f71_ent, f72_ent, f73_ent, f74_ent, trivial⟩ mixed (f := 17) (fn := Try.f17) (c := f17_c) (by kernel_rfl) (by kernel_rfl) (by kernel_rfl) (by decide) (by kernel_rfl)).congr fun xs => (f17_eq k xs).symm
theorem f17_ent : Ent Try.prog 17 := fun args w => by kernel_rfl
/-! ### terrier/route.valid: function 88 -/
noncomputable def f88_c : Code := Try.f88.body.getD .skip
noncomputable abbrev f88_p (n : Nat) : Code := sb f88_c n
abbrev f88_sig : List PT := [(true, Tq9), (false, Tq1)]
abbrev f88_rs : List RT := [.d false (.int .i64)]
abbrev f88_ts : List RV := [.tmp 4]
abbrev f88_S := St → Option (RDL f88_rs)
abbrev f88_L := List (Fr (RDL f88_rs))
def f88_Y : Tys := []
noncomputable def f88_E (k : Nat) : Env := [(71, .c (f71_con k))]
def f88_A : Ann := { loops := [(0, { slots := [(2, .id), (13, .val false (.int .i64)), (14, .id), (15, .id)], keys := [(2, [.val false Tq2, .val false Tq6, .val false Tq2])] })], regs := [(7, { slots := [(2, .id), (13, .val false (.int .i64)), (14, .id), (15, .id), (27, .bool)], keys := [(2, [.val false Tq2, .val false Tq6, .val false Tq2])] })] }
noncomputable abbrev f88_a (k : Nat) (F : f88_L) : Kont (RDL f88_rs) := ap T f88_Y (f88_E k) f88_A k (Kfin T f88_rs f88_ts) F
def f88_s_l0 (y2_0 : (List (Int × Int))) (y2_1 : (List (Int × (Int × (Int × Int))))) (y2_2 : (List (Int × Int))) (x13 : (List Int)) (x14 : Int) (x15 : Int) : St := mkS 29 96 [(2, aP 2), (13, aV (.int .i64) x13), (14, aI x14), (15, aI x15)] [(2, .box [cV Tq2 y2_0, cV Tq6 y2_1, cV Tq2 y2_2])]
abbrev f88_t_l0 := (List (Int × Int)) → (List (Int × (Int × (Int × Int)))) → (List (Int × Int)) → (List Int) → Int → Int → Option (Int × Unit)
abbrev f88_o_l0 (R : f88_S) : f88_t_l0 := (fun y2_0 y2_1 y2_2 x13 x14 x15 => R (f88_s_l0 y2_0 y2_1 y2_2 x13 x14 x15))
noncomputable def f88_Q_l0 (k : Nat) (R_l0 : f88_S) : f88_L := [.c (f88_p 116) 0, .j (fun σ => R_l0 (cut f88_A.loops 0 σ)), .blk 0, .c (f88_p 15) 0]
noncomputable def f88_C_l0 (k : Nat) (n : Nat) (σ : St) : Option (RDL f88_rs) := loopK (fun σ K => den T f88_Y (f88_E k) f88_A k (f88_p 116) 0 σ K) (cut f88_A.loops 0) (f88_a k [.blk 0, .c (f88_p 15) 0]) n σ
def f88_s_r7 (y2_0 : (List (Int × Int))) (y2_1 : (List (Int × (Int × (Int × Int))))) (y2_2 : (List (Int × Int))) (x13 : (List Int)) (x14 : Int) (x15 : Int) (x27 : Bool) : St := mkS 29 96 [(2, aP 2), (13, aV (.int .i64) x13), (14, aI x14), (15, aI x15), (27, aB x27)] [(2, .box [cV Tq2 y2_0, cV Tq6 y2_1, cV Tq2 y2_2])]
abbrev f88_t_r7 := (List (Int × Int)) → (List (Int × (Int × (Int × Int)))) → (List (Int × Int)) → (List Int) → Int → Int → Bool → Option (Int × Unit)
abbrev f88_o_r7 (R : f88_S) : f88_t_r7 := (fun y2_0 y2_1 y2_2 x13 x14 x15 x27 => R (f88_s_r7 y2_0 y2_1 y2_2 x13 x14 x15 x27))
noncomputable def f88_Q_r7 (k : Nat) (R_l0 : f88_S) : f88_L := [.c (f88_p 7475) 1, .blk 1, .c (f88_p 935) 0, .j (fun σ => R_l0 (cut f88_A.loops 0 σ)), .blk 0, .c (f88_p 15) 0]
noncomputable def f88_C_r7 (k : Nat) (R_l0 : f88_S) : f88_S := fun σ => f88_a k (f88_Q_r7 k R_l0) .nx σ
noncomputable def f88_F_r7 (k : Nat) (G_l0 : f88_S) : f88_L := .c (f88_p 7475) 1 :: .blk 1 :: .c (f88_p 935) 0 :: .j (fun σ => G_l0 (cut f88_A.loops 0 σ)) :: .blk 0 :: .c (f88_p 15) 0 :: []
theorem f88_f_r7 (k : Nat) (R_l0 : f88_S) : f88_a k (f88_Q_r7 k R_l0) = f88_a k (f88_F_r7 k R_l0) := (ap_cons _ (ap_cons _ (ap_cons _ (ap_cons _ (ap_cons _ (ap_cons _ rfl))))))
noncomputable def f88_F_l0 (k : Nat) (G_l0 G_r7 : f88_S) : f88_L := .c (f88_p 232) 0 :: .c (f88_p 466) 0 :: .j (fun σ => f88_a k (.c (f88_p 3736) 1 :: .c (f88_p 7474) 1 :: .j G_r7 :: f88_F_r7 k G_l0) .nx σ) :: .c (f88_p 935) 0 :: .j (fun σ => G_l0 (cut f88_A.loops 0 σ)) :: .blk 0 :: .c (f88_p 15) 0 :: []
theorem f88_f_l0 (k : Nat) (R_l0 : f88_S) : f88_a k (f88_Q_l0 k R_l0) = f88_a k (f88_F_l0 k R_l0 (f88_C_r7 k R_l0)) := (Eq.trans ap_sq (ap_cons _ (Eq.trans ap_sq (ap_cons _ (Eq.trans ap_sq (Eq.trans (ap_bl 1) (Eq.trans (ap_j (Eq.trans ap_sq (ap_cons _ (Eq.trans ap_sq (ap_cons _ (Eq.trans (ap_pass (C := (f88_C_r7 k R_l0)) (fun _ => rfl)) (ap_cons _ (f88_f_r7 k R_l0)))))))) (ap_cons _ (ap_cons _ (ap_cons _ (ap_cons _ (ap_cons _ rfl))))))))))))
def f88_entry_B (k : Nat) (g_l0 : f88_t_l0) (a0 : Td12) (a1 : (List Int)) : Option (Int × Unit) := ((f71 k (a0.1, (a0.2.1, a0.2.2))).bind fun r1 => (if ¬ (r1.1 = 0) then some (r1.1, ()) else (g_l0 a0.1 a0.2.1 a0.2.2 a1 (a1.length : Int) 0)))
def f88_l0_B (k : Nat) (g_r7 : f88_t_r7) (y2_0 : (List (Int × Int))) (y2_1 : (List (Int × (Int × (Int × Int))))) (y2_2 : (List (Int × Int))) (x13 : (List Int)) (x14 : Int) (x15 : Int) : Option (Int × Unit) := (if x15 < x14 then (if 0 ≤ x15 then (if x15 < (x13.length : Int) then (if (x13.getD (x15).toNat 0) < 0 then (g_r7 y2_0 y2_1 y2_2 x13 x14 x15 true) else (g_r7 y2_0 y2_1 y2_2 x13 x14 x15 (decide ((y2_0.length : Int) ≤ (x13.getD (x15).toNat 0))))) else none) else none) else some (0, ()))
def f88_r7_B (k : Nat) (g_l0 : f88_t_l0) (y2_0 : (List (Int × Int))) (y2_1 : (List (Int × (Int × (Int × Int))))) (y2_2 : (List (Int × Int))) (x13 : (List Int)) (x14 : Int) (x15 : Int) (x27 : Bool) : Option (Int × Unit) := (if x27 = true then some (1, ()) else (g_l0 y2_0 y2_1 y2_2 x13 x14 (w64 (x15 + 1))))
theorem f88_r7_P (k : Nat) (G_l0 : f88_S) : f88_o_r7 (fun σ => f88_a k (f88_F_r7 k G_l0) .nx σ) = f88_r7_B k (f88_o_l0 G_l0) := by kernel_rfl
def f88_r7 (k : Nat) (r_l0 : f88_t_l0) : f88_t_r7 := f88_r7_B k r_l0
theorem f88_r7_E (k : Nat) (R_l0 : f88_S) : f88_o_r7 (f88_C_r7 k R_l0) = f88_r7 k (f88_o_l0 R_l0) :=
  Eq.trans (congrArg f88_o_r7 (ap_fn (f88_f_r7 k R_l0))) ((f88_r7_P k R_l0).trans (by rfl))
theorem f88_l0_P (k : Nat) (G_l0 G_r7 : f88_S) : f88_o_l0 (fun σ => f88_a k (f88_F_l0 k G_l0 G_r7) .nx σ) = f88_l0_B k (f88_o_r7 G_r7) := by kernel_rfl
def f88_l0 (k : Nat) : Nat → f88_t_l0
  | 0 => fun _ _ _ _ _ _ => none
  | n + 1 => f88_l0_B k (f88_r7 k (f88_l0 k n))
theorem f88_l0_E (k : Nat) : ∀ n, f88_o_l0 (f88_C_l0 k n) = f88_l0 k n
  | 0 => rfl
  | n + 1 =>
    Eq.trans (congrArg f88_o_l0 (Eq.trans (b := fun σ => f88_a k (f88_Q_l0 k (f88_C_l0 k n)) .nx σ) (by kernel_rfl) (ap_fn (f88_f_l0 k (f88_C_l0 k n))))) ((f88_l0_P k (f88_C_l0 k n) (f88_C_r7 k (f88_C_l0 k n))).trans (by rw [f88_r7_E k (f88_C_l0 k n), f88_l0_E k n] <;> rfl))
theorem f88_entry_P (k : Nat) (G_l0 : f88_S) (xs : DL f88_sig) : f88_a k (.c (f88_p 2) 0 :: .c (f88_p 6) 0 :: .c (f88_p 28) 0 :: .j (fun σ => f88_a k (.j (fun σ => G_l0 (cut f88_A.loops 0 σ)) :: .blk 0 :: .c (f88_p 15) 0 :: []) .nx σ) :: .c (f88_p 15) 0 :: []) .nx (σ0 29 96 f88_sig xs) = f88_entry_B k (f88_o_l0 G_l0) xs.1 xs.2.1 := by kernel_rfl
def f88 (k : Nat) (a0 : Td12) (a1 : (List Int)) : Option (Int × Unit) := f88_entry_B k (f88_l0 k k) a0 a1
theorem f88_fe (k : Nat) : f88_a k [.c (f88_p 1) 0] = f88_a k (.c (f88_p 2) 0 :: .c (f88_p 6) 0 :: .c (f88_p 28) 0 :: .j (fun σ => f88_a k (.j (fun σ => (f88_C_l0 k k) (cut f88_A.loops 0 σ)) :: .blk 0 :: .c (f88_p 15) 0 :: []) .nx σ) :: .c (f88_p 15) 0 :: []) := (Eq.trans ap_sq (ap_cons _ (Eq.trans ap_sq (ap_cons _ (Eq.trans ap_sq (Eq.trans ap_sq (ap_cons _ (Eq.trans (ap_bl 0) (Eq.trans (ap_j (Eq.trans (ap_lp (C := (f88_C_l0 k)) (fun _ _ => rfl)) (ap_cons _ (ap_cons _ (ap_cons _ rfl))))) (ap_cons _ (ap_cons _ rfl)))))))))))
theorem f88_eq (k : Nat) (xs : DL f88_sig) : den T f88_Y (f88_E k) f88_A k f88_c 0 (σ0 29 96 f88_sig xs) (Kfin T f88_rs f88_ts) = f88 k xs.1 xs.2.1 :=
  Eq.trans (Eq.trans den_sb (ap_at (f88_fe k) _)) ((f88_entry_P k (f88_C_l0 k k) xs).trans (by rw [f88_l0_E k k] <;> rfl))
noncomputable def f88_con (k : Nat) : Con := ⟨f88_sig, f88_rs, fun xs => f88 k xs.1 xs.2.1⟩
theorem f88_ok (k : Nat) : PureOK Try.prog 88 f88_sig f88_rs (fun xs => f88 k xs.1 xs.2.1) :=
  (pure_of_den (k := k) (A := f88_A) (T := T) (Y := f88_Y) (E := f88_E k) (M := 96) (ts := f88_ts) T_ok ⟨f71_ok k, trivial⟩ ⟨f71_ent, trivial⟩ mixed (f := 88) (fn := Try.f88) (c := f88_c) (by kernel_rfl) (by kernel_rfl) (by kernel_rfl) (by decide) (by kernel_rfl)).congr fun xs => (f88_eq k xs).symm
theorem f88_ent : Ent Try.prog 88 := fun args w => by kernel_rfl
/-! ### terrier/net.Turn: function 92 -/
noncomputable def f92_c : Code := Try.f92.body.getD .skip
noncomputable abbrev f92_p (n : Nat) : Code := sb f92_c n
abbrev f92_sig : List PT := [(true, Tq9), (false, (.int .i64)), (false, (.int .i64))]
abbrev f92_rs : List RT := [.d false .bool]
abbrev f92_ts : List RV := [.tmp 6]
abbrev f92_S := St → Option (RDL f92_rs)
abbrev f92_L := List (Fr (RDL f92_rs))
def f92_Y : Tys := []
noncomputable def f92_E (k : Nat) : Env := [(91, .c (f91_con k)), (105, .c (f105_con k))]
def f92_A : Ann := { regs := [(1, { slots := [(6, .bool)] })] }
noncomputable abbrev f92_a (k : Nat) (F : f92_L) : Kont (RDL f92_rs) := ap T f92_Y (f92_E k) f92_A k (Kfin T f92_rs f92_ts) F
def f92_s_r1 (x6 : Bool) : St := mkS 39 128 [(6, aB x6)] []
abbrev f92_t_r1 := Bool → Option (Bool × Unit)
abbrev f92_o_r1 (R : f92_S) : f92_t_r1 := (fun x6 => R (f92_s_r1 x6))
noncomputable def f92_Q_r1 (k : Nat) : f92_L := [.c (f92_p 7) 0]
noncomputable def f92_C_r1 (k : Nat) : f92_S := fun σ => f92_a k (f92_Q_r1 k) .nx σ
noncomputable def f92_F_r1 (k : Nat) : f92_L := .c (f92_p 7) 0 :: []
theorem f92_f_r1 (k : Nat) : f92_a k (f92_Q_r1 k) = f92_a k (f92_F_r1 k) := (ap_cons _ rfl)
def f92_entry_B (k : Nat) (g_r1 : f92_t_r1) (a0 : Td12) (a1 : Int) (a2 : Int) : Option (Bool × Unit) := ((f91 k (a0.1, (a0.2.1, a0.2.2)) a1).bind fun r1 => (if r1.1 = true then ((f91 k (a0.1, (a0.2.1, a0.2.2)) a2).bind fun r2 => (if r2.1 = true then (if 0 ≤ a1 then (if a1 < (a0.2.1.length : Int) then (if 0 ≤ a2 then (if a2 < (a0.2.1.length : Int) then (if (((a0.2.1.getD (a1).toNat (0, (0, (0, 0)))).2).1) = ((a0.2.1.getD (a2).toNat (0, (0, (0, 0)))).1) then ((f105 k a0.2.2 (a1, a2)).bind fun r3 => (g_r1 (decide (¬ (r3.1 = true))))) else (g_r1 false)) else none) else none) else none) else none) else (g_r1 false))) else (g_r1 false)))
def f92_r1_B (k : Nat) (x6 : Bool) : Option (Bool × Unit) := some (decide (x6 = true), ())
theorem f92_r1_P (k : Nat) : f92_o_r1 (fun σ => f92_a k (f92_F_r1 k) .nx σ) = f92_r1_B k := by kernel_rfl
def f92_r1 (k : Nat) : f92_t_r1 := f92_r1_B k
theorem f92_r1_E (k : Nat) : f92_o_r1 (f92_C_r1 k) = f92_r1 k :=
  Eq.trans (congrArg f92_o_r1 (ap_fn (f92_f_r1 k))) ((f92_r1_P k).trans (by rfl))
theorem f92_entry_P (k : Nat) (G_r1 : f92_S) (xs : DL f92_sig) : f92_a k (.c (f92_p 2) 0 :: .c (f92_p 6) 0 :: .j G_r1 :: f92_F_r1 k) .nx (σ0 39 128 f92_sig xs) = f92_entry_B k (f92_o_r1 G_r1) xs.1 xs.2.1 xs.2.2.1 := by kernel_rfl
def f92 (k : Nat) (a0 : Td12) (a1 : Int) (a2 : Int) : Option (Bool × Unit) := f92_entry_B k (f92_r1 k) a0 a1 a2
theorem f92_fe (k : Nat) : f92_a k [.c (f92_p 1) 0] = f92_a k (.c (f92_p 2) 0 :: .c (f92_p 6) 0 :: .j (f92_C_r1 k) :: f92_F_r1 k) := (Eq.trans ap_sq (ap_cons _ (Eq.trans ap_sq (ap_cons _ (Eq.trans (ap_pass (C := (f92_C_r1 k)) (fun _ => rfl)) (ap_cons _ (f92_f_r1 k)))))))
theorem f92_eq (k : Nat) (xs : DL f92_sig) : den T f92_Y (f92_E k) f92_A k f92_c 0 (σ0 39 128 f92_sig xs) (Kfin T f92_rs f92_ts) = f92 k xs.1 xs.2.1 xs.2.2.1 :=
  Eq.trans (Eq.trans den_sb (ap_at (f92_fe k) _)) ((f92_entry_P k (f92_C_r1 k) xs).trans (by rw [f92_r1_E k] <;> rfl))
noncomputable def f92_con (k : Nat) : Con := ⟨f92_sig, f92_rs, fun xs => f92 k xs.1 xs.2.1 xs.2.2.1⟩
theorem f92_ok (k : Nat) : PureOK Try.prog 92 f92_sig f92_rs (fun xs => f92 k xs.1 xs.2.1 xs.2.2.1) :=
  (pure_of_den (k := k) (A := f92_A) (T := T) (Y := f92_Y) (E := f92_E k) (M := 128) (ts := f92_ts) T_ok ⟨f91_ok k, f105_ok k, trivial⟩ ⟨f91_ent, f105_ent, trivial⟩ mixed (f := 92) (fn := Try.f92) (c := f92_c) (by kernel_rfl) (by kernel_rfl) (by kernel_rfl) (by decide) (by kernel_rfl)).congr fun xs => (f92_eq k xs).symm
theorem f92_ent : Ent Try.prog 92 := fun args w => by kernel_rfl
/-! ### terrier/route.start: function 112 -/
noncomputable def f112_c : Code := Try.f112.body.getD .skip
noncomputable abbrev f112_p (n : Nat) : Code := sb f112_c n
abbrev f112_sig : List PT := [(true, Tq9)]
abbrev f112_rs : List RT := [.obj (.box [.d Tq9, .o, .d Tq22]) [.row Tq26]]
abbrev f112_ts : List RV := [.tmp 2]
abbrev f112_S := St → Option (RDL f112_rs)
abbrev f112_L := List (Fr (RDL f112_rs))
def f112_Y : Tys := [(3, (.int .i64)), (22, Tq30), (175, Tq26)]
noncomputable def f112_E (k : Nat) : Env := [(73, .c (f73_con k)), (92, .c (f92_con k))]
def f112_A : Ann := { loops := [(0, { slots := [(1, .id), (3, .id), (20, .val false Tq6), (21, .id), (22, .id)], keys := [(1, [.val false Tq2, .val false Tq6, .val false Tq2]), (12, []), (16, []), (18, [.val false Tq2, .val false Tq6, .val false Tq2, .id, .id])] }), (2, { slots := [(1, .id), (3, .id), (4, .id), (20, .val false Tq6), (21, .id), (22, .id), (30, .id), (31, .id), (32, .id)], keys := [(1, [.val false Tq2, .val false Tq6, .val false Tq2]), (12, []), (16, []), (18, [.val false Tq2, .val false Tq6, .val false Tq2, .id, .id]), (30, [])] })], blks := [(0, { unr := [16], slots := [(3, .id)], keys := [(12, []), (16, []), (18, [.val false Tq2, .val false Tq6, .val false Tq2, .id, .id])] })], conds := [(9, { slots := [(1, .id), (3, .id), (4, .id), (20, .val false Tq6), (21, .id), (22, .id), (30, .id), (31, .id), (32, .id)], keys := [(1, [.val false Tq2, .val false Tq6, .val false Tq2]), (12, []), (16, []), (18, [.val false Tq2, .val false Tq6, .val false Tq2, .id, .id]), (30, [])] })] }
noncomputable abbrev f112_a (k : Nat) (F : f112_L) : Kont (RDL f112_rs) := ap T f112_Y (f112_E k) f112_A k (Kfin T f112_rs f112_ts) F
def f112_s_l0 (y1_0 : (List (Int × Int))) (y1_1 : (List (Int × (Int × (Int × Int))))) (y1_2 : (List (Int × Int))) (y12 : (List (Int × (Int × (Int × (Bool × Bool)))))) (y16 : (List (List Int))) (x21 : Int) (x22 : Int) : St := mkS 59 192 [(1, aP 1), (3, aP 18), (20, aV Tq6 y1_1), (21, aI x21), (22, aI x22)] [(1, .box [cV Tq2 y1_0, cV Tq6 y1_1, cV Tq2 y1_2]), (12, .vec Tq26 y12), (16, .rows (.int .i64) y16 none), (18, .box [cV Tq2 y1_0, cV Tq6 y1_1, cV Tq2 y1_2, .own 12, .own 16])]
abbrev f112_t_l0 := (List (Int × Int)) → (List (Int × (Int × (Int × Int)))) → (List (Int × Int)) → (List (Int × (Int × (Int × (Bool × Bool))))) → (List (List Int)) → Int → Int → Option (((Td12 × Td27 × Unit) × (List (Int × Td29)) × Unit) × Unit)
abbrev f112_o_l0 (R : f112_S) : f112_t_l0 := (fun y1_0 y1_1 y1_2 y12 y16 x21 x22 => R (f112_s_l0 y1_0 y1_1 y1_2 y12 y16 x21 x22))
noncomputable def f112_Q_l0 (k : Nat) (R_l0 : f112_S) : f112_L := [.c (f112_p 116) 0, .j (fun σ => R_l0 (cut f112_A.loops 0 σ)), .blk 0, .c (f112_p 15) 0]
noncomputable def f112_C_l0 (k : Nat) (n : Nat) (σ : St) : Option (RDL f112_rs) := loopK (fun σ K => den T f112_Y (f112_E k) f112_A k (f112_p 116) 0 σ K) (cut f112_A.loops 0) (f112_a k [.blk 0, .c (f112_p 15) 0]) n σ
def f112_s_l2 (y1_0 : (List (Int × Int))) (y1_1 : (List (Int × (Int × (Int × Int))))) (y1_2 : (List (Int × Int))) (y12 : (List (Int × (Int × (Int × (Bool × Bool)))))) (y16 : (List (List Int))) (y30 : (List Int)) (x21 : Int) (x22 : Int) (x31 : Int) (x32 : Int) : St := mkS 59 192 [(1, aP 1), (3, aP 18), (4, aI x22), (20, aV Tq6 y1_1), (21, aI x21), (22, aI x22), (30, aO 30), (31, aI x31), (32, aI x32)] [(1, .box [cV Tq2 y1_0, cV Tq6 y1_1, cV Tq2 y1_2]), (12, .vec Tq26 y12), (16, .rows (.int .i64) y16 none), (18, .box [cV Tq2 y1_0, cV Tq6 y1_1, cV Tq2 y1_2, .own 12, .own 16]), (30, .vec (.int .i64) y30)]
abbrev f112_t_l2 := (List (Int × Int)) → (List (Int × (Int × (Int × Int)))) → (List (Int × Int)) → (List (Int × (Int × (Int × (Bool × Bool))))) → (List (List Int)) → (List Int) → Int → Int → Int → Int → Option (((Td12 × Td27 × Unit) × (List (Int × Td29)) × Unit) × Unit)
abbrev f112_o_l2 (R : f112_S) : f112_t_l2 := (fun y1_0 y1_1 y1_2 y12 y16 y30 x21 x22 x31 x32 => R (f112_s_l2 y1_0 y1_1 y1_2 y12 y16 y30 x21 x22 x31 x32))
noncomputable def f112_Q_l2 (k : Nat) (R_l0 R_l2 : f112_S) : f112_L := [.c (f112_p 29900) 2, .j (fun σ => R_l2 (cut f112_A.loops 2 σ)), .blk 2, .blk 1, .c (f112_p 935) 0, .j (fun σ => R_l0 (cut f112_A.loops 0 σ)), .blk 0, .c (f112_p 15) 0]
noncomputable def f112_C_l2 (k : Nat) (R_l0 : f112_S) (n : Nat) (σ : St) : Option (RDL f112_rs) := loopK (fun σ K => den T f112_Y (f112_E k) f112_A k (f112_p 29900) 2 σ K) (cut f112_A.loops 2) (f112_a k [.blk 2, .blk 1, .c (f112_p 935) 0, .j (fun σ => R_l0 (cut f112_A.loops 0 σ)), .blk 0, .c (f112_p 15) 0]) n σ
def f112_s_b0 (y12 : (List (Int × (Int × (Int × (Bool × Bool)))))) (y16 : (List (List Int))) (y18_0 : (List (Int × Int))) (y18_1 : (List (Int × (Int × (Int × Int))))) (y18_2 : (List (Int × Int))) : St := mkS 59 192 [(3, aP 18)] [(12, .vec Tq26 y12), (16, .vec Tq1 y16), (18, .box [cV Tq2 y18_0, cV Tq6 y18_1, cV Tq2 y18_2, .own 12, .own 16])]
abbrev f112_t_b0 := (List (Int × (Int × (Int × (Bool × Bool))))) → (List (List Int)) → (List (Int × Int)) → (List (Int × (Int × (Int × Int)))) → (List (Int × Int)) → Option (((Td12 × Td27 × Unit) × (List (Int × Td29)) × Unit) × Unit)
abbrev f112_o_b0 (R : f112_S) : f112_t_b0 := (fun y12 y16 y18_0 y18_1 y18_2 => R (f112_s_b0 y12 y16 y18_0 y18_1 y18_2))
noncomputable def f112_Q_b0 (k : Nat) : f112_L := [.c (f112_p 15) 0]
noncomputable def f112_C_b0 (k : Nat) : f112_S := fun σ => f112_a k (f112_Q_b0 k) .nx σ
def f112_s_c9 (y1_0 : (List (Int × Int))) (y1_1 : (List (Int × (Int × (Int × Int))))) (y1_2 : (List (Int × Int))) (y12 : (List (Int × (Int × (Int × (Bool × Bool)))))) (y16 : (List (List Int))) (y30 : (List Int)) (x21 : Int) (x22 : Int) (x31 : Int) (x32 : Int) : St := mkS 59 192 [(1, aP 1), (3, aP 18), (4, aI x22), (20, aV Tq6 y1_1), (21, aI x21), (22, aI x22), (30, aO 30), (31, aI x31), (32, aI x32)] [(1, .box [cV Tq2 y1_0, cV Tq6 y1_1, cV Tq2 y1_2]), (12, .vec Tq26 y12), (16, .rows (.int .i64) y16 none), (18, .box [cV Tq2 y1_0, cV Tq6 y1_1, cV Tq2 y1_2, .own 12, .own 16]), (30, .vec (.int .i64) y30)]
abbrev f112_t_c9 := (List (Int × Int)) → (List (Int × (Int × (Int × Int)))) → (List (Int × Int)) → (List (Int × (Int × (Int × (Bool × Bool))))) → (List (List Int)) → (List Int) → Int → Int → Int → Int → Option (((Td12 × Td27 × Unit) × (List (Int × Td29)) × Unit) × Unit)
abbrev f112_o_c9 (R : f112_S) : f112_t_c9 := (fun y1_0 y1_1 y1_2 y12 y16 y30 x21 x22 x31 x32 => R (f112_s_c9 y1_0 y1_1 y1_2 y12 y16 y30 x21 x22 x31 x32))
noncomputable def f112_Q_c9 (k : Nat) (R_l2 R_l0 : f112_S) : f112_L := [.blk 3, .c (f112_p 239207) 2, .j (fun σ => R_l2 (cut f112_A.loops 2 σ)), .blk 2, .blk 1, .c (f112_p 935) 0, .j (fun σ => R_l0 (cut f112_A.loops 0 σ)), .blk 0, .c (f112_p 15) 0]
noncomputable def f112_C_c9 (k : Nat) (R_l2 R_l0 : f112_S) : f112_S := fun σ => f112_a k (f112_Q_c9 k R_l2 R_l0) .nx σ
noncomputable def f112_F_b0 (k : Nat) : f112_L := .c (f112_p 15) 0 :: []
theorem f112_f_b0 (k : Nat) : f112_a k (f112_Q_b0 k) = f112_a k (f112_F_b0 k) := (ap_cons _ rfl)
noncomputable def f112_F_l0 (k : Nat) (G_l0 G_l2 G_b0 : f112_S) : f112_L := .c (f112_p 232) 0 :: .c (f112_p 466) 0 :: .j (fun σ => f112_a k (.c (f112_p 3736) 1 :: .c (f112_p 7474) 1 :: .j (fun σ => f112_a k (.j (fun σ => G_l2 (cut f112_A.loops 2 σ)) :: .blk 2 :: .blk 1 :: .c (f112_p 935) 0 :: .j (fun σ => G_l0 (cut f112_A.loops 0 σ)) :: .b 0 (fun σ => G_b0 (cut f112_A.blks 0 σ)) :: f112_F_b0 k) .nx σ) :: .blk 1 :: .c (f112_p 935) 0 :: .j (fun σ => G_l0 (cut f112_A.loops 0 σ)) :: .b 0 (fun σ => G_b0 (cut f112_A.blks 0 σ)) :: f112_F_b0 k) .nx σ) :: .c (f112_p 935) 0 :: .j (fun σ => G_l0 (cut f112_A.loops 0 σ)) :: .b 0 (fun σ => G_b0 (cut f112_A.blks 0 σ)) :: f112_F_b0 k
theorem f112_f_l0 (k : Nat) (R_l0 : f112_S) : f112_a k (f112_Q_l0 k R_l0) = f112_a k (f112_F_l0 k R_l0 (f112_C_l2 k R_l0 k) (f112_C_b0 k)) := (Eq.trans ap_sq (ap_cons _ (Eq.trans ap_sq (ap_cons _ (Eq.trans ap_sq (Eq.trans (ap_bl 1) (Eq.trans (ap_j (Eq.trans ap_sq (ap_cons _ (Eq.trans ap_sq (ap_cons _ (Eq.trans (ap_bl 2) (Eq.trans (ap_j (Eq.trans (ap_lp (C := (f112_C_l2 k R_l0)) (fun _ _ => rfl)) (ap_cons _ (ap_cons _ (ap_cons _ (ap_cons _ (ap_cons _ (Eq.trans (ap_blkb (C := (f112_C_b0 k)) (fun _ => rfl)) (ap_cons _ (f112_f_b0 k)))))))))) (ap_cons _ (ap_cons _ (ap_cons _ (ap_cons _ (Eq.trans (ap_blkb (C := (f112_C_b0 k)) (fun _ => rfl)) (ap_cons _ (f112_f_b0 k)))))))))))))) (ap_cons _ (ap_cons _ (ap_cons _ (Eq.trans (ap_blkb (C := (f112_C_b0 k)) (fun _ => rfl)) (ap_cons _ (f112_f_b0 k)))))))))))))
noncomputable def f112_F_c9 (k : Nat) (G_l0 G_l2 G_b0 : f112_S) : f112_L := .blk 3 :: .c (f112_p 239207) 2 :: .j (fun σ => G_l2 (cut f112_A.loops 2 σ)) :: .blk 2 :: .blk 1 :: .c (f112_p 935) 0 :: .j (fun σ => G_l0 (cut f112_A.loops 0 σ)) :: .b 0 (fun σ => G_b0 (cut f112_A.blks 0 σ)) :: f112_F_b0 k
theorem f112_f_c9 (k : Nat) (R_l2 R_l0 : f112_S) : f112_a k (f112_Q_c9 k R_l2 R_l0) = f112_a k (f112_F_c9 k R_l0 R_l2 (f112_C_b0 k)) := (ap_cons _ (ap_cons _ (ap_cons _ (ap_cons _ (ap_cons _ (ap_cons _ (ap_cons _ (Eq.trans (ap_blkb (C := (f112_C_b0 k)) (fun _ => rfl)) (ap_cons _ (f112_f_b0 k))))))))))
noncomputable def f112_F_l2 (k : Nat) (G_l0 G_l2 G_b0 G_c9 : f112_S) : f112_L := .c (f112_p 59800) 2 :: .c (f112_p 119602) 2 :: .j (fun σ => f112_a k (.c (f112_p 956824) 3 :: .c (f112_p 1913650) 3 :: .c (f112_p 1913651) 3 :: .j G_c9 :: f112_F_c9 k G_l0 G_l2 G_b0) .nx σ) :: .c (f112_p 239207) 2 :: .j (fun σ => G_l2 (cut f112_A.loops 2 σ)) :: .blk 2 :: .blk 1 :: .c (f112_p 935) 0 :: .j (fun σ => G_l0 (cut f112_A.loops 0 σ)) :: .b 0 (fun σ => G_b0 (cut f112_A.blks 0 σ)) :: f112_F_b0 k
theorem f112_f_l2 (k : Nat) (R_l0 R_l2 : f112_S) : f112_a k (f112_Q_l2 k R_l0 R_l2) = f112_a k (f112_F_l2 k R_l0 R_l2 (f112_C_b0 k) (f112_C_c9 k R_l2 R_l0)) := (Eq.trans ap_sq (ap_cons _ (Eq.trans ap_sq (ap_cons _ (Eq.trans ap_sq (Eq.trans (ap_bl 3) (Eq.trans (ap_j (Eq.trans ap_sq (ap_cons _ (Eq.trans ap_sq (ap_cons _ (ap_cons _ (Eq.trans (ap_pass (C := (f112_C_c9 k R_l2 R_l0)) (fun _ => rfl)) (ap_cons _ (f112_f_c9 k R_l2 R_l0))))))))) (ap_cons _ (ap_cons _ (ap_cons _ (ap_cons _ (ap_cons _ (ap_cons _ (ap_cons _ (Eq.trans (ap_blkb (C := (f112_C_b0 k)) (fun _ => rfl)) (ap_cons _ (f112_f_b0 k)))))))))))))))))
def f112_entry_B (k : Nat) (g_l0 : f112_t_l0) (a0 : Td12) : Option (((Td12 × Td27 × Unit) × (List (Int × Td29)) × Unit) × Unit) := (if 0 ≤ (a0.2.1.length : Int) then (if (a0.2.1.length : Int) ≤ 1073741824 then (if 0 ≤ (a0.2.1.length : Int) then (if (a0.2.1.length : Int) ≤ 1073741824 then (g_l0 a0.1 a0.2.1 a0.2.2 (List.replicate ((a0.2.1.length : Int)).toNat ((0, (0, (0, (false, false)))) : (Int × (Int × (Int × (Bool × Bool)))))) (List.replicate ((a0.2.1.length : Int)).toNat ([] : List Int)) (a0.2.1.length : Int) 0) else none) else none) else none) else none)
def f112_l0_B (k : Nat) (g_l2 : f112_t_l2) (g_b0 : f112_t_b0) (y1_0 : (List (Int × Int))) (y1_1 : (List (Int × (Int × (Int × Int))))) (y1_2 : (List (Int × Int))) (y12 : (List (Int × (Int × (Int × (Bool × Bool)))))) (y16 : (List (List Int))) (x21 : Int) (x22 : Int) : Option (((Td12 × Td27 × Unit) × (List (Int × Td29)) × Unit) × Unit) := (if x22 < x21 then (if 0 ≤ x22 then (if x22 < (y1_1.length : Int) then ((f73 k (y1_0, (y1_1, y1_2)) (((y1_1.getD (x22).toNat (0, (0, (0, 0)))).2).1)).bind fun r1 => (g_l2 y1_0 y1_1 y1_2 y12 y16 r1.1 x21 x22 (r1.1.length : Int) 0)) else none) else none) else (g_b0 y12 y16 y1_0 y1_1 y1_2))
def f112_l2_B (k : Nat) (g_l0 : f112_t_l0) (g_c9 : f112_t_c9) (y1_0 : (List (Int × Int))) (y1_1 : (List (Int × (Int × (Int × Int))))) (y1_2 : (List (Int × Int))) (y12 : (List (Int × (Int × (Int × (Bool × Bool)))))) (y16 : (List (List Int))) (y30 : (List Int)) (x21 : Int) (x22 : Int) (x31 : Int) (x32 : Int) : Option (((Td12 × Td27 × Unit) × (List (Int × Td29)) × Unit) × Unit) := (if x32 < x31 then (if 0 ≤ x32 then (if x32 < (y30.length : Int) then ((f92 k (y1_0, (y1_1, y1_2)) x22 (y30.getD ((x32).toNat) 0)).bind fun r1 => (if r1.1 = true then (if 0 ≤ x22 then (if x22 < (y16.length : Int) then (if ((y16.getD ((x22).toNat) []).length + 1) * 8 ≤ 140737488355328 then (if 0 ≤ x22 then (if x22 < (y16.length : Int) then (if ((x22).toNat) = ((x22).toNat) then (g_c9 y1_0 y1_1 y1_2 y12 (y16.set ((x22).toNat) ((y16.getD ((x22).toNat) []) ++ [(y30.getD ((x32).toNat) 0)])) y30 x21 x22 x31 x32) else none) else none) else none) else none) else none) else none) else (g_c9 y1_0 y1_1 y1_2 y12 y16 y30 x21 x22 x31 x32))) else none) else none) else (g_l0 y1_0 y1_1 y1_2 y12 y16 x21 (w64 (x22 + 1))))
def f112_b0_B (k : Nat) (y12 : (List (Int × (Int × (Int × (Bool × Bool)))))) (y16 : (List (List Int))) (y18_0 : (List (Int × Int))) (y18_1 : (List (Int × (Int × (Int × Int))))) (y18_2 : (List (Int × Int))) : Option (((Td12 × Td27 × Unit) × (List (Int × Td29)) × Unit) × Unit) := some ((((y18_0, (y18_1, y18_2)), y16, ()), (y12, ())), ())
def f112_c9_B (k : Nat) (g_l2 : f112_t_l2) (y1_0 : (List (Int × Int))) (y1_1 : (List (Int × (Int × (Int × Int))))) (y1_2 : (List (Int × Int))) (y12 : (List (Int × (Int × (Int × (Bool × Bool)))))) (y16 : (List (List Int))) (y30 : (List Int)) (x21 : Int) (x22 : Int) (x31 : Int) (x32 : Int) : Option (((Td12 × Td27 × Unit) × (List (Int × Td29)) × Unit) × Unit) := (g_l2 y1_0 y1_1 y1_2 y12 y16 y30 x21 x22 x31 (w64 (x32 + 1)))
theorem f112_c9_P (k : Nat) (G_l0 G_l2 G_b0 : f112_S) : f112_o_c9 (fun σ => f112_a k (f112_F_c9 k G_l0 G_l2 G_b0) .nx σ) = f112_c9_B k (f112_o_l2 G_l2) := by kernel_rfl
def f112_c9 (k : Nat) (r_l2 : f112_t_l2) (r_l0 : f112_t_l0) : f112_t_c9 := f112_c9_B k r_l2
theorem f112_c9_E (k : Nat) (R_l2 R_l0 : f112_S) : f112_o_c9 (f112_C_c9 k R_l2 R_l0) = f112_c9 k (f112_o_l2 R_l2) (f112_o_l0 R_l0) :=
  Eq.trans (congrArg f112_o_c9 (ap_fn (f112_f_c9 k R_l2 R_l0))) ((f112_c9_P k R_l0 R_l2 (f112_C_b0 k)).trans (by rfl))
theorem f112_l2_P (k : Nat) (G_l0 G_l2 G_b0 G_c9 : f112_S) : f112_o_l2 (fun σ => f112_a k (f112_F_l2 k G_l0 G_l2 G_b0 G_c9) .nx σ) = f112_l2_B k (f112_o_l0 G_l0) (f112_o_c9 G_c9) := by kernel_rfl
def f112_l2 (k : Nat) (r_l0 : f112_t_l0) : Nat → f112_t_l2
  | 0 => fun _ _ _ _ _ _ _ _ _ _ => none
  | n + 1 => f112_l2_B k r_l0 (f112_c9 k (f112_l2 k r_l0 n) r_l0)
theorem f112_l2_E (k : Nat) (R_l0 : f112_S) : ∀ n, f112_o_l2 (f112_C_l2 k R_l0 n) = f112_l2 k (f112_o_l0 R_l0) n
  | 0 => rfl
  | n + 1 =>
    Eq.trans (congrArg f112_o_l2 (Eq.trans (b := fun σ => f112_a k (f112_Q_l2 k R_l0 (f112_C_l2 k R_l0 n)) .nx σ) (by kernel_rfl) (ap_fn (f112_f_l2 k R_l0 (f112_C_l2 k R_l0 n))))) ((f112_l2_P k R_l0 (f112_C_l2 k R_l0 n) (f112_C_b0 k) (f112_C_c9 k (f112_C_l2 k R_l0 n) R_l0)).trans (by rw [f112_c9_E k (f112_C_l2 k R_l0 n) R_l0, f112_l2_E k R_l0 n] <;> rfl))
theorem f112_b0_P (k : Nat) : f112_o_b0 (fun σ => f112_a k (f112_F_b0 k) .nx σ) = f112_b0_B k := by kernel_rfl
def f112_b0 (k : Nat) : f112_t_b0 := f112_b0_B k
theorem f112_b0_E (k : Nat) : f112_o_b0 (f112_C_b0 k) = f112_b0 k :=
  Eq.trans (congrArg f112_o_b0 (ap_fn (f112_f_b0 k))) ((f112_b0_P k).trans (by rfl))
theorem f112_l0_P (k : Nat) (G_l0 G_l2 G_b0 : f112_S) : f112_o_l0 (fun σ => f112_a k (f112_F_l0 k G_l0 G_l2 G_b0) .nx σ) = f112_l0_B k (f112_o_l2 G_l2) (f112_o_b0 G_b0) := by kernel_rfl
def f112_l0 (k : Nat) : Nat → f112_t_l0
  | 0 => fun _ _ _ _ _ _ _ => none
  | n + 1 => f112_l0_B k (f112_l2 k (f112_l0 k n) k) (f112_b0 k)
theorem f112_l0_E (k : Nat) : ∀ n, f112_o_l0 (f112_C_l0 k n) = f112_l0 k n
  | 0 => rfl
  | n + 1 =>
    Eq.trans (congrArg f112_o_l0 (Eq.trans (b := fun σ => f112_a k (f112_Q_l0 k (f112_C_l0 k n)) .nx σ) (by kernel_rfl) (ap_fn (f112_f_l0 k (f112_C_l0 k n))))) ((f112_l0_P k (f112_C_l0 k n) (f112_C_l2 k (f112_C_l0 k n) k) (f112_C_b0 k)).trans (by rw [f112_l2_E k (f112_C_l0 k n) k, f112_b0_E k, f112_l0_E k n] <;> rfl))
theorem f112_entry_P (k : Nat) (G_l0 G_b0 : f112_S) (xs : DL f112_sig) : f112_a k (.c (f112_p 2) 0 :: .c (f112_p 6) 0 :: .c (f112_p 28) 0 :: .j (fun σ => f112_a k (.j (fun σ => G_l0 (cut f112_A.loops 0 σ)) :: .b 0 (fun σ => G_b0 (cut f112_A.blks 0 σ)) :: f112_F_b0 k) .nx σ) :: f112_F_b0 k) .nx (σ0 59 192 f112_sig xs) = f112_entry_B k (f112_o_l0 G_l0) xs.1 := by kernel_rfl
def f112 (k : Nat) (a0 : Td12) : Option (((Td12 × Td27 × Unit) × (List (Int × Td29)) × Unit) × Unit) := f112_entry_B k (f112_l0 k k) a0
theorem f112_fe (k : Nat) : f112_a k [.c (f112_p 1) 0] = f112_a k (.c (f112_p 2) 0 :: .c (f112_p 6) 0 :: .c (f112_p 28) 0 :: .j (fun σ => f112_a k (.j (fun σ => (f112_C_l0 k k) (cut f112_A.loops 0 σ)) :: .b 0 (fun σ => (f112_C_b0 k) (cut f112_A.blks 0 σ)) :: f112_F_b0 k) .nx σ) :: f112_F_b0 k) := (Eq.trans ap_sq (ap_cons _ (Eq.trans ap_sq (ap_cons _ (Eq.trans ap_sq (Eq.trans ap_sq (ap_cons _ (Eq.trans (ap_bl 0) (Eq.trans (ap_j (Eq.trans (ap_lp (C := (f112_C_l0 k)) (fun _ _ => rfl)) (ap_cons _ (Eq.trans (ap_blkb (C := (f112_C_b0 k)) (fun _ => rfl)) (ap_cons _ (f112_f_b0 k)))))) (ap_cons _ (f112_f_b0 k)))))))))))
theorem f112_eq (k : Nat) (xs : DL f112_sig) : den T f112_Y (f112_E k) f112_A k f112_c 0 (σ0 59 192 f112_sig xs) (Kfin T f112_rs f112_ts) = f112 k xs.1 :=
  Eq.trans (Eq.trans den_sb (ap_at (f112_fe k) _)) ((f112_entry_P k (f112_C_l0 k k) (f112_C_b0 k) xs).trans (by rw [f112_l0_E k k] <;> rfl))
noncomputable def f112_con (k : Nat) : Con := ⟨f112_sig, f112_rs, fun xs => f112 k xs.1⟩
theorem f112_ok (k : Nat) : PureOK Try.prog 112 f112_sig f112_rs (fun xs => f112 k xs.1) :=
  (pure_of_den (k := k) (A := f112_A) (T := T) (Y := f112_Y) (E := f112_E k) (M := 192) (ts := f112_ts) T_ok ⟨f73_ok k, f92_ok k, trivial⟩ ⟨f73_ent, f92_ent, trivial⟩ mixed (f := 112) (fn := Try.f112) (c := f112_c) (by kernel_rfl) (by kernel_rfl) (by kernel_rfl) (by decide) (by kernel_rfl)).congr fun xs => (f112_eq k xs).symm
theorem f112_ent : Ent Try.prog 112 := fun args w => by kernel_rfl
/-! ### slices.Reverse[[]int,int]: function 85 -/
noncomputable def f85_c : Code := Try.f85.body.getD .skip
noncomputable abbrev f85_p (n : Nat) : Code := sb f85_c n
abbrev f85_sig : List PT := []
abbrev f85_rs : List RT := []
abbrev f85_ts : List RV := []
abbrev f85_ls : List LO := [.row (.int .i64)]
abbrev f85_S := St → Option (LOD f85_ls × RDL f85_rs)
abbrev f85_L := List (Fr (LOD f85_ls × RDL f85_rs))
def f85_Y : Tys := []
noncomputable def f85_E (k : Nat) : Env := []
def f85_A : Ann := { loops := [(0, { slots := [(0, .id), (2, .id), (3, .id)], keys := [(0, [])] })] }
noncomputable abbrev f85_a (k : Nat) (F : f85_L) : Kont (LOD f85_ls × RDL f85_rs) := ap T f85_Y (f85_E k) f85_A k (KfinB T true f85_ls f85_rs f85_ts) F
def f85_s_l0 (y0 : (List Int)) (x2 : Int) (x3 : Int) : St := mkS 28 97 [(0, aO 0), (2, aI x2), (3, aI x3)] [(0, .vec (.int .i64) y0)]
abbrev f85_t_l0 := (List Int) → Int → Int → Option (((List Int) × Unit) × (Unit))
abbrev f85_o_l0 (R : f85_S) : f85_t_l0 := (fun y0 x2 x3 => R (f85_s_l0 y0 x2 x3))
noncomputable def f85_Q_l0 (k : Nat) (R_l0 : f85_S) : f85_L := [.c (f85_p 12) 0, .j (fun σ => R_l0 (cut f85_A.loops 0 σ)), .blk 0]
noncomputable def f85_C_l0 (k : Nat) (n : Nat) (σ : St) : Option (LOD f85_ls × RDL f85_rs) := loopK (fun σ K => den T f85_Y (f85_E k) f85_A k (f85_p 12) 0 σ K) (cut f85_A.loops 0) (f85_a k [.blk 0]) n σ
noncomputable def f85_F_l0 (k : Nat) (G_l0 : f85_S) : f85_L := .c (f85_p 12) 0 :: .j (fun σ => G_l0 (cut f85_A.loops 0 σ)) :: .blk 0 :: []
theorem f85_f_l0 (k : Nat) (R_l0 : f85_S) : f85_a k (f85_Q_l0 k R_l0) = f85_a k (f85_F_l0 k R_l0) := (ap_cons _ (ap_cons _ (ap_cons _ rfl)))
def f85_entry_B (k : Nat) (g_l0 : f85_t_l0) (a : (List Int)) : Option (((List Int) × Unit) × (Unit)) := (g_l0 a 0 (w64 ((a.length : Int) - 1)))
def f85_l0_B (k : Nat) (g_l0 : f85_t_l0) (y0 : (List Int)) (x2 : Int) (x3 : Int) : Option (((List Int) × Unit) × (Unit)) := (if x2 < x3 then (if 0 ≤ x3 then (if x3 < (y0.length : Int) then (if 0 ≤ x2 then (if x2 < (y0.length : Int) then (if 0 ≤ x2 then (if x2 < (y0.length : Int) then (if 0 ≤ x3 then (if x3 < ((y0.set ((x2).toNat) (y0.getD ((x3).toNat) 0)).length : Int) then (g_l0 ((y0.set ((x2).toNat) (y0.getD ((x3).toNat) 0)).set ((x3).toNat) (y0.getD ((x2).toNat) 0)) (w64 (x2 + 1)) (w64 (x3 - 1))) else none) else none) else none) else none) else none) else none) else none) else none) else some ((y0, ()), (())))
theorem f85_l0_P (k : Nat) (G_l0 : f85_S) : f85_o_l0 (fun σ => f85_a k (f85_F_l0 k G_l0) .nx σ) = f85_l0_B k (f85_o_l0 G_l0) := by kernel_rfl
def f85_l0 (k : Nat) : Nat → f85_t_l0
  | 0 => fun _ _ _ => none
  | n + 1 => f85_l0_B k (f85_l0 k n)
theorem f85_l0_E (k : Nat) : ∀ n, f85_o_l0 (f85_C_l0 k n) = f85_l0 k n
  | 0 => rfl
  | n + 1 =>
    Eq.trans (congrArg f85_o_l0 (Eq.trans (b := fun σ => f85_a k (f85_Q_l0 k (f85_C_l0 k n)) .nx σ) (by kernel_rfl) (ap_fn (f85_f_l0 k (f85_C_l0 k n))))) ((f85_l0_P k (f85_C_l0 k n)).trans (by rw [f85_l0_E k n] <;> rfl))
theorem f85_entry_P (k : Nat) (G_l0 : f85_S) (x : LOD f85_ls) (xs : DL f85_sig) : f85_a k (.c (f85_p 2) 0 :: .j (fun σ => f85_a k (.j (fun σ => G_l0 (cut f85_A.loops 0 σ)) :: .blk 0 :: []) .nx σ) :: []) .nx (σ0B 28 97 0 f85_ls x f85_sig xs) = f85_entry_B k (f85_o_l0 G_l0) x.1 := by kernel_rfl
def f85 (k : Nat) (a : (List Int)) : Option (((List Int) × Unit) × (Unit)) := f85_entry_B k (f85_l0 k k) a
theorem f85_fe (k : Nat) : f85_a k [.c (f85_p 1) 0] = f85_a k (.c (f85_p 2) 0 :: .j (fun σ => f85_a k (.j (fun σ => (f85_C_l0 k k) (cut f85_A.loops 0 σ)) :: .blk 0 :: []) .nx σ) :: []) := (Eq.trans ap_sq (ap_cons _ (Eq.trans (ap_bl 0) (Eq.trans (ap_j (Eq.trans (ap_lp (C := (f85_C_l0 k)) (fun _ _ => rfl)) (ap_cons _ (ap_cons _ rfl)))) (ap_cons _ rfl)))))
theorem f85_eq (k : Nat) (x : LOD f85_ls) (xs : DL f85_sig) : den T f85_Y (f85_E k) f85_A k f85_c 0 (σ0B 28 97 0 f85_ls x f85_sig xs) (KfinB T true f85_ls f85_rs f85_ts) = f85 k x.1 :=
  Eq.trans (Eq.trans den_sb (ap_at (f85_fe k) _)) ((f85_entry_P k (f85_C_l0 k k) x xs).trans (by rw [f85_l0_E k k] <;> rfl))
noncomputable def f85_con (k : Nat) : BCon := ⟨0, true, f85_ls, f85_sig, f85_rs, fun x xs => f85 k x.1⟩
theorem f85_ok (k : Nat) : BoxOK Try.prog 85 0 true f85_ls f85_sig f85_rs (fun x xs => f85 k x.1) :=
  (box_of_den (k := k) (A := f85_A) (T := T) (Y := f85_Y) (E := f85_E k) (M := 97) (ts := f85_ts) T_ok trivial trivial mixed (f := 85) (fn := Try.f85) (c := f85_c) (by kernel_rfl) (by kernel_rfl) (by kernel_rfl) (by decide) (by kernel_rfl) (by decide)).congr fun x xs => (f85_eq k x xs).symm
theorem f85_ent : Ent Try.prog 85 := fun args w => by kernel_rfl
/-! ### (*terrier/route.search).way: function 116 -/
noncomputable def f116_c : Code := Try.f116.body.getD .skip
noncomputable abbrev f116_p (n : Nat) : Code := sb f116_c n
abbrev f116_sig : List PT := [(false, (.ptr Tq33)), (false, (.int .i64))]
abbrev f116_rs : List RT := [.new (.int .i64)]
abbrev f116_ts : List RV := [.tmp 4]
abbrev f116_S := St → Option (RDL f116_rs)
abbrev f116_L := List (Fr (RDL f116_rs))
def f116_Y : Tys := [(3, (.int .i64))]
noncomputable def f116_E (k : Nat) : Env := [(85, .b (f85_con k))]
def f116_A : Ann := { loops := [(0, { mat := [(5, 19, (.int .i64))], slots := [(0, .id), (1, .id), (5, .id)], keys := [(19, [])] })] }
noncomputable abbrev f116_a (k : Nat) (F : f116_L) : Kont (RDL f116_rs) := ap T f116_Y (f116_E k) f116_A k (Kfin T f116_rs f116_ts) F
def f116_s_l0 (y19 : (List Int)) (x0 : (((List (Int × Int)) × ((List (Int × (Int × (Int × Int)))) × (List (Int × Int)))) × ((List (Int × (Int × (Int × (Bool × Bool))))) × (List (List Int))))) (x1 : Int) : St := mkS 23 80 [(0, .cp (.one (.fptr Tq33 x0 0))), (1, aI x1), (5, aO 19)] [(19, .vec (.int .i64) y19)]
abbrev f116_t_l0 := (List Int) → (((List (Int × Int)) × ((List (Int × (Int × (Int × Int)))) × (List (Int × Int)))) × ((List (Int × (Int × (Int × (Bool × Bool))))) × (List (List Int)))) → Int → Option ((List Int) × Unit)
abbrev f116_o_l0 (R : f116_S) : f116_t_l0 := (fun y19 x0 x1 => R (f116_s_l0 y19 x0 x1))
noncomputable def f116_Q_l0 (k : Nat) (R_l0 : f116_S) : f116_L := [.c (f116_p 56) 0, .j (fun σ => R_l0 (cut f116_A.loops 0 σ)), .blk 0, .c (f116_p 15) 0]
noncomputable def f116_C_l0 (k : Nat) (n : Nat) (σ : St) : Option (RDL f116_rs) := loopK (fun σ K => den T f116_Y (f116_E k) f116_A k (f116_p 56) 0 σ K) (cut f116_A.loops 0) (f116_a k [.blk 0, .c (f116_p 15) 0]) n σ
noncomputable def f116_F_l0 (k : Nat) (G_l0 : f116_S) : f116_L := .c (f116_p 56) 0 :: .j (fun σ => G_l0 (cut f116_A.loops 0 σ)) :: .blk 0 :: .c (f116_p 15) 0 :: []
theorem f116_f_l0 (k : Nat) (R_l0 : f116_S) : f116_a k (f116_Q_l0 k R_l0) = f116_a k (f116_F_l0 k R_l0) := (ap_cons _ (ap_cons _ (ap_cons _ (ap_cons _ rfl))))
def f116_entry_B (k : Nat) (g_l0 : f116_t_l0) (a0 : Td36) (a1 : Int) : Option ((List Int) × Unit) := (g_l0 ([] : List Int) a0 a1)
def f116_l0_B (k : Nat) (g_l0 : f116_t_l0) (y19 : (List Int)) (x0 : (((List (Int × Int)) × ((List (Int × (Int × (Int × Int)))) × (List (Int × Int)))) × ((List (Int × (Int × (Int × (Bool × Bool))))) × (List (List Int))))) (x1 : Int) : Option ((List Int) × Unit) := (if 0 ≤ x1 then (if (y19.length + 1) * 8 ≤ 140737488355328 then (if 0 ≤ x1 then (if x1 < (x0.2.1.length : Int) then (g_l0 (y19 ++ [x1]) x0 ((((x0.2.1.getD (x1).toNat (0, (0, (0, (false, false))))).2).2).1)) else none) else none) else none) else ((f85 k y19).bind fun r1 => some (r1.1.1, ())))
theorem f116_l0_P (k : Nat) (G_l0 : f116_S) : f116_o_l0 (fun σ => f116_a k (f116_F_l0 k G_l0) .nx σ) = f116_l0_B k (f116_o_l0 G_l0) := by kernel_rfl
def f116_l0 (k : Nat) : Nat → f116_t_l0
  | 0 => fun _ _ _ => none
  | n + 1 => f116_l0_B k (f116_l0 k n)
theorem f116_l0_E (k : Nat) : ∀ n, f116_o_l0 (f116_C_l0 k n) = f116_l0 k n
  | 0 => rfl
  | n + 1 =>
    Eq.trans (congrArg f116_o_l0 (Eq.trans (b := fun σ => f116_a k (f116_Q_l0 k (f116_C_l0 k n)) .nx σ) (by kernel_rfl) (ap_fn (f116_f_l0 k (f116_C_l0 k n))))) ((f116_l0_P k (f116_C_l0 k n)).trans (by rw [f116_l0_E k n] <;> rfl))
theorem f116_entry_P (k : Nat) (G_l0 : f116_S) (xs : DL f116_sig) : f116_a k (.c (f116_p 2) 0 :: .c (f116_p 6) 0 :: .j (fun σ => f116_a k (.j (fun σ => G_l0 (cut f116_A.loops 0 σ)) :: .blk 0 :: .c (f116_p 15) 0 :: []) .nx σ) :: .c (f116_p 15) 0 :: []) .nx (σ0 23 80 f116_sig xs) = f116_entry_B k (f116_o_l0 G_l0) xs.1 xs.2.1 := by kernel_rfl
def f116 (k : Nat) (a0 : Td36) (a1 : Int) : Option ((List Int) × Unit) := f116_entry_B k (f116_l0 k k) a0 a1
theorem f116_fe (k : Nat) : f116_a k [.c (f116_p 1) 0] = f116_a k (.c (f116_p 2) 0 :: .c (f116_p 6) 0 :: .j (fun σ => f116_a k (.j (fun σ => (f116_C_l0 k k) (cut f116_A.loops 0 σ)) :: .blk 0 :: .c (f116_p 15) 0 :: []) .nx σ) :: .c (f116_p 15) 0 :: []) := (Eq.trans ap_sq (ap_cons _ (Eq.trans ap_sq (ap_cons _ (Eq.trans ap_sq (Eq.trans (ap_bl 0) (Eq.trans (ap_j (Eq.trans (ap_lp (C := (f116_C_l0 k)) (fun _ _ => rfl)) (ap_cons _ (ap_cons _ (ap_cons _ rfl))))) (ap_cons _ (ap_cons _ rfl)))))))))
theorem f116_eq (k : Nat) (xs : DL f116_sig) : den T f116_Y (f116_E k) f116_A k f116_c 0 (σ0 23 80 f116_sig xs) (Kfin T f116_rs f116_ts) = f116 k xs.1 xs.2.1 :=
  Eq.trans (Eq.trans den_sb (ap_at (f116_fe k) _)) ((f116_entry_P k (f116_C_l0 k k) xs).trans (by rw [f116_l0_E k k] <;> rfl))
noncomputable def f116_con (k : Nat) : Con := ⟨f116_sig, f116_rs, fun xs => f116 k xs.1 xs.2.1⟩
theorem f116_ok (k : Nat) : PureOK Try.prog 116 f116_sig f116_rs (fun xs => f116 k xs.1 xs.2.1) :=
  (pure_of_den (k := k) (A := f116_A) (T := T) (Y := f116_Y) (E := f116_E k) (M := 80) (ts := f116_ts) T_ok ⟨f85_ok k, trivial⟩ ⟨f85_ent, trivial⟩ mixed (f := 116) (fn := Try.f116) (c := f116_c) (by kernel_rfl) (by kernel_rfl) (by kernel_rfl) (by decide) (by kernel_rfl)).congr fun xs => (f116_eq k xs).symm
theorem f116_ent : Ent Try.prog 116 := fun args w => by kernel_rfl
/-! ### (*terrier/route.search).better: function 194 -/
noncomputable def f194_c : Code := Try.f194.body.getD .skip
noncomputable abbrev f194_p (n : Nat) : Code := sb f194_c n
abbrev f194_sig : List PT := [(false, (.ptr Tq33)), (false, (.int .i64)), (false, (.int .i64)), (false, (.int .i64)), (false, (.int .i64))]
abbrev f194_rs : List RT := [.d false .bool]
abbrev f194_ts : List RV := [.tmp 10]
abbrev f194_S := St → Option (RDL f194_rs)
abbrev f194_L := List (Fr (RDL f194_rs))
def f194_Y : Tys := [(3, (.int .i64))]
noncomputable def f194_E (k : Nat) : Env := [(110, .c (f110_con k)), (116, .c (f116_con k))]
def f194_A : Ann := { regs := [(2, { slots := [(0, .id), (1, .id), (3, .id), (4, .id), (11, .id), (29, .bool)], keys := [(11, [.id, .id, .id, .bool, .bool])] }), (3, { slots := [(10, .bool)] })], conds := [(3, { slots := [(0, .id), (1, .id), (4, .id), (11, .id)], keys := [(11, [.id, .id, .id, .bool, .bool])] }), (8, { frz := [47, 53], slots := [(0, .id), (11, .id), (12, .val false (.int .i64)), (13, .id)], keys := [(11, [.id, .id, .id, .bool, .bool]), (48, [])] }), (10, { frz := [48, 60], slots := [(12, .val false (.int .i64)), (13, .val false (.int .i64))] })] }
noncomputable abbrev f194_a (k : Nat) (F : f194_L) : Kont (RDL f194_rs) := ap T f194_Y (f194_E k) f194_A k (Kfin T f194_rs f194_ts) F
def f194_s_r2 (y11_0 : Int) (y11_1 : Int) (y11_2 : Int) (y11_3 : Bool) (y11_4 : Bool) (x0 : (((List (Int × Int)) × ((List (Int × (Int × (Int × Int)))) × (List (Int × Int)))) × ((List (Int × (Int × (Int × (Bool × Bool))))) × (List (List Int))))) (x1 : Int) (x29 : Bool) (x3 : Int) (x4 : Int) : St := mkS 65 208 [(0, .cp (.one (.fptr Tq33 x0 0))), (1, aI x1), (3, aI x3), (4, aI x4), (11, aP 11), (29, aB x29)] [(11, .box [cI y11_0, cI y11_1, cI y11_2, pB y11_3, pB y11_4])]
abbrev f194_t_r2 := Int → Int → Int → Bool → Bool → (((List (Int × Int)) × ((List (Int × (Int × (Int × Int)))) × (List (Int × Int)))) × ((List (Int × (Int × (Int × (Bool × Bool))))) × (List (List Int)))) → Int → Bool → Int → Int → Option (Bool × Unit)
abbrev f194_o_r2 (R : f194_S) : f194_t_r2 := (fun y11_0 y11_1 y11_2 y11_3 y11_4 x0 x1 x29 x3 x4 => R (f194_s_r2 y11_0 y11_1 y11_2 y11_3 y11_4 x0 x1 x29 x3 x4))
noncomputable def f194_Q_r2 (k : Nat) : f194_L := [.c (f194_p 29) 0, .c (f194_p 15) 0]
noncomputable def f194_C_r2 (k : Nat) : f194_S := fun σ => f194_a k (f194_Q_r2 k) .nx σ
def f194_s_r3 (x10 : Bool) : St := mkS 65 208 [(10, aB x10)] []
abbrev f194_t_r3 := Bool → Option (Bool × Unit)
abbrev f194_o_r3 (R : f194_S) : f194_t_r3 := (fun x10 => R (f194_s_r3 x10))
noncomputable def f194_Q_r3 (k : Nat) : f194_L := [.c (f194_p 117) 0, .cond 3, .c (f194_p 15) 0]
noncomputable def f194_C_r3 (k : Nat) : f194_S := fun σ => f194_a k (f194_Q_r3 k) .nx σ
def f194_s_c3 (y11_0 : Int) (y11_1 : Int) (y11_2 : Int) (y11_3 : Bool) (y11_4 : Bool) (x0 : (((List (Int × Int)) × ((List (Int × (Int × (Int × Int)))) × (List (Int × Int)))) × ((List (Int × (Int × (Int × (Bool × Bool))))) × (List (List Int))))) (x1 : Int) (x4 : Int) : St := mkS 65 208 [(0, .cp (.one (.fptr Tq33 x0 0))), (1, aI x1), (4, aI x4), (11, aP 11)] [(11, .box [cI y11_0, cI y11_1, cI y11_2, pB y11_3, pB y11_4])]
abbrev f194_t_c3 := Int → Int → Int → Bool → Bool → (((List (Int × Int)) × ((List (Int × (Int × (Int × Int)))) × (List (Int × Int)))) × ((List (Int × (Int × (Int × (Bool × Bool))))) × (List (List Int)))) → Int → Int → Option (Bool × Unit)
abbrev f194_o_c3 (R : f194_S) : f194_t_c3 := (fun y11_0 y11_1 y11_2 y11_3 y11_4 x0 x1 x4 => R (f194_s_c3 y11_0 y11_1 y11_2 y11_3 y11_4 x0 x1 x4))
noncomputable def f194_Q_c3 (k : Nat) : f194_L := [.c (f194_p 15) 0]
noncomputable def f194_C_c3 (k : Nat) : f194_S := fun σ => f194_a k (f194_Q_c3 k) .nx σ
def f194_s_c8 (y11_0 : Int) (y11_1 : Int) (y11_2 : Int) (y11_3 : Bool) (y11_4 : Bool) (y48 : (List Int)) (x0 : (((List (Int × Int)) × ((List (Int × (Int × (Int × Int)))) × (List (Int × Int)))) × ((List (Int × (Int × (Int × (Bool × Bool))))) × (List (List Int))))) (x12 : (List Int)) : St := mkS 65 208 [(0, .cp (.one (.fptr Tq33 x0 0))), (11, aP 11), (12, aV (.int .i64) x12), (13, aO 48)] [(11, .box [cI y11_0, cI y11_1, cI y11_2, pB y11_3, pB y11_4]), (48, .vec (.int .i64) y48)]
abbrev f194_t_c8 := Int → Int → Int → Bool → Bool → (List Int) → (((List (Int × Int)) × ((List (Int × (Int × (Int × Int)))) × (List (Int × Int)))) × ((List (Int × (Int × (Int × (Bool × Bool))))) × (List (List Int)))) → (List Int) → Option (Bool × Unit)
abbrev f194_o_c8 (R : f194_S) : f194_t_c8 := (fun y11_0 y11_1 y11_2 y11_3 y11_4 y48 x0 x12 => R (f194_s_c8 y11_0 y11_1 y11_2 y11_3 y11_4 y48 x0 x12))
noncomputable def f194_Q_c8 (k : Nat) : f194_L := [.c (f194_p 127) 0]
noncomputable def f194_C_c8 (k : Nat) : f194_S := fun σ => f194_a k (f194_Q_c8 k) .nx σ
def f194_s_c10 (x12 : (List Int)) (x13 : (List Int)) : St := mkS 65 208 [(12, aV (.int .i64) x12), (13, aV (.int .i64) x13)] []
abbrev f194_t_c10 := (List Int) → (List Int) → Option (Bool × Unit)
abbrev f194_o_c10 (R : f194_S) : f194_t_c10 := (fun x12 x13 => R (f194_s_c10 x12 x13))
noncomputable def f194_Q_c10 (k : Nat) : f194_L := [.c (f194_p 255) 0]
noncomputable def f194_C_c10 (k : Nat) : f194_S := fun σ => f194_a k (f194_Q_c10 k) .nx σ
noncomputable def f194_F_c10 (k : Nat) : f194_L := .c (f194_p 255) 0 :: []
theorem f194_f_c10 (k : Nat) : f194_a k (f194_Q_c10 k) = f194_a k (f194_F_c10 k) := (ap_cons _ rfl)
noncomputable def f194_F_c8 (k : Nat) (G_c10 : f194_S) : f194_L := .c (f194_p 508) 0 :: .c (f194_p 509) 0 :: .j G_c10 :: f194_F_c10 k
theorem f194_f_c8 (k : Nat) : f194_a k (f194_Q_c8 k) = f194_a k (f194_F_c8 k (f194_C_c10 k)) := (Eq.trans ap_sq (Eq.trans ap_sq (ap_cons _ (ap_cons _ (Eq.trans (ap_pass (C := (f194_C_c10 k)) (fun _ => rfl)) (ap_cons _ (f194_f_c10 k)))))))
noncomputable def f194_F_c3 (k : Nat) (G_c8 G_c10 : f194_S) : f194_L := .c (f194_p 30) 0 :: .c (f194_p 62) 0 :: .c (f194_p 252) 0 :: .c (f194_p 253) 0 :: .j G_c8 :: f194_F_c8 k G_c10
theorem f194_f_c3 (k : Nat) : f194_a k (f194_Q_c3 k) = f194_a k (f194_F_c3 k (f194_C_c8 k) (f194_C_c10 k)) := (Eq.trans ap_sq (ap_cons _ (Eq.trans ap_sq (ap_cons _ (Eq.trans ap_sq (Eq.trans ap_sq (ap_cons _ (ap_cons _ (Eq.trans (ap_pass (C := (f194_C_c8 k)) (fun _ => rfl)) (ap_cons _ (f194_f_c8 k)))))))))))
noncomputable def f194_F_r3 (k : Nat) (G_c3 G_c8 G_c10 : f194_S) : f194_L := .c (f194_p 117) 0 :: .j (fun σ => G_c3 (cut f194_A.conds 3 σ)) :: f194_F_c3 k G_c8 G_c10
theorem f194_f_r3 (k : Nat) : f194_a k (f194_Q_r3 k) = f194_a k (f194_F_r3 k (f194_C_c3 k) (f194_C_c8 k) (f194_C_c10 k)) := (ap_cons _ (Eq.trans (ap_condj (C := (f194_C_c3 k)) (fun _ => rfl)) (ap_cons _ (f194_f_c3 k))))
noncomputable def f194_F_r2 (k : Nat) (G_r3 G_c3 G_c8 G_c10 : f194_S) : f194_L := .i (.tmp 29) (fun σ => f194_a k (.c (f194_p 116) 0 :: .j G_r3 :: f194_F_r3 k G_c3 G_c8 G_c10) .nx σ) (fun σ => f194_a k (.c (f194_p 59) 0 :: .j (fun σ => G_c3 (cut f194_A.conds 3 σ)) :: f194_F_c3 k G_c8 G_c10) .nx σ) :: f194_F_c3 k G_c8 G_c10
theorem f194_f_r2 (k : Nat) : f194_a k (f194_Q_r2 k) = f194_a k (f194_F_r2 k (f194_C_r3 k) (f194_C_c3 k) (f194_C_c8 k) (f194_C_c10 k)) := (Eq.trans (ap_cn (.tmp 29) 3) (Eq.trans (ap_i (Eq.trans ap_sq (ap_cons _ (Eq.trans (ap_pass (C := (f194_C_r3 k)) (fun _ => rfl)) (ap_cons _ (f194_f_r3 k))))) (ap_cons _ (Eq.trans (ap_condj (C := (f194_C_c3 k)) (fun _ => rfl)) (ap_cons _ (f194_f_c3 k))))) (ap_cons _ (f194_f_c3 k))))
def f194_entry_B (k : Nat) (g_r2 : f194_t_r2) (a0 : Td36) (a1 : Int) (a2 : Int) (a3 : Int) (a4 : Int) : Option (Bool × Unit) := (if 0 ≤ a2 then (if a2 < (a0.2.1.length : Int) then (if ¬ ((((((a0.2.1.getD (a2).toNat (0, (0, (0, (false, false))))).2).2).2).1) = true) then (g_r2 ((a0.2.1.getD (a2).toNat (0, (0, (0, (false, false))))).1) (((a0.2.1.getD (a2).toNat (0, (0, (0, (false, false))))).2).1) ((((a0.2.1.getD (a2).toNat (0, (0, (0, (false, false))))).2).2).1) (decide ((((((a0.2.1.getD (a2).toNat (0, (0, (0, (false, false))))).2).2).2).1) = true)) (decide ((((((a0.2.1.getD (a2).toNat (0, (0, (0, (false, false))))).2).2).2).2) = true)) a0 a1 true a3 a4) else (g_r2 ((a0.2.1.getD (a2).toNat (0, (0, (0, (false, false))))).1) (((a0.2.1.getD (a2).toNat (0, (0, (0, (false, false))))).2).1) ((((a0.2.1.getD (a2).toNat (0, (0, (0, (false, false))))).2).2).1) (decide ((((((a0.2.1.getD (a2).toNat (0, (0, (0, (false, false))))).2).2).2).1) = true)) (decide ((((((a0.2.1.getD (a2).toNat (0, (0, (0, (false, false))))).2).2).2).2) = true)) a0 a1 (decide (¬ (a3 = ((a0.2.1.getD (a2).toNat (0, (0, (0, (false, false))))).1)))) a3 a4)) else none) else none)
def f194_r2_B (k : Nat) (g_r3 : f194_t_r3) (g_c3 : f194_t_c3) (y11_0 : Int) (y11_1 : Int) (y11_2 : Int) (y11_3 : Bool) (y11_4 : Bool) (x0 : (((List (Int × Int)) × ((List (Int × (Int × (Int × Int)))) × (List (Int × Int)))) × ((List (Int × (Int × (Int × (Bool × Bool))))) × (List (List Int))))) (x1 : Int) (x29 : Bool) (x3 : Int) (x4 : Int) : Option (Bool × Unit) := (if x29 = true then (if ¬ (y11_3 = true) then (g_r3 true) else (g_r3 (decide (x3 < y11_0)))) else (g_c3 y11_0 y11_1 y11_2 (decide (y11_3 = true)) (decide (y11_4 = true)) x0 x1 x4))
def f194_r3_B (k : Nat) (x10 : Bool) : Option (Bool × Unit) := some (decide (x10 = true), ())
def f194_c3_B (k : Nat) (g_c8 : f194_t_c8) (y11_0 : Int) (y11_1 : Int) (y11_2 : Int) (y11_3 : Bool) (y11_4 : Bool) (x0 : (((List (Int × Int)) × ((List (Int × (Int × (Int × Int)))) × (List (Int × Int)))) × ((List (Int × (Int × (Int × (Bool × Bool))))) × (List (List Int))))) (x1 : Int) (x4 : Int) : Option (Bool × Unit) := (if ¬ (x4 = y11_1) then some (decide (x4 < y11_1), ()) else (if 0 ≤ x1 then ((f116 k x0 x1).bind fun r1 => (g_c8 y11_0 y11_1 y11_2 (decide (y11_3 = true)) (decide (y11_4 = true)) ([] : List Int) x0 r1.1)) else (g_c8 y11_0 y11_1 y11_2 (decide (y11_3 = true)) (decide (y11_4 = true)) ([] : List Int) x0 ([] : List Int))))
def f194_c8_B (k : Nat) (g_c10 : f194_t_c10) (y11_0 : Int) (y11_1 : Int) (y11_2 : Int) (y11_3 : Bool) (y11_4 : Bool) (y48 : (List Int)) (x0 : (((List (Int × Int)) × ((List (Int × (Int × (Int × Int)))) × (List (Int × Int)))) × ((List (Int × (Int × (Int × (Bool × Bool))))) × (List (List Int))))) (x12 : (List Int)) : Option (Bool × Unit) := (if 0 ≤ y11_2 then ((f116 k x0 y11_2).bind fun r1 => (g_c10 x12 r1.1)) else (g_c10 x12 y48))
def f194_c10_B (k : Nat) (x12 : (List Int)) (x13 : (List Int)) : Option (Bool × Unit) := ((f110 k x12 x13).bind fun r1 => some (decide (r1.1 < 0), ()))
theorem f194_r3_P (k : Nat) (G_c3 G_c8 G_c10 : f194_S) : f194_o_r3 (fun σ => f194_a k (f194_F_r3 k G_c3 G_c8 G_c10) .nx σ) = f194_r3_B k := by kernel_rfl
def f194_r3 (k : Nat) : f194_t_r3 := f194_r3_B k
theorem f194_r3_E (k : Nat) : f194_o_r3 (f194_C_r3 k) = f194_r3 k :=
  Eq.trans (congrArg f194_o_r3 (ap_fn (f194_f_r3 k))) ((f194_r3_P k (f194_C_c3 k) (f194_C_c8 k) (f194_C_c10 k)).trans (by rfl))
theorem f194_c10_P (k : Nat) : f194_o_c10 (fun σ => f194_a k (f194_F_c10 k) .nx σ) = f194_c10_B k := by kernel_rfl
def f194_c10 (k : Nat) : f194_t_c10 := f194_c10_B k
theorem f194_c10_E (k : Nat) : f194_o_c10 (f194_C_c10 k) = f194_c10 k :=
  Eq.trans (congrArg f194_o_c10 (ap_fn (f194_f_c10 k))) ((f194_c10_P k).trans (by rfl))
theorem f194_c8_P (k : Nat) (G_c10 : f194_S) : f194_o_c8 (fun σ => f194_a k (f194_F_c8 k G_c10) .nx σ) = f194_c8_B k (f194_o_c10 G_c10) := by kernel_rfl
def f194_c8 (k : Nat) : f194_t_c8 := f194_c8_B k (f194_c10 k)
theorem f194_c8_E (k : Nat) : f194_o_c8 (f194_C_c8 k) = f194_c8 k :=
  Eq.trans (congrArg f194_o_c8 (ap_fn (f194_f_c8 k))) ((f194_c8_P k (f194_C_c10 k)).trans (by rw [f194_c10_E k] <;> rfl))
theorem f194_c3_P (k : Nat) (G_c8 G_c10 : f194_S) : f194_o_c3 (fun σ => f194_a k (f194_F_c3 k G_c8 G_c10) .nx σ) = f194_c3_B k (f194_o_c8 G_c8) := by kernel_rfl
def f194_c3 (k : Nat) : f194_t_c3 := f194_c3_B k (f194_c8 k)
theorem f194_c3_E (k : Nat) : f194_o_c3 (f194_C_c3 k) = f194_c3 k :=
  Eq.trans (congrArg f194_o_c3 (ap_fn (f194_f_c3 k))) ((f194_c3_P k (f194_C_c8 k) (f194_C_c10 k)).trans (by rw [f194_c8_E k] <;> rfl))
theorem f194_r2_P (k : Nat) (G_r3 G_c3 G_c8 G_c10 : f194_S) : f194_o_r2 (fun σ => f194_a k (f194_F_r2 k G_r3 G_c3 G_c8 G_c10) .nx σ) = f194_r2_B k (f194_o_r3 G_r3) (f194_o_c3 G_c3) := by kernel_rfl
def f194_r2 (k : Nat) : f194_t_r2 := f194_r2_B k (f194_r3 k) (f194_c3 k)
theorem f194_r2_E (k : Nat) : f194_o_r2 (f194_C_r2 k) = f194_r2 k :=
  Eq.trans (congrArg f194_o_r2 (ap_fn (f194_f_r2 k))) ((f194_r2_P k (f194_C_r3 k) (f194_C_c3 k) (f194_C_c8 k) (f194_C_c10 k)).trans (by rw [f194_r3_E k, f194_c3_E k] <;> rfl))
theorem f194_entry_P (k : Nat) (G_r2 G_r3 G_c3 G_c8 G_c10 : f194_S) (xs : DL f194_sig) : f194_a k (.c (f194_p 2) 0 :: .c (f194_p 6) 0 :: .c (f194_p 28) 0 :: .j G_r2 :: f194_F_r2 k G_r3 G_c3 G_c8 G_c10) .nx (σ0 65 208 f194_sig xs) = f194_entry_B k (f194_o_r2 G_r2) xs.1 xs.2.1 xs.2.2.1 xs.2.2.2.1 xs.2.2.2.2.1 := by kernel_rfl
def f194 (k : Nat) (a0 : Td36) (a1 : Int) (a2 : Int) (a3 : Int) (a4 : Int) : Option (Bool × Unit) := f194_entry_B k (f194_r2 k) a0 a1 a2 a3 a4
theorem f194_fe (k : Nat) : f194_a k [.c (f194_p 1) 0] = f194_a k (.c (f194_p 2) 0 :: .c (f194_p 6) 0 :: .c (f194_p 28) 0 :: .j (f194_C_r2 k) :: f194_F_r2 k (f194_C_r3 k) (f194_C_c3 k) (f194_C_c8 k) (f194_C_c10 k)) := (Eq.trans ap_sq (ap_cons _ (Eq.trans ap_sq (ap_cons _ (Eq.trans ap_sq (Eq.trans ap_sq (ap_cons _ (Eq.trans (ap_pass (C := (f194_C_r2 k)) (fun _ => rfl)) (ap_cons _ (f194_f_r2 k))))))))))
theorem f194_eq (k : Nat) (xs : DL f194_sig) : den T f194_Y (f194_E k) f194_A k f194_c 0 (σ0 65 208 f194_sig xs) (Kfin T f194_rs f194_ts) = f194 k xs.1 xs.2.1 xs.2.2.1 xs.2.2.2.1 xs.2.2.2.2.1 :=
  Eq.trans (Eq.trans den_sb (ap_at (f194_fe k) _)) ((f194_entry_P k (f194_C_r2 k) (f194_C_r3 k) (f194_C_c3 k) (f194_C_c8 k) (f194_C_c10 k) xs).trans (by rw [f194_r2_E k] <;> rfl))
noncomputable def f194_con (k : Nat) : Con := ⟨f194_sig, f194_rs, fun xs => f194 k xs.1 xs.2.1 xs.2.2.1 xs.2.2.2.1 xs.2.2.2.2.1⟩
theorem f194_ok (k : Nat) : PureOK Try.prog 194 f194_sig f194_rs (fun xs => f194 k xs.1 xs.2.1 xs.2.2.1 xs.2.2.2.1 xs.2.2.2.2.1) :=
  (pure_of_den (k := k) (A := f194_A) (T := T) (Y := f194_Y) (E := f194_E k) (M := 208) (ts := f194_ts) T_ok ⟨f110_ok k, f116_ok k, trivial⟩ ⟨f110_ent, f116_ent, trivial⟩ mixed (f := 194) (fn := Try.f194) (c := f194_c) (by kernel_rfl) (by kernel_rfl) (by kernel_rfl) (by decide) (by kernel_rfl)).congr fun xs => (f194_eq k xs).symm
theorem f194_ent : Ent Try.prog 194 := fun args w => by kernel_rfl
/-! ### (*terrier/route.search).offer: function 157 -/
noncomputable def f157_c : Code := Try.f157.body.getD .skip
noncomputable abbrev f157_p (n : Nat) : Code := sb f157_c n
abbrev f157_sig : List PT := [(false, (.int .i64)), (false, (.int .i64))]
abbrev f157_rs : List RT := []
abbrev f157_ts : List RV := []
abbrev f157_ls : List LO := [.box [.d Tq9, .o, .d Tq22], .row Tq26]
abbrev f157_S := St → Option (LOD f157_ls × RDL f157_rs)
abbrev f157_L := List (Fr (LOD f157_ls × RDL f157_rs))
def f157_Y : Tys := []
noncomputable def f157_E (k : Nat) : Env := [(194, .c (f194_con k))]
def f157_A : Ann := { conds := [(2, { slots := [(0, .id), (1, .id), (2, .id), (6, .id), (7, .id)], keys := [(0, [.val false Tq2, .val false Tq6, .val false Tq2, .id, .val false Tq1]), (1, [])] }), (4, { slots := [(0, .id)], keys := [(0, [.val false Tq2, .val false Tq6, .val false Tq2, .id, .val false Tq1]), (1, [])] })], regs := [(3, { slots := [(0, .id), (1, .id), (2, .id), (6, .id), (7, .id), (54, .bool)], keys := [(0, [.val false Tq2, .val false Tq6, .val false Tq2, .id, .val false Tq1]), (1, [])] })] }
noncomputable abbrev f157_a (k : Nat) (F : f157_L) : Kont (LOD f157_ls × RDL f157_rs) := ap T f157_Y (f157_E k) f157_A k (KfinB T true f157_ls f157_rs f157_ts) F
def f157_s_c2 (y0_0 : (List (Int × Int))) (y0_1 : (List (Int × (Int × (Int × Int))))) (y0_2 : (List (Int × Int))) (y0_4 : (List (List Int))) (y1 : (List (Int × (Int × (Int × (Bool × Bool)))))) (x1 : Int) (x2 : Int) (x6 : Int) (x7 : Int) : St := mkS 65 210 [(0, aP 0), (1, aI x1), (2, aI x2), (6, aI x6), (7, aI x7)] [(0, .box [cV Tq2 y0_0, cV Tq6 y0_1, cV Tq2 y0_2, .own 1, cV Tq1 y0_4]), (1, .vec Tq26 y1)]
abbrev f157_t_c2 := (List (Int × Int)) → (List (Int × (Int × (Int × Int)))) → (List (Int × Int)) → (List (List Int)) → (List (Int × (Int × (Int × (Bool × Bool))))) → Int → Int → Int → Int → Option (((Td12 × Td27 × Unit) × (List (Int × Td29)) × Unit) × (Unit))
abbrev f157_o_c2 (R : f157_S) : f157_t_c2 := (fun y0_0 y0_1 y0_2 y0_4 y1 x1 x2 x6 x7 => R (f157_s_c2 y0_0 y0_1 y0_2 y0_4 y1 x1 x2 x6 x7))
noncomputable def f157_Q_c2 (k : Nat) : f157_L := [.c (f157_p 7) 0]
noncomputable def f157_C_c2 (k : Nat) : f157_S := fun σ => f157_a k (f157_Q_c2 k) .nx σ
def f157_s_r3 (y0_0 : (List (Int × Int))) (y0_1 : (List (Int × (Int × (Int × Int))))) (y0_2 : (List (Int × Int))) (y0_4 : (List (List Int))) (y1 : (List (Int × (Int × (Int × (Bool × Bool)))))) (x1 : Int) (x2 : Int) (x54 : Bool) (x6 : Int) (x7 : Int) : St := mkS 65 210 [(0, aP 0), (1, aI x1), (2, aI x2), (6, aI x6), (7, aI x7), (54, aB x54)] [(0, .box [cV Tq2 y0_0, cV Tq6 y0_1, cV Tq2 y0_2, .own 1, cV Tq1 y0_4]), (1, .vec Tq26 y1)]
abbrev f157_t_r3 := (List (Int × Int)) → (List (Int × (Int × (Int × Int)))) → (List (Int × Int)) → (List (List Int)) → (List (Int × (Int × (Int × (Bool × Bool))))) → Int → Int → Bool → Int → Int → Option (((Td12 × Td27 × Unit) × (List (Int × Td29)) × Unit) × (Unit))
abbrev f157_o_r3 (R : f157_S) : f157_t_r3 := (fun y0_0 y0_1 y0_2 y0_4 y1 x1 x2 x54 x6 x7 => R (f157_s_r3 y0_0 y0_1 y0_2 y0_4 y1 x1 x2 x54 x6 x7))
noncomputable def f157_Q_r3 (k : Nat) : f157_L := [.c (f157_p 15) 0]
noncomputable def f157_C_r3 (k : Nat) : f157_S := fun σ => f157_a k (f157_Q_r3 k) .nx σ
def f157_s_c4 (y0_0 : (List (Int × Int))) (y0_1 : (List (Int × (Int × (Int × Int))))) (y0_2 : (List (Int × Int))) (y0_4 : (List (List Int))) (y1 : (List (Int × (Int × (Int × (Bool × Bool)))))) : St := mkS 65 210 [(0, aP 0)] [(0, .box [cV Tq2 y0_0, cV Tq6 y0_1, cV Tq2 y0_2, .own 1, cV Tq1 y0_4]), (1, .vec Tq26 y1)]
abbrev f157_t_c4 := (List (Int × Int)) → (List (Int × (Int × (Int × Int)))) → (List (Int × Int)) → (List (List Int)) → (List (Int × (Int × (Int × (Bool × Bool))))) → Option (((Td12 × Td27 × Unit) × (List (Int × Td29)) × Unit) × (Unit))
abbrev f157_o_c4 (R : f157_S) : f157_t_c4 := (fun y0_0 y0_1 y0_2 y0_4 y1 => R (f157_s_c4 y0_0 y0_1 y0_2 y0_4 y1))
noncomputable def f157_Q_c4 (k : Nat) : f157_L := []
noncomputable def f157_C_c4 (k : Nat) : f157_S := fun σ => f157_a k (f157_Q_c4 k) .nx σ
noncomputable def f157_F_c4 (k : Nat) : f157_L := []
theorem f157_f_c4 (k : Nat) : f157_a k (f157_Q_c4 k) = f157_a k (f157_F_c4 k) := rfl
noncomputable def f157_F_r3 (k : Nat) (G_c4 : f157_S) : f157_L := .c (f157_p 15) 0 :: .j G_c4 :: f157_F_c4 k
theorem f157_f_r3 (k : Nat) : f157_a k (f157_Q_r3 k) = f157_a k (f157_F_r3 k (f157_C_c4 k)) := (ap_cons _ (Eq.trans (ap_pass (C := (f157_C_c4 k)) (fun _ => rfl)) (ap_cons _ (f157_f_c4 k))))
noncomputable def f157_F_c2 (k : Nat) (G_r3 G_c4 : f157_S) : f157_L := .c (f157_p 14) 0 :: .j G_r3 :: f157_F_r3 k G_c4
theorem f157_f_c2 (k : Nat) : f157_a k (f157_Q_c2 k) = f157_a k (f157_F_c2 k (f157_C_r3 k) (f157_C_c4 k)) := (Eq.trans ap_sq (ap_cons _ (Eq.trans (ap_pass (C := (f157_C_r3 k)) (fun _ => rfl)) (ap_cons _ (f157_f_r3 k)))))
def f157_entry_B (k : Nat) (g_c2 : f157_t_c2) (l0 : Td12) (l1 : Td27) (l2 : Td34) (a0 : Int) (a1 : Int) : Option (((Td12 × Td27 × Unit) × (List (Int × Td29)) × Unit) × (Unit)) := (if 0 ≤ a1 then (if a1 < (l0.2.1.length : Int) then (if 0 ≤ a0 then (if 0 ≤ a0 then (if a0 < (l2.length : Int) then (if 0 ≤ a0 then (if a0 < (l2.length : Int) then (g_c2 l0.1 l0.2.1 l0.2.2 l1 l2 a0 a1 (w64 (((((l0.2.1.getD (a1).toNat (0, (0, (0, 0)))).2).2).1) + ((l2.getD ((a0).toNat) (0, (0, (0, (false, false))))).1))) (w64 (1 + (((l2.getD ((a0).toNat) (0, (0, (0, (false, false))))).2).1)))) else none) else none) else none) else none) else (g_c2 l0.1 l0.2.1 l0.2.2 l1 l2 a0 a1 ((((l0.2.1.getD (a1).toNat (0, (0, (0, 0)))).2).2).1) 1)) else none) else none)
def f157_c2_B (k : Nat) (g_r3 : f157_t_r3) (y0_0 : (List (Int × Int))) (y0_1 : (List (Int × (Int × (Int × Int))))) (y0_2 : (List (Int × Int))) (y0_4 : (List (List Int))) (y1 : (List (Int × (Int × (Int × (Bool × Bool)))))) (x1 : Int) (x2 : Int) (x6 : Int) (x7 : Int) : Option (((Td12 × Td27 × Unit) × (List (Int × Td29)) × Unit) × (Unit)) := (if 0 ≤ x2 then (if x2 < (y1.length : Int) then (if ¬ ((((((y1.getD ((x2).toNat) (0, (0, (0, (false, false))))).2).2).2).2) = true) then ((f194 k ((y0_0, (y0_1, y0_2)), (y1, y0_4)) x1 x2 x6 x7).bind fun r1 => (g_r3 y0_0 y0_1 y0_2 y0_4 y1 x1 x2 (decide (r1.1 = true)) x6 x7)) else (g_r3 y0_0 y0_1 y0_2 y0_4 y1 x1 x2 false x6 x7)) else none) else none)
def f157_r3_B (k : Nat) (g_c4 : f157_t_c4) (y0_0 : (List (Int × Int))) (y0_1 : (List (Int × (Int × (Int × Int))))) (y0_2 : (List (Int × Int))) (y0_4 : (List (List Int))) (y1 : (List (Int × (Int × (Int × (Bool × Bool)))))) (x1 : Int) (x2 : Int) (x54 : Bool) (x6 : Int) (x7 : Int) : Option (((Td12 × Td27 × Unit) × (List (Int × Td29)) × Unit) × (Unit)) := (if x54 = true then (if 0 ≤ x2 then (if x2 < (y1.length : Int) then (g_c4 y0_0 y0_1 y0_2 y0_4 (y1.set ((x2).toNat) (x6, (x7, (x1, (true, false)))))) else none) else none) else (g_c4 y0_0 y0_1 y0_2 y0_4 y1))
def f157_c4_B (k : Nat) (y0_0 : (List (Int × Int))) (y0_1 : (List (Int × (Int × (Int × Int))))) (y0_2 : (List (Int × Int))) (y0_4 : (List (List Int))) (y1 : (List (Int × (Int × (Int × (Bool × Bool)))))) : Option (((Td12 × Td27 × Unit) × (List (Int × Td29)) × Unit) × (Unit)) := some ((((y0_0, (y0_1, y0_2)), y0_4, ()), (y1, ())), (()))
theorem f157_c4_P (k : Nat) : f157_o_c4 (fun σ => f157_a k (f157_F_c4 k) .nx σ) = f157_c4_B k := by kernel_rfl
def f157_c4 (k : Nat) : f157_t_c4 := f157_c4_B k
theorem f157_c4_E (k : Nat) : f157_o_c4 (f157_C_c4 k) = f157_c4 k :=
  Eq.trans (congrArg f157_o_c4 (ap_fn (f157_f_c4 k))) ((f157_c4_P k).trans (by rfl))
theorem f157_r3_P (k : Nat) (G_c4 : f157_S) : f157_o_r3 (fun σ => f157_a k (f157_F_r3 k G_c4) .nx σ) = f157_r3_B k (f157_o_c4 G_c4) := by kernel_rfl
def f157_r3 (k : Nat) : f157_t_r3 := f157_r3_B k (f157_c4 k)
theorem f157_r3_E (k : Nat) : f157_o_r3 (f157_C_r3 k) = f157_r3 k :=
  Eq.trans (congrArg f157_o_r3 (ap_fn (f157_f_r3 k))) ((f157_r3_P k (f157_C_c4 k)).trans (by rw [f157_c4_E k] <;> rfl))
theorem f157_c2_P (k : Nat) (G_r3 G_c4 : f157_S) : f157_o_c2 (fun σ => f157_a k (f157_F_c2 k G_r3 G_c4) .nx σ) = f157_c2_B k (f157_o_r3 G_r3) := by kernel_rfl
def f157_c2 (k : Nat) : f157_t_c2 := f157_c2_B k (f157_r3 k)
theorem f157_c2_E (k : Nat) : f157_o_c2 (f157_C_c2 k) = f157_c2 k :=
  Eq.trans (congrArg f157_o_c2 (ap_fn (f157_f_c2 k))) ((f157_c2_P k (f157_C_r3 k) (f157_C_c4 k)).trans (by rw [f157_r3_E k] <;> rfl))
theorem f157_entry_P (k : Nat) (G_c2 G_r3 G_c4 : f157_S) (x : LOD f157_ls) (xs : DL f157_sig) : f157_a k (.c (f157_p 2) 0 :: .c (f157_p 12) 0 :: .c (f157_p 13) 0 :: .j G_c2 :: f157_F_c2 k G_r3 G_c4) .nx (σ0B 65 210 0 f157_ls x f157_sig xs) = f157_entry_B k (f157_o_c2 G_c2) x.1.1 x.1.2.1 x.2.1 xs.1 xs.2.1 := by kernel_rfl
def f157 (k : Nat) (l0 : Td12) (l1 : Td27) (l2 : Td34) (a0 : Int) (a1 : Int) : Option (((Td12 × Td27 × Unit) × (List (Int × Td29)) × Unit) × (Unit)) := f157_entry_B k (f157_c2 k) l0 l1 l2 a0 a1
theorem f157_fe (k : Nat) : f157_a k [.c (f157_p 1) 0] = f157_a k (.c (f157_p 2) 0 :: .c (f157_p 12) 0 :: .c (f157_p 13) 0 :: .j (f157_C_c2 k) :: f157_F_c2 k (f157_C_r3 k) (f157_C_c4 k)) := (Eq.trans ap_sq (ap_cons _ (Eq.trans ap_sq (Eq.trans ap_sq (ap_cons _ (ap_cons _ (Eq.trans (ap_pass (C := (f157_C_c2 k)) (fun _ => rfl)) (ap_cons _ (f157_f_c2 k)))))))))
theorem f157_eq (k : Nat) (x : LOD f157_ls) (xs : DL f157_sig) : den T f157_Y (f157_E k) f157_A k f157_c 0 (σ0B 65 210 0 f157_ls x f157_sig xs) (KfinB T true f157_ls f157_rs f157_ts) = f157 k x.1.1 x.1.2.1 x.2.1 xs.1 xs.2.1 :=
  Eq.trans (Eq.trans den_sb (ap_at (f157_fe k) _)) ((f157_entry_P k (f157_C_c2 k) (f157_C_r3 k) (f157_C_c4 k) x xs).trans (by rw [f157_c2_E k] <;> rfl))
noncomputable def f157_con (k : Nat) : BCon := ⟨0, true, f157_ls, f157_sig, f157_rs, fun x xs => f157 k x.1.1 x.1.2.1 x.2.1 xs.1 xs.2.1⟩
theorem f157_ok (k : Nat) : BoxOK Try.prog 157 0 true f157_ls f157_sig f157_rs (fun x xs => f157 k x.1.1 x.1.2.1 x.2.1 xs.1 xs.2.1) :=
  (box_of_den (k := k) (A := f157_A) (T := T) (Y := f157_Y) (E := f157_E k) (M := 210) (ts := f157_ts) T_ok ⟨f194_ok k, trivial⟩ ⟨f194_ent, trivial⟩ mixed (f := 157) (fn := Try.f157) (c := f157_c) (by kernel_rfl) (by kernel_rfl) (by kernel_rfl) (by decide) (by kernel_rfl) (by decide)).congr fun x xs => (f157_eq k x xs).symm
theorem f157_ent : Ent Try.prog 157 := fun args w => by kernel_rfl
/-! ### (*terrier/route.search).before: function 115 -/
noncomputable def f115_c : Code := Try.f115.body.getD .skip
noncomputable abbrev f115_p (n : Nat) : Code := sb f115_c n
abbrev f115_sig : List PT := [(false, (.ptr Tq33)), (false, (.int .i64)), (false, (.int .i64))]
abbrev f115_rs : List RT := [.d false .bool]
abbrev f115_ts : List RV := [.tmp 6]
abbrev f115_S := St → Option (RDL f115_rs)
abbrev f115_L := List (Fr (RDL f115_rs))
def f115_Y : Tys := []
noncomputable def f115_E (k : Nat) : Env := [(110, .c (f110_con k)), (116, .c (f116_con k))]
def f115_A : Ann := {}
noncomputable abbrev f115_a (k : Nat) (F : f115_L) : Kont (RDL f115_rs) := ap T f115_Y (f115_E k) f115_A k (Kfin T f115_rs f115_ts) F
def f115_entry_B (k : Nat) (a0 : Td36) (a1 : Int) (a2 : Int) : Option (Bool × Unit) := (if 0 ≤ a1 then (if a1 < (a0.2.1.length : Int) then (if 0 ≤ a2 then (if a2 < (a0.2.1.length : Int) then (if ¬ (((a0.2.1.getD (a1).toNat (0, (0, (0, (false, false))))).1) = ((a0.2.1.getD (a2).toNat (0, (0, (0, (false, false))))).1)) then some (decide (((a0.2.1.getD (a1).toNat (0, (0, (0, (false, false))))).1) < ((a0.2.1.getD (a2).toNat (0, (0, (0, (false, false))))).1)), ()) else (if ¬ ((((a0.2.1.getD (a1).toNat (0, (0, (0, (false, false))))).2).1) = (((a0.2.1.getD (a2).toNat (0, (0, (0, (false, false))))).2).1)) then some (decide ((((a0.2.1.getD (a1).toNat (0, (0, (0, (false, false))))).2).1) < (((a0.2.1.getD (a2).toNat (0, (0, (0, (false, false))))).2).1)), ()) else ((f116 k a0 a1).bind fun r1 => ((f116 k a0 a2).bind fun r2 => ((f110 k r1.1 r2.1).bind fun r3 => some (decide (r3.1 < 0), ())))))) else none) else none) else none) else none)
theorem f115_entry_P (k : Nat) (xs : DL f115_sig) : f115_a k (.c (f115_p 1) 0 :: []) .nx (σ0 51 160 f115_sig xs) = f115_entry_B k xs.1 xs.2.1 xs.2.2.1 := by kernel_rfl
def f115 (k : Nat) (a0 : Td36) (a1 : Int) (a2 : Int) : Option (Bool × Unit) := f115_entry_B k a0 a1 a2
theorem f115_eq (k : Nat) (xs : DL f115_sig) : den T f115_Y (f115_E k) f115_A k f115_c 0 (σ0 51 160 f115_sig xs) (Kfin T f115_rs f115_ts) = f115 k xs.1 xs.2.1 xs.2.2.1 :=
  Eq.trans (Eq.trans den_sb (ap_at (ap_cons _ rfl) _)) ((f115_entry_P k xs).trans (by rfl))
noncomputable def f115_con (k : Nat) : Con := ⟨f115_sig, f115_rs, fun xs => f115 k xs.1 xs.2.1 xs.2.2.1⟩
theorem f115_ok (k : Nat) : PureOK Try.prog 115 f115_sig f115_rs (fun xs => f115 k xs.1 xs.2.1 xs.2.2.1) :=
  (pure_of_den (k := k) (A := f115_A) (T := T) (Y := f115_Y) (E := f115_E k) (M := 160) (ts := f115_ts) T_ok ⟨f110_ok k, f116_ok k, trivial⟩ ⟨f110_ent, f116_ent, trivial⟩ mixed (f := 115) (fn := Try.f115) (c := f115_c) (by kernel_rfl) (by kernel_rfl) (by kernel_rfl) (by decide) (by kernel_rfl)).congr fun xs => (f115_eq k xs).symm
theorem f115_ent : Ent Try.prog 115 := fun args w => by kernel_rfl
/-! ### (*terrier/route.search).least: function 158 -/
noncomputable def f158_c : Code := Try.f158.body.getD .skip
noncomputable abbrev f158_p (n : Nat) : Code := sb f158_c n
abbrev f158_sig : List PT := [(false, (.ptr Tq33))]
abbrev f158_rs : List RT := [.d false (.int .i64)]
abbrev f158_ts : List RV := [.tmp 2]
abbrev f158_S := St → Option (RDL f158_rs)
abbrev f158_L := List (Fr (RDL f158_rs))
def f158_Y : Tys := []
noncomputable def f158_E (k : Nat) : Env := [(115, .c (f115_con k))]
def f158_A : Ann := { loops := [(0, { slots := [(0, .id), (3, .id), (9, .val false Tq26), (10, .id), (11, .id)] })], regs := [(5, { slots := [(0, .id), (3, .id), (4, .id), (9, .val false Tq26), (10, .id), (11, .id), (22, .bool)] }), (6, { slots := [(0, .id), (3, .id), (4, .id), (9, .val false Tq26), (10, .id), (11, .id), (30, .bool)] })], blks := [(1, { slots := [(0, .id), (3, .id), (9, .val false Tq26), (10, .id), (11, .id)] })], conds := [(7, { slots := [(0, .id), (3, .id), (9, .val false Tq26), (10, .id), (11, .id)] })] }
noncomputable abbrev f158_a (k : Nat) (F : f158_L) : Kont (RDL f158_rs) := ap T f158_Y (f158_E k) f158_A k (Kfin T f158_rs f158_ts) F
def f158_s_l0 (x0 : (((List (Int × Int)) × ((List (Int × (Int × (Int × Int)))) × (List (Int × Int)))) × ((List (Int × (Int × (Int × (Bool × Bool))))) × (List (List Int))))) (x10 : Int) (x11 : Int) (x3 : Int) (x9 : (List (Int × (Int × (Int × (Bool × Bool)))))) : St := mkS 34 112 [(0, .cp (.one (.fptr Tq33 x0 0))), (3, aI x3), (9, aV Tq26 x9), (10, aI x10), (11, aI x11)] []
abbrev f158_t_l0 := (((List (Int × Int)) × ((List (Int × (Int × (Int × Int)))) × (List (Int × Int)))) × ((List (Int × (Int × (Int × (Bool × Bool))))) × (List (List Int)))) → Int → Int → Int → (List (Int × (Int × (Int × (Bool × Bool))))) → Option (Int × Unit)
abbrev f158_o_l0 (R : f158_S) : f158_t_l0 := (fun x0 x10 x11 x3 x9 => R (f158_s_l0 x0 x10 x11 x3 x9))
noncomputable def f158_Q_l0 (k : Nat) (R_l0 : f158_S) : f158_L := [.c (f158_p 116) 0, .j (fun σ => R_l0 (cut f158_A.loops 0 σ)), .blk 0, .c (f158_p 15) 0]
noncomputable def f158_C_l0 (k : Nat) (n : Nat) (σ : St) : Option (RDL f158_rs) := loopK (fun σ K => den T f158_Y (f158_E k) f158_A k (f158_p 116) 0 σ K) (cut f158_A.loops 0) (f158_a k [.blk 0, .c (f158_p 15) 0]) n σ
def f158_s_r5 (x0 : (((List (Int × Int)) × ((List (Int × (Int × (Int × Int)))) × (List (Int × Int)))) × ((List (Int × (Int × (Int × (Bool × Bool))))) × (List (List Int))))) (x10 : Int) (x11 : Int) (x22 : Bool) (x3 : Int) (x9 : (List (Int × (Int × (Int × (Bool × Bool)))))) : St := mkS 34 112 [(0, .cp (.one (.fptr Tq33 x0 0))), (3, aI x3), (4, aI x11), (9, aV Tq26 x9), (10, aI x10), (11, aI x11), (22, aB x22)] []
abbrev f158_t_r5 := (((List (Int × Int)) × ((List (Int × (Int × (Int × Int)))) × (List (Int × Int)))) × ((List (Int × (Int × (Int × (Bool × Bool))))) × (List (List Int)))) → Int → Int → Bool → Int → (List (Int × (Int × (Int × (Bool × Bool))))) → Option (Int × Unit)
abbrev f158_o_r5 (R : f158_S) : f158_t_r5 := (fun x0 x10 x11 x22 x3 x9 => R (f158_s_r5 x0 x10 x11 x22 x3 x9))
noncomputable def f158_Q_r5 (k : Nat) (R_l0 : f158_S) : f158_L := [.c (f158_p 14949) 1, .c (f158_p 7475) 1, .blk 1, .c (f158_p 935) 0, .j (fun σ => R_l0 (cut f158_A.loops 0 σ)), .blk 0, .c (f158_p 15) 0]
noncomputable def f158_C_r5 (k : Nat) (R_l0 : f158_S) : f158_S := fun σ => f158_a k (f158_Q_r5 k R_l0) .nx σ
def f158_s_b1 (x0 : (((List (Int × Int)) × ((List (Int × (Int × (Int × Int)))) × (List (Int × Int)))) × ((List (Int × (Int × (Int × (Bool × Bool))))) × (List (List Int))))) (x10 : Int) (x11 : Int) (x3 : Int) (x9 : (List (Int × (Int × (Int × (Bool × Bool)))))) : St := mkS 34 112 [(0, .cp (.one (.fptr Tq33 x0 0))), (3, aI x3), (9, aV Tq26 x9), (10, aI x10), (11, aI x11)] []
abbrev f158_t_b1 := (((List (Int × Int)) × ((List (Int × (Int × (Int × Int)))) × (List (Int × Int)))) × ((List (Int × (Int × (Int × (Bool × Bool))))) × (List (List Int)))) → Int → Int → Int → (List (Int × (Int × (Int × (Bool × Bool))))) → Option (Int × Unit)
abbrev f158_o_b1 (R : f158_S) : f158_t_b1 := (fun x0 x10 x11 x3 x9 => R (f158_s_b1 x0 x10 x11 x3 x9))
noncomputable def f158_Q_b1 (k : Nat) (R_l0 : f158_S) : f158_L := [.c (f158_p 935) 0, .j (fun σ => R_l0 (cut f158_A.loops 0 σ)), .blk 0, .c (f158_p 15) 0]
noncomputable def f158_C_b1 (k : Nat) (R_l0 : f158_S) : f158_S := fun σ => f158_a k (f158_Q_b1 k R_l0) .nx σ
def f158_s_r6 (x0 : (((List (Int × Int)) × ((List (Int × (Int × (Int × Int)))) × (List (Int × Int)))) × ((List (Int × (Int × (Int × (Bool × Bool))))) × (List (List Int))))) (x10 : Int) (x11 : Int) (x3 : Int) (x30 : Bool) (x9 : (List (Int × (Int × (Int × (Bool × Bool)))))) : St := mkS 34 112 [(0, .cp (.one (.fptr Tq33 x0 0))), (3, aI x3), (4, aI x11), (9, aV Tq26 x9), (10, aI x10), (11, aI x11), (30, aB x30)] []
abbrev f158_t_r6 := (((List (Int × Int)) × ((List (Int × (Int × (Int × Int)))) × (List (Int × Int)))) × ((List (Int × (Int × (Int × (Bool × Bool))))) × (List (List Int)))) → Int → Int → Int → Bool → (List (Int × (Int × (Int × (Bool × Bool))))) → Option (Int × Unit)
abbrev f158_o_r6 (R : f158_S) : f158_t_r6 := (fun x0 x10 x11 x3 x30 x9 => R (f158_s_r6 x0 x10 x11 x3 x30 x9))
noncomputable def f158_Q_r6 (k : Nat) (R_l0 : f158_S) : f158_L := [.c (f158_p 14951) 1, .blk 1, .c (f158_p 935) 0, .j (fun σ => R_l0 (cut f158_A.loops 0 σ)), .blk 0, .c (f158_p 15) 0]
noncomputable def f158_C_r6 (k : Nat) (R_l0 : f158_S) : f158_S := fun σ => f158_a k (f158_Q_r6 k R_l0) .nx σ
def f158_s_c7 (x0 : (((List (Int × Int)) × ((List (Int × (Int × (Int × Int)))) × (List (Int × Int)))) × ((List (Int × (Int × (Int × (Bool × Bool))))) × (List (List Int))))) (x10 : Int) (x11 : Int) (x3 : Int) (x9 : (List (Int × (Int × (Int × (Bool × Bool)))))) : St := mkS 34 112 [(0, .cp (.one (.fptr Tq33 x0 0))), (3, aI x3), (9, aV Tq26 x9), (10, aI x10), (11, aI x11)] []
abbrev f158_t_c7 := (((List (Int × Int)) × ((List (Int × (Int × (Int × Int)))) × (List (Int × Int)))) × ((List (Int × (Int × (Int × (Bool × Bool))))) × (List (List Int)))) → Int → Int → Int → (List (Int × (Int × (Int × (Bool × Bool))))) → Option (Int × Unit)
abbrev f158_o_c7 (R : f158_S) : f158_t_c7 := (fun x0 x10 x11 x3 x9 => R (f158_s_c7 x0 x10 x11 x3 x9))
noncomputable def f158_Q_c7 (k : Nat) (R_l0 : f158_S) : f158_L := [.blk 1, .c (f158_p 935) 0, .j (fun σ => R_l0 (cut f158_A.loops 0 σ)), .blk 0, .c (f158_p 15) 0]
noncomputable def f158_C_c7 (k : Nat) (R_l0 : f158_S) : f158_S := fun σ => f158_a k (f158_Q_c7 k R_l0) .nx σ
noncomputable def f158_F_b1 (k : Nat) (G_l0 : f158_S) : f158_L := .c (f158_p 935) 0 :: .j (fun σ => G_l0 (cut f158_A.loops 0 σ)) :: .blk 0 :: .c (f158_p 15) 0 :: []
theorem f158_f_b1 (k : Nat) (R_l0 : f158_S) : f158_a k (f158_Q_b1 k R_l0) = f158_a k (f158_F_b1 k R_l0) := (ap_cons _ (ap_cons _ (ap_cons _ (ap_cons _ rfl))))
noncomputable def f158_F_c7 (k : Nat) (G_l0 G_b1 : f158_S) : f158_L := .b 1 (fun σ => G_b1 (cut f158_A.blks 1 σ)) :: f158_F_b1 k G_l0
theorem f158_f_c7 (k : Nat) (R_l0 : f158_S) : f158_a k (f158_Q_c7 k R_l0) = f158_a k (f158_F_c7 k R_l0 (f158_C_b1 k R_l0)) := (Eq.trans (ap_blkb (C := (f158_C_b1 k R_l0)) (fun _ => rfl)) (ap_cons _ (f158_f_b1 k R_l0)))
noncomputable def f158_F_r6 (k : Nat) (G_l0 G_b1 G_c7 : f158_S) : f158_L := .c (f158_p 14951) 1 :: .j G_c7 :: f158_F_c7 k G_l0 G_b1
theorem f158_f_r6 (k : Nat) (R_l0 : f158_S) : f158_a k (f158_Q_r6 k R_l0) = f158_a k (f158_F_r6 k R_l0 (f158_C_b1 k R_l0) (f158_C_c7 k R_l0)) := (ap_cons _ (Eq.trans (ap_pass (C := (f158_C_c7 k R_l0)) (fun _ => rfl)) (ap_cons _ (f158_f_c7 k R_l0))))
noncomputable def f158_F_r5 (k : Nat) (G_l0 G_b1 G_r6 G_c7 : f158_S) : f158_L := .c (f158_p 14949) 1 :: .c (f158_p 14950) 1 :: .j G_r6 :: f158_F_r6 k G_l0 G_b1 G_c7
theorem f158_f_r5 (k : Nat) (R_l0 : f158_S) : f158_a k (f158_Q_r5 k R_l0) = f158_a k (f158_F_r5 k R_l0 (f158_C_b1 k R_l0) (f158_C_r6 k R_l0) (f158_C_c7 k R_l0)) := (ap_cons _ (Eq.trans ap_sq (ap_cons _ (Eq.trans (ap_pass (C := (f158_C_r6 k R_l0)) (fun _ => rfl)) (ap_cons _ (f158_f_r6 k R_l0))))))
noncomputable def f158_F_l0 (k : Nat) (G_l0 G_r5 G_b1 G_r6 G_c7 : f158_S) : f158_L := .c (f158_p 232) 0 :: .c (f158_p 466) 0 :: .j (fun σ => f158_a k (.c (f158_p 3736) 1 :: .c (f158_p 14948) 1 :: .j G_r5 :: f158_F_r5 k G_l0 G_b1 G_r6 G_c7) .nx σ) :: f158_F_b1 k G_l0
theorem f158_f_l0 (k : Nat) (R_l0 : f158_S) : f158_a k (f158_Q_l0 k R_l0) = f158_a k (f158_F_l0 k R_l0 (f158_C_r5 k R_l0) (f158_C_b1 k R_l0) (f158_C_r6 k R_l0) (f158_C_c7 k R_l0)) := (Eq.trans ap_sq (ap_cons _ (Eq.trans ap_sq (ap_cons _ (Eq.trans ap_sq (Eq.trans (ap_bl 1) (Eq.trans (ap_j (Eq.trans ap_sq (ap_cons _ (Eq.trans ap_sq (Eq.trans ap_sq (ap_cons _ (Eq.trans (ap_pass (C := (f158_C_r5 k R_l0)) (fun _ => rfl)) (ap_cons _ (f158_f_r5 k R_l0))))))))) (ap_cons _ (f158_f_b1 k R_l0)))))))))
def f158_entry_B (k : Nat) (g_l0 : f158_t_l0) (a0 : Td36) : Option (Int × Unit) := (g_l0 a0 (a0.2.1.length : Int) 0 (-1) a0.2.1)
def f158_l0_B (k : Nat) (g_r5 : f158_t_r5) (x0 : (((List (Int × Int)) × ((List (Int × (Int × (Int × Int)))) × (List (Int × Int)))) × ((List (Int × (Int × (Int × (Bool × Bool))))) × (List (List Int))))) (x10 : Int) (x11 : Int) (x3 : Int) (x9 : (List (Int × (Int × (Int × (Bool × Bool)))))) : Option (Int × Unit) := (if x11 < x10 then (if 0 ≤ x11 then (if x11 < (x9.length : Int) then (if ¬ ((((((x9.getD (x11).toNat (0, (0, (0, (false, false))))).2).2).2).1) = true) then (g_r5 x0 x10 x11 true x3 x9) else (g_r5 x0 x10 x11 (decide ((((((x9.getD (x11).toNat (0, (0, (0, (false, false))))).2).2).2).2) = true)) x3 x9)) else none) else none) else some (x3, ()))
def f158_r5_B (k : Nat) (g_b1 : f158_t_b1) (g_r6 : f158_t_r6) (x0 : (((List (Int × Int)) × ((List (Int × (Int × (Int × Int)))) × (List (Int × Int)))) × ((List (Int × (Int × (Int × (Bool × Bool))))) × (List (List Int))))) (x10 : Int) (x11 : Int) (x22 : Bool) (x3 : Int) (x9 : (List (Int × (Int × (Int × (Bool × Bool)))))) : Option (Int × Unit) := (if x22 = true then (g_b1 x0 x10 x11 x3 x9) else (if x3 < 0 then (g_r6 x0 x10 x11 x3 true x9) else ((f115 k x0 x11 x3).bind fun r1 => (g_r6 x0 x10 x11 x3 (decide (r1.1 = true)) x9))))
def f158_b1_B (k : Nat) (g_l0 : f158_t_l0) (x0 : (((List (Int × Int)) × ((List (Int × (Int × (Int × Int)))) × (List (Int × Int)))) × ((List (Int × (Int × (Int × (Bool × Bool))))) × (List (List Int))))) (x10 : Int) (x11 : Int) (x3 : Int) (x9 : (List (Int × (Int × (Int × (Bool × Bool)))))) : Option (Int × Unit) := (g_l0 x0 x10 (w64 (x11 + 1)) x3 x9)
def f158_r6_B (k : Nat) (g_c7 : f158_t_c7) (x0 : (((List (Int × Int)) × ((List (Int × (Int × (Int × Int)))) × (List (Int × Int)))) × ((List (Int × (Int × (Int × (Bool × Bool))))) × (List (List Int))))) (x10 : Int) (x11 : Int) (x3 : Int) (x30 : Bool) (x9 : (List (Int × (Int × (Int × (Bool × Bool)))))) : Option (Int × Unit) := (if x30 = true then (g_c7 x0 x10 x11 x11 x9) else (g_c7 x0 x10 x11 x3 x9))
def f158_c7_B (k : Nat) (g_b1 : f158_t_b1) (x0 : (((List (Int × Int)) × ((List (Int × (Int × (Int × Int)))) × (List (Int × Int)))) × ((List (Int × (Int × (Int × (Bool × Bool))))) × (List (List Int))))) (x10 : Int) (x11 : Int) (x3 : Int) (x9 : (List (Int × (Int × (Int × (Bool × Bool)))))) : Option (Int × Unit) := (g_b1 x0 x10 x11 x3 x9)
theorem f158_b1_P (k : Nat) (G_l0 : f158_S) : f158_o_b1 (fun σ => f158_a k (f158_F_b1 k G_l0) .nx σ) = f158_b1_B k (f158_o_l0 G_l0) := by kernel_rfl
def f158_b1 (k : Nat) (r_l0 : f158_t_l0) : f158_t_b1 := f158_b1_B k r_l0
theorem f158_b1_E (k : Nat) (R_l0 : f158_S) : f158_o_b1 (f158_C_b1 k R_l0) = f158_b1 k (f158_o_l0 R_l0) :=
  Eq.trans (congrArg f158_o_b1 (ap_fn (f158_f_b1 k R_l0))) ((f158_b1_P k R_l0).trans (by rfl))
theorem f158_c7_P (k : Nat) (G_l0 G_b1 : f158_S) : f158_o_c7 (fun σ => f158_a k (f158_F_c7 k G_l0 G_b1) .nx σ) = f158_c7_B k (f158_o_b1 G_b1) := by kernel_rfl
def f158_c7 (k : Nat) (r_l0 : f158_t_l0) : f158_t_c7 := f158_c7_B k (f158_b1 k r_l0)
theorem f158_c7_E (k : Nat) (R_l0 : f158_S) : f158_o_c7 (f158_C_c7 k R_l0) = f158_c7 k (f158_o_l0 R_l0) :=
  Eq.trans (congrArg f158_o_c7 (ap_fn (f158_f_c7 k R_l0))) ((f158_c7_P k R_l0 (f158_C_b1 k R_l0)).trans (by rw [f158_b1_E k R_l0] <;> rfl))
theorem f158_r6_P (k : Nat) (G_l0 G_b1 G_c7 : f158_S) : f158_o_r6 (fun σ => f158_a k (f158_F_r6 k G_l0 G_b1 G_c7) .nx σ) = f158_r6_B k (f158_o_c7 G_c7) := by kernel_rfl
def f158_r6 (k : Nat) (r_l0 : f158_t_l0) : f158_t_r6 := f158_r6_B k (f158_c7 k r_l0)
theorem f158_r6_E (k : Nat) (R_l0 : f158_S) : f158_o_r6 (f158_C_r6 k R_l0) = f158_r6 k (f158_o_l0 R_l0) :=
  Eq.trans (congrArg f158_o_r6 (ap_fn (f158_f_r6 k R_l0))) ((f158_r6_P k R_l0 (f158_C_b1 k R_l0) (f158_C_c7 k R_l0)).trans (by rw [f158_c7_E k R_l0] <;> rfl))
theorem f158_r5_P (k : Nat) (G_l0 G_b1 G_r6 G_c7 : f158_S) : f158_o_r5 (fun σ => f158_a k (f158_F_r5 k G_l0 G_b1 G_r6 G_c7) .nx σ) = f158_r5_B k (f158_o_b1 G_b1) (f158_o_r6 G_r6) := by kernel_rfl
def f158_r5 (k : Nat) (r_l0 : f158_t_l0) : f158_t_r5 := f158_r5_B k (f158_b1 k r_l0) (f158_r6 k r_l0)
theorem f158_r5_E (k : Nat) (R_l0 : f158_S) : f158_o_r5 (f158_C_r5 k R_l0) = f158_r5 k (f158_o_l0 R_l0) :=
  Eq.trans (congrArg f158_o_r5 (ap_fn (f158_f_r5 k R_l0))) ((f158_r5_P k R_l0 (f158_C_b1 k R_l0) (f158_C_r6 k R_l0) (f158_C_c7 k R_l0)).trans (by rw [f158_b1_E k R_l0, f158_r6_E k R_l0] <;> rfl))
theorem f158_l0_P (k : Nat) (G_l0 G_r5 G_b1 G_r6 G_c7 : f158_S) : f158_o_l0 (fun σ => f158_a k (f158_F_l0 k G_l0 G_r5 G_b1 G_r6 G_c7) .nx σ) = f158_l0_B k (f158_o_r5 G_r5) := by kernel_rfl
def f158_l0 (k : Nat) : Nat → f158_t_l0
  | 0 => fun _ _ _ _ _ => none
  | n + 1 => f158_l0_B k (f158_r5 k (f158_l0 k n))
theorem f158_l0_E (k : Nat) : ∀ n, f158_o_l0 (f158_C_l0 k n) = f158_l0 k n
  | 0 => rfl
  | n + 1 =>
    Eq.trans (congrArg f158_o_l0 (Eq.trans (b := fun σ => f158_a k (f158_Q_l0 k (f158_C_l0 k n)) .nx σ) (by kernel_rfl) (ap_fn (f158_f_l0 k (f158_C_l0 k n))))) ((f158_l0_P k (f158_C_l0 k n) (f158_C_r5 k (f158_C_l0 k n)) (f158_C_b1 k (f158_C_l0 k n)) (f158_C_r6 k (f158_C_l0 k n)) (f158_C_c7 k (f158_C_l0 k n))).trans (by rw [f158_r5_E k (f158_C_l0 k n), f158_l0_E k n] <;> rfl))
theorem f158_entry_P (k : Nat) (G_l0 : f158_S) (xs : DL f158_sig) : f158_a k (.c (f158_p 2) 0 :: .c (f158_p 6) 0 :: .c (f158_p 28) 0 :: .j (fun σ => f158_a k (.j (fun σ => G_l0 (cut f158_A.loops 0 σ)) :: .blk 0 :: .c (f158_p 15) 0 :: []) .nx σ) :: .c (f158_p 15) 0 :: []) .nx (σ0 34 112 f158_sig xs) = f158_entry_B k (f158_o_l0 G_l0) xs.1 := by kernel_rfl
def f158 (k : Nat) (a0 : Td36) : Option (Int × Unit) := f158_entry_B k (f158_l0 k k) a0
theorem f158_fe (k : Nat) : f158_a k [.c (f158_p 1) 0] = f158_a k (.c (f158_p 2) 0 :: .c (f158_p 6) 0 :: .c (f158_p 28) 0 :: .j (fun σ => f158_a k (.j (fun σ => (f158_C_l0 k k) (cut f158_A.loops 0 σ)) :: .blk 0 :: .c (f158_p 15) 0 :: []) .nx σ) :: .c (f158_p 15) 0 :: []) := (Eq.trans ap_sq (ap_cons _ (Eq.trans ap_sq (ap_cons _ (Eq.trans ap_sq (Eq.trans ap_sq (ap_cons _ (Eq.trans (ap_bl 0) (Eq.trans (ap_j (Eq.trans (ap_lp (C := (f158_C_l0 k)) (fun _ _ => rfl)) (ap_cons _ (ap_cons _ (ap_cons _ rfl))))) (ap_cons _ (ap_cons _ rfl)))))))))))
theorem f158_eq (k : Nat) (xs : DL f158_sig) : den T f158_Y (f158_E k) f158_A k f158_c 0 (σ0 34 112 f158_sig xs) (Kfin T f158_rs f158_ts) = f158 k xs.1 :=
  Eq.trans (Eq.trans den_sb (ap_at (f158_fe k) _)) ((f158_entry_P k (f158_C_l0 k k) xs).trans (by rw [f158_l0_E k k] <;> rfl))
noncomputable def f158_con (k : Nat) : Con := ⟨f158_sig, f158_rs, fun xs => f158 k xs.1⟩
theorem f158_ok (k : Nat) : PureOK Try.prog 158 f158_sig f158_rs (fun xs => f158 k xs.1) :=
  (pure_of_den (k := k) (A := f158_A) (T := T) (Y := f158_Y) (E := f158_E k) (M := 112) (ts := f158_ts) T_ok ⟨f115_ok k, trivial⟩ ⟨f115_ent, trivial⟩ mixed (f := 158) (fn := Try.f158) (c := f158_c) (by kernel_rfl) (by kernel_rfl) (by kernel_rfl) (by decide) (by kernel_rfl)).congr fun xs => (f158_eq k xs).symm
theorem f158_ent : Ent Try.prog 158 := fun args w => by kernel_rfl
/-! ### (*terrier/route.search).run: function 113 -/
noncomputable def f113_c : Code := Try.f113.body.getD .skip
noncomputable abbrev f113_p (n : Nat) : Code := sb f113_c n
abbrev f113_sig : List PT := [(false, (.int .i64))]
abbrev f113_rs : List RT := []
abbrev f113_ts : List RV := []
abbrev f113_ls : List LO := [.box [.d Tq9, .o, .d Tq22], .row Tq26]
abbrev f113_S := St → Option (LOD f113_ls × RDL f113_rs)
abbrev f113_L := List (Fr (LOD f113_ls × RDL f113_rs))
def f113_Y : Tys := []
noncomputable def f113_E (k : Nat) : Env := [(73, .c (f73_con k)), (157, .b (f157_con k)), (158, .c (f158_con k))]
def f113_A : Ann := { loops := [(0, { slots := [(0, .id), (14, .id), (15, .id), (16, .id)], keys := [(0, [.val false Tq2, .val false Tq6, .val false Tq2, .id, .val false Tq1]), (1, []), (14, [])] }), (2, { slots := [(0, .id), (6, .id)], keys := [(0, [.val false Tq2, .val false Tq6, .val false Tq2, .id, .val false Tq1]), (1, [])] }), (4, { slots := [(0, .id), (6, .id), (43, .val false (.int .i64)), (44, .id), (45, .id)], keys := [(0, [.val false Tq2, .val false Tq6, .val false Tq2, .id, .val false Tq1]), (1, [])] })] }
noncomputable abbrev f113_a (k : Nat) (F : f113_L) : Kont (LOD f113_ls × RDL f113_rs) := ap T f113_Y (f113_E k) f113_A k (KfinB T true f113_ls f113_rs f113_ts) F
def f113_s_l0 (y0_0 : (List (Int × Int))) (y0_1 : (List (Int × (Int × (Int × Int))))) (y0_2 : (List (Int × Int))) (y0_4 : (List (List Int))) (y1 : (List (Int × (Int × (Int × (Bool × Bool)))))) (y14 : (List Int)) (x15 : Int) (x16 : Int) : St := mkS 54 162 [(0, aP 0), (14, aO 14), (15, aI x15), (16, aI x16)] [(0, .box [cV Tq2 y0_0, cV Tq6 y0_1, cV Tq2 y0_2, .own 1, cV Tq1 y0_4]), (1, .vec Tq26 y1), (14, .vec (.int .i64) y14)]
abbrev f113_t_l0 := (List (Int × Int)) → (List (Int × (Int × (Int × Int)))) → (List (Int × Int)) → (List (List Int)) → (List (Int × (Int × (Int × (Bool × Bool))))) → (List Int) → Int → Int → Option (((Td12 × Td27 × Unit) × (List (Int × Td29)) × Unit) × (Unit))
abbrev f113_o_l0 (R : f113_S) : f113_t_l0 := (fun y0_0 y0_1 y0_2 y0_4 y1 y14 x15 x16 => R (f113_s_l0 y0_0 y0_1 y0_2 y0_4 y1 y14 x15 x16))
noncomputable def f113_Q_l0 (k : Nat) (R_l0 : f113_S) : f113_L := [.c (f113_p 20) 0, .j (fun σ => R_l0 (cut f113_A.loops 0 σ)), .blk 0, .c (f113_p 3) 0]
noncomputable def f113_C_l0 (k : Nat) (n : Nat) (σ : St) : Option (LOD f113_ls × RDL f113_rs) := loopK (fun σ K => den T f113_Y (f113_E k) f113_A k (f113_p 20) 0 σ K) (cut f113_A.loops 0) (f113_a k [.blk 0, .c (f113_p 3) 0]) n σ
def f113_s_l2 (y0_0 : (List (Int × Int))) (y0_1 : (List (Int × (Int × (Int × Int))))) (y0_2 : (List (Int × Int))) (y0_4 : (List (List Int))) (y1 : (List (Int × (Int × (Int × (Bool × Bool)))))) (x6 : Int) : St := mkS 54 162 [(0, aP 0), (6, aI x6)] [(0, .box [cV Tq2 y0_0, cV Tq6 y0_1, cV Tq2 y0_2, .own 1, cV Tq1 y0_4]), (1, .vec Tq26 y1)]
abbrev f113_t_l2 := (List (Int × Int)) → (List (Int × (Int × (Int × Int)))) → (List (Int × Int)) → (List (List Int)) → (List (Int × (Int × (Int × (Bool × Bool))))) → Int → Option (((Td12 × Td27 × Unit) × (List (Int × Td29)) × Unit) × (Unit))
abbrev f113_o_l2 (R : f113_S) : f113_t_l2 := (fun y0_0 y0_1 y0_2 y0_4 y1 x6 => R (f113_s_l2 y0_0 y0_1 y0_2 y0_4 y1 x6))
noncomputable def f113_Q_l2 (k : Nat) (R_l2 : f113_S) : f113_L := [.c (f113_p 28) 2, .j (fun σ => R_l2 (cut f113_A.loops 2 σ)), .blk 2]
noncomputable def f113_C_l2 (k : Nat) (n : Nat) (σ : St) : Option (LOD f113_ls × RDL f113_rs) := loopK (fun σ K => den T f113_Y (f113_E k) f113_A k (f113_p 28) 2 σ K) (cut f113_A.loops 2) (f113_a k [.blk 2]) n σ
def f113_s_l4 (y0_0 : (List (Int × Int))) (y0_1 : (List (Int × (Int × (Int × Int))))) (y0_2 : (List (Int × Int))) (y0_4 : (List (List Int))) (y1 : (List (Int × (Int × (Int × (Bool × Bool)))))) (x43 : (List Int)) (x44 : Int) (x45 : Int) (x6 : Int) : St := mkS 54 162 [(0, aP 0), (6, aI x6), (43, aV (.int .i64) x43), (44, aI x44), (45, aI x45)] [(0, .box [cV Tq2 y0_0, cV Tq6 y0_1, cV Tq2 y0_2, .own 1, cV Tq1 y0_4]), (1, .vec Tq26 y1)]
abbrev f113_t_l4 := (List (Int × Int)) → (List (Int × (Int × (Int × Int)))) → (List (Int × Int)) → (List (List Int)) → (List (Int × (Int × (Int × (Bool × Bool))))) → (List Int) → Int → Int → Int → Option (((Td12 × Td27 × Unit) × (List (Int × Td29)) × Unit) × (Unit))
abbrev f113_o_l4 (R : f113_S) : f113_t_l4 := (fun y0_0 y0_1 y0_2 y0_4 y1 x43 x44 x45 x6 => R (f113_s_l4 y0_0 y0_1 y0_2 y0_4 y1 x43 x44 x45 x6))
noncomputable def f113_Q_l4 (k : Nat) (R_l2 R_l4 : f113_S) : f113_L := [.c (f113_p 3660) 4, .j (fun σ => R_l4 (cut f113_A.loops 4 σ)), .blk 4, .blk 3, .c (f113_p 115) 2, .j (fun σ => R_l2 (cut f113_A.loops 2 σ)), .blk 2]
noncomputable def f113_C_l4 (k : Nat) (R_l2 : f113_S) (n : Nat) (σ : St) : Option (LOD f113_ls × RDL f113_rs) := loopK (fun σ K => den T f113_Y (f113_E k) f113_A k (f113_p 3660) 4 σ K) (cut f113_A.loops 4) (f113_a k [.blk 4, .blk 3, .c (f113_p 115) 2, .j (fun σ => R_l2 (cut f113_A.loops 2 σ)), .blk 2]) n σ
noncomputable def f113_F_l0 (k : Nat) (G_l0 G_l2 : f113_S) : f113_L := .c (f113_p 20) 0 :: .j (fun σ => G_l0 (cut f113_A.loops 0 σ)) :: .blk 0 :: .c (f113_p 6) 0 :: .j (fun σ => f113_a k (.j (fun σ => G_l2 (cut f113_A.loops 2 σ)) :: .blk 2 :: []) .nx σ) :: []
theorem f113_f_l0 (k : Nat) (R_l0 : f113_S) : f113_a k (f113_Q_l0 k R_l0) = f113_a k (f113_F_l0 k R_l0 (f113_C_l2 k k)) := (ap_cons _ (ap_cons _ (ap_cons _ (Eq.trans ap_sq (ap_cons _ (Eq.trans (ap_bl 2) (Eq.trans (ap_j (Eq.trans (ap_lp (C := (f113_C_l2 k)) (fun _ _ => rfl)) (ap_cons _ (ap_cons _ rfl)))) (ap_cons _ rfl))))))))
noncomputable def f113_F_l2 (k : Nat) (G_l2 G_l4 : f113_S) : f113_L := .c (f113_p 56) 2 :: .j (fun σ => f113_a k (.c (f113_p 456) 3 :: .c (f113_p 914) 3 :: .j (fun σ => f113_a k (.j (fun σ => G_l4 (cut f113_A.loops 4 σ)) :: .blk 4 :: .blk 3 :: .c (f113_p 115) 2 :: .j (fun σ => G_l2 (cut f113_A.loops 2 σ)) :: .blk 2 :: []) .nx σ) :: .blk 3 :: .c (f113_p 115) 2 :: .j (fun σ => G_l2 (cut f113_A.loops 2 σ)) :: .blk 2 :: []) .nx σ) :: .c (f113_p 115) 2 :: .j (fun σ => G_l2 (cut f113_A.loops 2 σ)) :: .blk 2 :: []
theorem f113_f_l2 (k : Nat) (R_l2 : f113_S) : f113_a k (f113_Q_l2 k R_l2) = f113_a k (f113_F_l2 k R_l2 (f113_C_l4 k R_l2 k)) := (Eq.trans ap_sq (ap_cons _ (Eq.trans ap_sq (Eq.trans (ap_bl 3) (Eq.trans (ap_j (Eq.trans ap_sq (ap_cons _ (Eq.trans ap_sq (ap_cons _ (Eq.trans (ap_bl 4) (Eq.trans (ap_j (Eq.trans (ap_lp (C := (f113_C_l4 k R_l2)) (fun _ _ => rfl)) (ap_cons _ (ap_cons _ (ap_cons _ (ap_cons _ (ap_cons _ (ap_cons _ rfl)))))))) (ap_cons _ (ap_cons _ (ap_cons _ (ap_cons _ (ap_cons _ rfl)))))))))))) (ap_cons _ (ap_cons _ (ap_cons _ (ap_cons _ rfl)))))))))
noncomputable def f113_F_l4 (k : Nat) (G_l2 G_l4 : f113_S) : f113_L := .c (f113_p 3660) 4 :: .j (fun σ => G_l4 (cut f113_A.loops 4 σ)) :: .blk 4 :: .blk 3 :: .c (f113_p 115) 2 :: .j (fun σ => G_l2 (cut f113_A.loops 2 σ)) :: .blk 2 :: []
theorem f113_f_l4 (k : Nat) (R_l2 R_l4 : f113_S) : f113_a k (f113_Q_l4 k R_l2 R_l4) = f113_a k (f113_F_l4 k R_l2 R_l4) := (ap_cons _ (ap_cons _ (ap_cons _ (ap_cons _ (ap_cons _ (ap_cons _ (ap_cons _ rfl)))))))
def f113_entry_B (k : Nat) (g_l0 : f113_t_l0) (l0 : Td12) (l1 : Td27) (l2 : Td34) (a0 : Int) : Option (((Td12 × Td27 × Unit) × (List (Int × Td29)) × Unit) × (Unit)) := ((f73 k (l0.1, (l0.2.1, l0.2.2)) a0).bind fun r1 => (g_l0 l0.1 l0.2.1 l0.2.2 l1 l2 r1.1 (r1.1.length : Int) 0))
def f113_l0_B (k : Nat) (g_l0 : f113_t_l0) (g_l2 : f113_t_l2) (y0_0 : (List (Int × Int))) (y0_1 : (List (Int × (Int × (Int × Int))))) (y0_2 : (List (Int × Int))) (y0_4 : (List (List Int))) (y1 : (List (Int × (Int × (Int × (Bool × Bool)))))) (y14 : (List Int)) (x15 : Int) (x16 : Int) : Option (((Td12 × Td27 × Unit) × (List (Int × Td29)) × Unit) × (Unit)) := (if x16 < x15 then (if 0 ≤ x16 then (if x16 < (y14.length : Int) then ((f157 k (y0_0, (y0_1, y0_2)) y0_4 y1 (-1) (y14.getD ((x16).toNat) 0)).bind fun r1 => (g_l0 r1.1.1.1.1 r1.1.1.1.2.1 r1.1.1.1.2.2 r1.1.1.2.1 r1.1.2.1 y14 x15 (w64 (x16 + 1)))) else none) else none) else ((f158 k ((y0_0, (y0_1, y0_2)), (y1, y0_4))).bind fun r2 => (g_l2 y0_0 y0_1 y0_2 y0_4 y1 r2.1)))
def f113_l2_B (k : Nat) (g_l4 : f113_t_l4) (y0_0 : (List (Int × Int))) (y0_1 : (List (Int × (Int × (Int × Int))))) (y0_2 : (List (Int × Int))) (y0_4 : (List (List Int))) (y1 : (List (Int × (Int × (Int × (Bool × Bool)))))) (x6 : Int) : Option (((Td12 × Td27 × Unit) × (List (Int × Td29)) × Unit) × (Unit)) := (if 0 ≤ x6 then (if 0 ≤ x6 then (if x6 < (y1.length : Int) then (if 0 ≤ x6 then (if x6 < (y0_4.length : Int) then (g_l4 y0_0 y0_1 y0_2 y0_4 (y1.set ((x6).toNat) ((y1.getD ((x6).toNat) (0, (0, (0, (false, false))))).1, (((y1.getD ((x6).toNat) (0, (0, (0, (false, false))))).2).1, ((((y1.getD ((x6).toNat) (0, (0, (0, (false, false))))).2).2).1, (decide ((((((y1.getD ((x6).toNat) (0, (0, (0, (false, false))))).2).2).2).1) = true), true))))) (y0_4.getD (x6).toNat []) ((y0_4.getD (x6).toNat []).length : Int) 0 x6) else none) else none) else none) else none) else some ((((y0_0, (y0_1, y0_2)), y0_4, ()), (y1, ())), (())))
def f113_l4_B (k : Nat) (g_l2 : f113_t_l2) (g_l4 : f113_t_l4) (y0_0 : (List (Int × Int))) (y0_1 : (List (Int × (Int × (Int × Int))))) (y0_2 : (List (Int × Int))) (y0_4 : (List (List Int))) (y1 : (List (Int × (Int × (Int × (Bool × Bool)))))) (x43 : (List Int)) (x44 : Int) (x45 : Int) (x6 : Int) : Option (((Td12 × Td27 × Unit) × (List (Int × Td29)) × Unit) × (Unit)) := (if x45 < x44 then (if 0 ≤ x45 then (if x45 < (x43.length : Int) then ((f157 k (y0_0, (y0_1, y0_2)) y0_4 y1 x6 (x43.getD (x45).toNat 0)).bind fun r1 => (g_l4 r1.1.1.1.1 r1.1.1.1.2.1 r1.1.1.1.2.2 r1.1.1.2.1 r1.1.2.1 x43 x44 (w64 (x45 + 1)) x6)) else none) else none) else ((f158 k ((y0_0, (y0_1, y0_2)), (y1, y0_4))).bind fun r2 => (g_l2 y0_0 y0_1 y0_2 y0_4 y1 r2.1)))
theorem f113_l4_P (k : Nat) (G_l2 G_l4 : f113_S) : f113_o_l4 (fun σ => f113_a k (f113_F_l4 k G_l2 G_l4) .nx σ) = f113_l4_B k (f113_o_l2 G_l2) (f113_o_l4 G_l4) := by kernel_rfl
def f113_l4 (k : Nat) (r_l2 : f113_t_l2) : Nat → f113_t_l4
  | 0 => fun _ _ _ _ _ _ _ _ _ => none
  | n + 1 => f113_l4_B k r_l2 (f113_l4 k r_l2 n)
theorem f113_l4_E (k : Nat) (R_l2 : f113_S) : ∀ n, f113_o_l4 (f113_C_l4 k R_l2 n) = f113_l4 k (f113_o_l2 R_l2) n
  | 0 => rfl
  | n + 1 =>
    Eq.trans (congrArg f113_o_l4 (Eq.trans (b := fun σ => f113_a k (f113_Q_l4 k R_l2 (f113_C_l4 k R_l2 n)) .nx σ) (by kernel_rfl) (ap_fn (f113_f_l4 k R_l2 (f113_C_l4 k R_l2 n))))) ((f113_l4_P k R_l2 (f113_C_l4 k R_l2 n)).trans (by rw [f113_l4_E k R_l2 n] <;> rfl))
theorem f113_l2_P (k : Nat) (G_l2 G_l4 : f113_S) : f113_o_l2 (fun σ => f113_a k (f113_F_l2 k G_l2 G_l4) .nx σ) = f113_l2_B k (f113_o_l4 G_l4) := by kernel_rfl
def f113_l2 (k : Nat) : Nat → f113_t_l2
  | 0 => fun _ _ _ _ _ _ => none
  | n + 1 => f113_l2_B k (f113_l4 k (f113_l2 k n) k)
theorem f113_l2_E (k : Nat) : ∀ n, f113_o_l2 (f113_C_l2 k n) = f113_l2 k n
  | 0 => rfl
  | n + 1 =>
    Eq.trans (congrArg f113_o_l2 (Eq.trans (b := fun σ => f113_a k (f113_Q_l2 k (f113_C_l2 k n)) .nx σ) (by kernel_rfl) (ap_fn (f113_f_l2 k (f113_C_l2 k n))))) ((f113_l2_P k (f113_C_l2 k n) (f113_C_l4 k (f113_C_l2 k n) k)).trans (by rw [f113_l4_E k (f113_C_l2 k n) k, f113_l2_E k n] <;> rfl))
theorem f113_l0_P (k : Nat) (G_l0 G_l2 : f113_S) : f113_o_l0 (fun σ => f113_a k (f113_F_l0 k G_l0 G_l2) .nx σ) = f113_l0_B k (f113_o_l0 G_l0) (f113_o_l2 G_l2) := by kernel_rfl
def f113_l0 (k : Nat) : Nat → f113_t_l0
  | 0 => fun _ _ _ _ _ _ _ _ => none
  | n + 1 => f113_l0_B k (f113_l0 k n) (f113_l2 k k)
theorem f113_l0_E (k : Nat) : ∀ n, f113_o_l0 (f113_C_l0 k n) = f113_l0 k n
  | 0 => rfl
  | n + 1 =>
    Eq.trans (congrArg f113_o_l0 (Eq.trans (b := fun σ => f113_a k (f113_Q_l0 k (f113_C_l0 k n)) .nx σ) (by kernel_rfl) (ap_fn (f113_f_l0 k (f113_C_l0 k n))))) ((f113_l0_P k (f113_C_l0 k n) (f113_C_l2 k k)).trans (by rw [f113_l2_E k k, f113_l0_E k n] <;> rfl))
theorem f113_entry_P (k : Nat) (G_l0 G_l2 : f113_S) (x : LOD f113_ls) (xs : DL f113_sig) : f113_a k (.c (f113_p 4) 0 :: .j (fun σ => f113_a k (.j (fun σ => G_l0 (cut f113_A.loops 0 σ)) :: .blk 0 :: .c (f113_p 6) 0 :: .j (fun σ => f113_a k (.j (fun σ => G_l2 (cut f113_A.loops 2 σ)) :: .blk 2 :: []) .nx σ) :: []) .nx σ) :: .c (f113_p 6) 0 :: .j (fun σ => f113_a k (.j (fun σ => G_l2 (cut f113_A.loops 2 σ)) :: .blk 2 :: []) .nx σ) :: []) .nx (σ0B 54 162 0 f113_ls x f113_sig xs) = f113_entry_B k (f113_o_l0 G_l0) x.1.1 x.1.2.1 x.2.1 xs.1 := by kernel_rfl
def f113 (k : Nat) (l0 : Td12) (l1 : Td27) (l2 : Td34) (a0 : Int) : Option (((Td12 × Td27 × Unit) × (List (Int × Td29)) × Unit) × (Unit)) := f113_entry_B k (f113_l0 k k) l0 l1 l2 a0
theorem f113_fe (k : Nat) : f113_a k [.c (f113_p 1) 0] = f113_a k (.c (f113_p 4) 0 :: .j (fun σ => f113_a k (.j (fun σ => (f113_C_l0 k k) (cut f113_A.loops 0 σ)) :: .blk 0 :: .c (f113_p 6) 0 :: .j (fun σ => f113_a k (.j (fun σ => (f113_C_l2 k k) (cut f113_A.loops 2 σ)) :: .blk 2 :: []) .nx σ) :: []) .nx σ) :: .c (f113_p 6) 0 :: .j (fun σ => f113_a k (.j (fun σ => (f113_C_l2 k k) (cut f113_A.loops 2 σ)) :: .blk 2 :: []) .nx σ) :: []) := (Eq.trans ap_sq (Eq.trans ap_sq (ap_cons _ (Eq.trans (ap_bl 0) (Eq.trans (ap_j (Eq.trans (ap_lp (C := (f113_C_l0 k)) (fun _ _ => rfl)) (ap_cons _ (ap_cons _ (Eq.trans ap_sq (ap_cons _ (Eq.trans (ap_bl 2) (Eq.trans (ap_j (Eq.trans (ap_lp (C := (f113_C_l2 k)) (fun _ _ => rfl)) (ap_cons _ (ap_cons _ rfl)))) (ap_cons _ rfl))))))))) (ap_cons _ (Eq.trans ap_sq (ap_cons _ (Eq.trans (ap_bl 2) (Eq.trans (ap_j (Eq.trans (ap_lp (C := (f113_C_l2 k)) (fun _ _ => rfl)) (ap_cons _ (ap_cons _ rfl)))) (ap_cons _ rfl)))))))))))
theorem f113_eq (k : Nat) (x : LOD f113_ls) (xs : DL f113_sig) : den T f113_Y (f113_E k) f113_A k f113_c 0 (σ0B 54 162 0 f113_ls x f113_sig xs) (KfinB T true f113_ls f113_rs f113_ts) = f113 k x.1.1 x.1.2.1 x.2.1 xs.1 :=
  Eq.trans (Eq.trans den_sb (ap_at (f113_fe k) _)) ((f113_entry_P k (f113_C_l0 k k) (f113_C_l2 k k) x xs).trans (by rw [f113_l0_E k k] <;> rfl))
noncomputable def f113_con (k : Nat) : BCon := ⟨0, true, f113_ls, f113_sig, f113_rs, fun x xs => f113 k x.1.1 x.1.2.1 x.2.1 xs.1⟩
theorem f113_ok (k : Nat) : BoxOK Try.prog 113 0 true f113_ls f113_sig f113_rs (fun x xs => f113 k x.1.1 x.1.2.1 x.2.1 xs.1) :=
  (box_of_den (k := k) (A := f113_A) (T := T) (Y := f113_Y) (E := f113_E k) (M := 162) (ts := f113_ts) T_ok ⟨f73_ok k, f157_ok k, f158_ok k, trivial⟩ ⟨f73_ent, f157_ent, f158_ent, trivial⟩ mixed (f := 113) (fn := Try.f113) (c := f113_c) (by kernel_rfl) (by kernel_rfl) (by kernel_rfl) (by decide) (by kernel_rfl) (by decide)).congr fun x xs => (f113_eq k x xs).symm
theorem f113_ent : Ent Try.prog 113 := fun args w => by kernel_rfl
/-! ### terrier/net.In: function 114 -/
noncomputable def f114_c : Code := Try.f114.body.getD .skip
noncomputable abbrev f114_p (n : Nat) : Code := sb f114_c n
abbrev f114_sig : List PT := [(true, Tq9), (false, (.int .i64))]
abbrev f114_rs : List RT := [.new (.int .i64)]
abbrev f114_ts : List RV := [.tmp 4]
abbrev f114_S := St → Option (RDL f114_rs)
abbrev f114_L := List (Fr (RDL f114_rs))
def f114_Y : Tys := [(3, (.int .i64))]
noncomputable def f114_E (k : Nat) : Env := []
def f114_A : Ann := { loops := [(0, { mat := [(5, 23, (.int .i64))], slots := [(1, .id), (5, .id), (9, .val false Tq6), (10, .id), (11, .id)], keys := [(23, [])] })], conds := [(6, { mat := [(5, 23, (.int .i64))], slots := [(1, .id), (5, .id), (9, .val false Tq6), (10, .id), (11, .id)], keys := [(23, [])] })] }
noncomputable abbrev f114_a (k : Nat) (F : f114_L) : Kont (RDL f114_rs) := ap T f114_Y (f114_E k) f114_A k (Kfin T f114_rs f114_ts) F
def f114_s_l0 (y23 : (List Int)) (x1 : Int) (x10 : Int) (x11 : Int) (x9 : (List (Int × (Int × (Int × Int))))) : St := mkS 26 80 [(1, aI x1), (5, aO 23), (9, aV Tq6 x9), (10, aI x10), (11, aI x11)] [(23, .vec (.int .i64) y23)]
abbrev f114_t_l0 := (List Int) → Int → Int → Int → (List (Int × (Int × (Int × Int)))) → Option ((List Int) × Unit)
abbrev f114_o_l0 (R : f114_S) : f114_t_l0 := (fun y23 x1 x10 x11 x9 => R (f114_s_l0 y23 x1 x10 x11 x9))
noncomputable def f114_Q_l0 (k : Nat) (R_l0 : f114_S) : f114_L := [.c (f114_p 116) 0, .j (fun σ => R_l0 (cut f114_A.loops 0 σ)), .blk 0, .c (f114_p 15) 0]
noncomputable def f114_C_l0 (k : Nat) (n : Nat) (σ : St) : Option (RDL f114_rs) := loopK (fun σ K => den T f114_Y (f114_E k) f114_A k (f114_p 116) 0 σ K) (cut f114_A.loops 0) (f114_a k [.blk 0, .c (f114_p 15) 0]) n σ
def f114_s_c6 (y23 : (List Int)) (x1 : Int) (x10 : Int) (x11 : Int) (x9 : (List (Int × (Int × (Int × Int))))) : St := mkS 26 80 [(1, aI x1), (5, aO 23), (9, aV Tq6 x9), (10, aI x10), (11, aI x11)] [(23, .vec (.int .i64) y23)]
abbrev f114_t_c6 := (List Int) → Int → Int → Int → (List (Int × (Int × (Int × Int)))) → Option ((List Int) × Unit)
abbrev f114_o_c6 (R : f114_S) : f114_t_c6 := (fun y23 x1 x10 x11 x9 => R (f114_s_c6 y23 x1 x10 x11 x9))
noncomputable def f114_Q_c6 (k : Nat) (R_l0 : f114_S) : f114_L := [.blk 1, .c (f114_p 935) 0, .j (fun σ => R_l0 (cut f114_A.loops 0 σ)), .blk 0, .c (f114_p 15) 0]
noncomputable def f114_C_c6 (k : Nat) (R_l0 : f114_S) : f114_S := fun σ => f114_a k (f114_Q_c6 k R_l0) .nx σ
noncomputable def f114_F_c6 (k : Nat) (G_l0 : f114_S) : f114_L := .blk 1 :: .c (f114_p 935) 0 :: .j (fun σ => G_l0 (cut f114_A.loops 0 σ)) :: .blk 0 :: .c (f114_p 15) 0 :: []
theorem f114_f_c6 (k : Nat) (R_l0 : f114_S) : f114_a k (f114_Q_c6 k R_l0) = f114_a k (f114_F_c6 k R_l0) := (ap_cons _ (ap_cons _ (ap_cons _ (ap_cons _ (ap_cons _ rfl)))))
noncomputable def f114_F_l0 (k : Nat) (G_l0 G_c6 : f114_S) : f114_L := .c (f114_p 232) 0 :: .c (f114_p 466) 0 :: .j (fun σ => f114_a k (.c (f114_p 3736) 1 :: .c (f114_p 7474) 1 :: .c (f114_p 7475) 1 :: .j G_c6 :: f114_F_c6 k G_l0) .nx σ) :: .c (f114_p 935) 0 :: .j (fun σ => G_l0 (cut f114_A.loops 0 σ)) :: .blk 0 :: .c (f114_p 15) 0 :: []
theorem f114_f_l0 (k : Nat) (R_l0 : f114_S) : f114_a k (f114_Q_l0 k R_l0) = f114_a k (f114_F_l0 k R_l0 (f114_C_c6 k R_l0)) := (Eq.trans ap_sq (ap_cons _ (Eq.trans ap_sq (ap_cons _ (Eq.trans ap_sq (Eq.trans (ap_bl 1) (Eq.trans (ap_j (Eq.trans ap_sq (ap_cons _ (Eq.trans ap_sq (ap_cons _ (ap_cons _ (Eq.trans (ap_pass (C := (f114_C_c6 k R_l0)) (fun _ => rfl)) (ap_cons _ (f114_f_c6 k R_l0))))))))) (ap_cons _ (ap_cons _ (ap_cons _ (ap_cons _ (ap_cons _ rfl))))))))))))
def f114_entry_B (k : Nat) (g_l0 : f114_t_l0) (a0 : Td12) (a1 : Int) : Option ((List Int) × Unit) := (g_l0 ([] : List Int) a1 (a0.2.1.length : Int) 0 a0.2.1)
def f114_l0_B (k : Nat) (g_c6 : f114_t_c6) (y23 : (List Int)) (x1 : Int) (x10 : Int) (x11 : Int) (x9 : (List (Int × (Int × (Int × Int))))) : Option ((List Int) × Unit) := (if x11 < x10 then (if 0 ≤ x11 then (if x11 < (x9.length : Int) then (if (((x9.getD (x11).toNat (0, (0, (0, 0)))).2).1) = x1 then (if (y23.length + 1) * 8 ≤ 140737488355328 then (g_c6 (y23 ++ [x11]) x1 x10 x11 x9) else none) else (g_c6 y23 x1 x10 x11 x9)) else none) else none) else some (y23, ()))
def f114_c6_B (k : Nat) (g_l0 : f114_t_l0) (y23 : (List Int)) (x1 : Int) (x10 : Int) (x11 : Int) (x9 : (List (Int × (Int × (Int × Int))))) : Option ((List Int) × Unit) := (g_l0 y23 x1 x10 (w64 (x11 + 1)) x9)
theorem f114_c6_P (k : Nat) (G_l0 : f114_S) : f114_o_c6 (fun σ => f114_a k (f114_F_c6 k G_l0) .nx σ) = f114_c6_B k (f114_o_l0 G_l0) := by kernel_rfl
def f114_c6 (k : Nat) (r_l0 : f114_t_l0) : f114_t_c6 := f114_c6_B k r_l0
theorem f114_c6_E (k : Nat) (R_l0 : f114_S) : f114_o_c6 (f114_C_c6 k R_l0) = f114_c6 k (f114_o_l0 R_l0) :=
  Eq.trans (congrArg f114_o_c6 (ap_fn (f114_f_c6 k R_l0))) ((f114_c6_P k R_l0).trans (by rfl))
theorem f114_l0_P (k : Nat) (G_l0 G_c6 : f114_S) : f114_o_l0 (fun σ => f114_a k (f114_F_l0 k G_l0 G_c6) .nx σ) = f114_l0_B k (f114_o_c6 G_c6) := by kernel_rfl
def f114_l0 (k : Nat) : Nat → f114_t_l0
  | 0 => fun _ _ _ _ _ => none
  | n + 1 => f114_l0_B k (f114_c6 k (f114_l0 k n))
theorem f114_l0_E (k : Nat) : ∀ n, f114_o_l0 (f114_C_l0 k n) = f114_l0 k n
  | 0 => rfl
  | n + 1 =>
    Eq.trans (congrArg f114_o_l0 (Eq.trans (b := fun σ => f114_a k (f114_Q_l0 k (f114_C_l0 k n)) .nx σ) (by kernel_rfl) (ap_fn (f114_f_l0 k (f114_C_l0 k n))))) ((f114_l0_P k (f114_C_l0 k n) (f114_C_c6 k (f114_C_l0 k n))).trans (by rw [f114_c6_E k (f114_C_l0 k n), f114_l0_E k n] <;> rfl))
theorem f114_entry_P (k : Nat) (G_l0 : f114_S) (xs : DL f114_sig) : f114_a k (.c (f114_p 2) 0 :: .c (f114_p 6) 0 :: .c (f114_p 28) 0 :: .j (fun σ => f114_a k (.j (fun σ => G_l0 (cut f114_A.loops 0 σ)) :: .blk 0 :: .c (f114_p 15) 0 :: []) .nx σ) :: .c (f114_p 15) 0 :: []) .nx (σ0 26 80 f114_sig xs) = f114_entry_B k (f114_o_l0 G_l0) xs.1 xs.2.1 := by kernel_rfl
def f114 (k : Nat) (a0 : Td12) (a1 : Int) : Option ((List Int) × Unit) := f114_entry_B k (f114_l0 k k) a0 a1
theorem f114_fe (k : Nat) : f114_a k [.c (f114_p 1) 0] = f114_a k (.c (f114_p 2) 0 :: .c (f114_p 6) 0 :: .c (f114_p 28) 0 :: .j (fun σ => f114_a k (.j (fun σ => (f114_C_l0 k k) (cut f114_A.loops 0 σ)) :: .blk 0 :: .c (f114_p 15) 0 :: []) .nx σ) :: .c (f114_p 15) 0 :: []) := (Eq.trans ap_sq (ap_cons _ (Eq.trans ap_sq (ap_cons _ (Eq.trans ap_sq (Eq.trans ap_sq (ap_cons _ (Eq.trans (ap_bl 0) (Eq.trans (ap_j (Eq.trans (ap_lp (C := (f114_C_l0 k)) (fun _ _ => rfl)) (ap_cons _ (ap_cons _ (ap_cons _ rfl))))) (ap_cons _ (ap_cons _ rfl)))))))))))
theorem f114_eq (k : Nat) (xs : DL f114_sig) : den T f114_Y (f114_E k) f114_A k f114_c 0 (σ0 26 80 f114_sig xs) (Kfin T f114_rs f114_ts) = f114 k xs.1 xs.2.1 :=
  Eq.trans (Eq.trans den_sb (ap_at (f114_fe k) _)) ((f114_entry_P k (f114_C_l0 k k) xs).trans (by rw [f114_l0_E k k] <;> rfl))
noncomputable def f114_con (k : Nat) : Con := ⟨f114_sig, f114_rs, fun xs => f114 k xs.1 xs.2.1⟩
theorem f114_ok (k : Nat) : PureOK Try.prog 114 f114_sig f114_rs (fun xs => f114 k xs.1 xs.2.1) :=
  (pure_of_den (k := k) (A := f114_A) (T := T) (Y := f114_Y) (E := f114_E k) (M := 80) (ts := f114_ts) T_ok trivial trivial mixed (f := 114) (fn := Try.f114) (c := f114_c) (by kernel_rfl) (by kernel_rfl) (by kernel_rfl) (by decide) (by kernel_rfl)).congr fun xs => (f114_eq k xs).symm
theorem f114_ent : Ent Try.prog 114 := fun args w => by kernel_rfl
/-! ### terrier/route.Find: function 52 -/
noncomputable def f52_c : Code := Try.f52.body.getD .skip
noncomputable abbrev f52_p (n : Nat) : Code := sb f52_c n
abbrev f52_sig : List PT := [(true, Tq9), (false, (.int .i64)), (false, (.int .i64))]
abbrev f52_rs : List RT := [.new (.int .i64), .d false (.int .i64), .d false (.int .i64)]
abbrev f52_ts : List RV := [.tmp 6, .tmp 7, .tmp 8]
abbrev f52_S := St → Option (RDL f52_rs)
abbrev f52_L := List (Fr (RDL f52_rs))
def f52_Y : Tys := [(3, (.int .i64))]
noncomputable def f52_E (k : Nat) : Env := [(88, .c (f88_con k)), (112, .c (f112_con k)), (113, .b (f113_con k)), (114, .c (f114_con k)), (115, .c (f115_con k)), (116, .c (f116_con k))]
def f52_A : Ann := { loops := [(0, { slots := [(10, .id), (11, .id), (32, .id), (33, .id), (34, .id)], keys := [(26, [.val false Tq2, .val false Tq6, .val false Tq2, .id, .val false Tq1]), (32, []), (97, [])] })], regs := [(12, { slots := [(10, .id), (11, .id), (13, .id), (32, .id), (33, .id), (34, .id), (55, .bool)], keys := [(26, [.val false Tq2, .val false Tq6, .val false Tq2, .id, .val false Tq1]), (32, []), (97, [])] })], conds := [(13, { slots := [(10, .id), (11, .id), (32, .id), (33, .id), (34, .id)], keys := [(26, [.val false Tq2, .val false Tq6, .val false Tq2, .id, .val false Tq1]), (32, []), (97, [])] })] }
noncomputable abbrev f52_a (k : Nat) (F : f52_L) : Kont (RDL f52_rs) := ap T f52_Y (f52_E k) f52_A k (Kfin T f52_rs f52_ts) F
def f52_s_l0 (y26_0 : (List (Int × Int))) (y26_1 : (List (Int × (Int × (Int × Int))))) (y26_2 : (List (Int × Int))) (y26_4 : (List (List Int))) (y32 : (List Int)) (y97 : (List (Int × (Int × (Int × (Bool × Bool)))))) (x11 : Int) (x33 : Int) (x34 : Int) : St := mkS 71 224 [(10, aP 26), (11, aI x11), (32, aO 32), (33, aI x33), (34, aI x34)] [(26, .box [cV Tq2 y26_0, cV Tq6 y26_1, cV Tq2 y26_2, .own 97, cV Tq1 y26_4]), (32, .vec (.int .i64) y32), (97, .vec Tq26 y97)]
abbrev f52_t_l0 := (List (Int × Int)) → (List (Int × (Int × (Int × Int)))) → (List (Int × Int)) → (List (List Int)) → (List Int) → (List (Int × (Int × (Int × (Bool × Bool))))) → Int → Int → Int → Option ((List Int) × Int × Int × Unit)
abbrev f52_o_l0 (R : f52_S) : f52_t_l0 := (fun y26_0 y26_1 y26_2 y26_4 y32 y97 x11 x33 x34 => R (f52_s_l0 y26_0 y26_1 y26_2 y26_4 y32 y97 x11 x33 x34))
noncomputable def f52_Q_l0 (k : Nat) (R_l0 : f52_S) : f52_L := [.c (f52_p 2036) 0, .j (fun σ => R_l0 (cut f52_A.loops 0 σ)), .blk 0, .c (f52_p 255) 0]
noncomputable def f52_C_l0 (k : Nat) (n : Nat) (σ : St) : Option (RDL f52_rs) := loopK (fun σ K => den T f52_Y (f52_E k) f52_A k (f52_p 2036) 0 σ K) (cut f52_A.loops 0) (f52_a k [.blk 0, .c (f52_p 255) 0]) n σ
def f52_s_r12 (y26_0 : (List (Int × Int))) (y26_1 : (List (Int × (Int × (Int × Int))))) (y26_2 : (List (Int × Int))) (y26_4 : (List (List Int))) (y32 : (List Int)) (y97 : (List (Int × (Int × (Int × (Bool × Bool)))))) (x11 : Int) (x13 : Int) (x33 : Int) (x34 : Int) (x55 : Bool) : St := mkS 71 224 [(10, aP 26), (11, aI x11), (13, aI x13), (32, aO 32), (33, aI x33), (34, aI x34), (55, aB x55)] [(26, .box [cV Tq2 y26_0, cV Tq6 y26_1, cV Tq2 y26_2, .own 97, cV Tq1 y26_4]), (32, .vec (.int .i64) y32), (97, .vec Tq26 y97)]
abbrev f52_t_r12 := (List (Int × Int)) → (List (Int × (Int × (Int × Int)))) → (List (Int × Int)) → (List (List Int)) → (List Int) → (List (Int × (Int × (Int × (Bool × Bool))))) → Int → Int → Int → Int → Bool → Option ((List Int) × Int × Int × Unit)
abbrev f52_o_r12 (R : f52_S) : f52_t_r12 := (fun y26_0 y26_1 y26_2 y26_4 y32 y97 x11 x13 x33 x34 x55 => R (f52_s_r12 y26_0 y26_1 y26_2 y26_4 y32 y97 x11 x13 x33 x34 x55))
noncomputable def f52_Q_r12 (k : Nat) (R_l0 : f52_S) : f52_L := [.c (f52_p 130355) 1, .blk 1, .c (f52_p 16295) 0, .j (fun σ => R_l0 (cut f52_A.loops 0 σ)), .blk 0, .c (f52_p 255) 0]
noncomputable def f52_C_r12 (k : Nat) (R_l0 : f52_S) : f52_S := fun σ => f52_a k (f52_Q_r12 k R_l0) .nx σ
def f52_s_c13 (y26_0 : (List (Int × Int))) (y26_1 : (List (Int × (Int × (Int × Int))))) (y26_2 : (List (Int × Int))) (y26_4 : (List (List Int))) (y32 : (List Int)) (y97 : (List (Int × (Int × (Int × (Bool × Bool)))))) (x11 : Int) (x33 : Int) (x34 : Int) : St := mkS 71 224 [(10, aP 26), (11, aI x11), (32, aO 32), (33, aI x33), (34, aI x34)] [(26, .box [cV Tq2 y26_0, cV Tq6 y26_1, cV Tq2 y26_2, .own 97, cV Tq1 y26_4]), (32, .vec (.int .i64) y32), (97, .vec Tq26 y97)]
abbrev f52_t_c13 := (List (Int × Int)) → (List (Int × (Int × (Int × Int)))) → (List (Int × Int)) → (List (List Int)) → (List Int) → (List (Int × (Int × (Int × (Bool × Bool))))) → Int → Int → Int → Option ((List Int) × Int × Int × Unit)
abbrev f52_o_c13 (R : f52_S) : f52_t_c13 := (fun y26_0 y26_1 y26_2 y26_4 y32 y97 x11 x33 x34 => R (f52_s_c13 y26_0 y26_1 y26_2 y26_4 y32 y97 x11 x33 x34))
noncomputable def f52_Q_c13 (k : Nat) (R_l0 : f52_S) : f52_L := [.blk 1, .c (f52_p 16295) 0, .j (fun σ => R_l0 (cut f52_A.loops 0 σ)), .blk 0, .c (f52_p 255) 0]
noncomputable def f52_C_c13 (k : Nat) (R_l0 : f52_S) : f52_S := fun σ => f52_a k (f52_Q_c13 k R_l0) .nx σ
noncomputable def f52_F_c13 (k : Nat) (G_l0 : f52_S) : f52_L := .blk 1 :: .c (f52_p 16295) 0 :: .j (fun σ => G_l0 (cut f52_A.loops 0 σ)) :: .blk 0 :: .c (f52_p 255) 0 :: []
theorem f52_f_c13 (k : Nat) (R_l0 : f52_S) : f52_a k (f52_Q_c13 k R_l0) = f52_a k (f52_F_c13 k R_l0) := (ap_cons _ (ap_cons _ (ap_cons _ (ap_cons _ (ap_cons _ rfl)))))
noncomputable def f52_F_r12 (k : Nat) (G_l0 G_c13 : f52_S) : f52_L := .c (f52_p 130355) 1 :: .j G_c13 :: f52_F_c13 k G_l0
theorem f52_f_r12 (k : Nat) (R_l0 : f52_S) : f52_a k (f52_Q_r12 k R_l0) = f52_a k (f52_F_r12 k R_l0 (f52_C_c13 k R_l0)) := (ap_cons _ (Eq.trans (ap_pass (C := (f52_C_c13 k R_l0)) (fun _ => rfl)) (ap_cons _ (f52_f_c13 k R_l0))))
noncomputable def f52_F_l0 (k : Nat) (G_l0 G_r12 G_c13 : f52_S) : f52_L := .c (f52_p 4072) 0 :: .c (f52_p 8146) 0 :: .j (fun σ => f52_a k (.c (f52_p 65176) 1 :: .c (f52_p 130354) 1 :: .j G_r12 :: f52_F_r12 k G_l0 G_c13) .nx σ) :: .c (f52_p 16295) 0 :: .j (fun σ => G_l0 (cut f52_A.loops 0 σ)) :: .blk 0 :: .c (f52_p 255) 0 :: []
theorem f52_f_l0 (k : Nat) (R_l0 : f52_S) : f52_a k (f52_Q_l0 k R_l0) = f52_a k (f52_F_l0 k R_l0 (f52_C_r12 k R_l0) (f52_C_c13 k R_l0)) := (Eq.trans ap_sq (ap_cons _ (Eq.trans ap_sq (ap_cons _ (Eq.trans ap_sq (Eq.trans (ap_bl 1) (Eq.trans (ap_j (Eq.trans ap_sq (ap_cons _ (Eq.trans ap_sq (ap_cons _ (Eq.trans (ap_pass (C := (f52_C_r12 k R_l0)) (fun _ => rfl)) (ap_cons _ (f52_f_r12 k R_l0)))))))) (ap_cons _ (ap_cons _ (ap_cons _ (ap_cons _ (ap_cons _ rfl))))))))))))
def f52_entry_B (k : Nat) (g_l0 : f52_t_l0) (a0 : Td12) (a1 : Int) (a2 : Int) : Option ((List Int) × Int × Int × Unit) := ((f88 k (a0.1, (a0.2.1, a0.2.2)) ([a1, a2])).bind fun r1 => (if ¬ (r1.1 = 0) then some ([], 0, r1.1, ()) else (if a1 = a2 then some ([], 0, 0, ()) else ((f112 k (a0.1, (a0.2.1, a0.2.2))).bind fun r2 => ((f113 k (r2.1.1.1.1, (r2.1.1.1.2.1, r2.1.1.1.2.2)) r2.1.1.2.1 r2.1.2.1 a1).bind fun r3 => ((f114 k (a0.1, (a0.2.1, a0.2.2)) a2).bind fun r4 => (g_l0 r3.1.1.1.1 r3.1.1.1.2.1 r3.1.1.1.2.2 r3.1.1.2.1 r4.1 r3.1.2.1 (-1) (r4.1.length : Int) 0)))))))
def f52_l0_B (k : Nat) (g_r12 : f52_t_r12) (y26_0 : (List (Int × Int))) (y26_1 : (List (Int × (Int × (Int × Int))))) (y26_2 : (List (Int × Int))) (y26_4 : (List (List Int))) (y32 : (List Int)) (y97 : (List (Int × (Int × (Int × (Bool × Bool)))))) (x11 : Int) (x33 : Int) (x34 : Int) : Option ((List Int) × Int × Int × Unit) := (if x34 < x33 then (if 0 ≤ x34 then (if x34 < (y32.length : Int) then (if 0 ≤ (y32.getD ((x34).toNat) 0) then (if (y32.getD ((x34).toNat) 0) < (y97.length : Int) then (if (((((y97.getD (((y32.getD ((x34).toNat) 0)).toNat) (0, (0, (0, (false, false))))).2).2).2).1) = true then (if x11 < 0 then (g_r12 y26_0 y26_1 y26_2 y26_4 y32 y97 x11 (y32.getD ((x34).toNat) 0) x33 x34 true) else ((f115 k ((y26_0, (y26_1, y26_2)), (y97, y26_4)) (y32.getD ((x34).toNat) 0) x11).bind fun r1 => (g_r12 y26_0 y26_1 y26_2 y26_4 y32 y97 x11 (y32.getD ((x34).toNat) 0) x33 x34 (decide (r1.1 = true))))) else (g_r12 y26_0 y26_1 y26_2 y26_4 y32 y97 x11 (y32.getD ((x34).toNat) 0) x33 x34 false)) else none) else none) else none) else none) else (if x11 < 0 then some ([], 0, 17, ()) else ((f116 k ((y26_0, (y26_1, y26_2)), (y97, y26_4)) x11).bind fun r2 => (if 0 ≤ x11 then (if x11 < (y97.length : Int) then some (r2.1, (y97.getD ((x11).toNat) (0, (0, (0, (false, false))))).1, 0, ()) else none) else none))))
def f52_r12_B (k : Nat) (g_c13 : f52_t_c13) (y26_0 : (List (Int × Int))) (y26_1 : (List (Int × (Int × (Int × Int))))) (y26_2 : (List (Int × Int))) (y26_4 : (List (List Int))) (y32 : (List Int)) (y97 : (List (Int × (Int × (Int × (Bool × Bool)))))) (x11 : Int) (x13 : Int) (x33 : Int) (x34 : Int) (x55 : Bool) : Option ((List Int) × Int × Int × Unit) := (if x55 = true then (g_c13 y26_0 y26_1 y26_2 y26_4 y32 y97 x13 x33 x34) else (g_c13 y26_0 y26_1 y26_2 y26_4 y32 y97 x11 x33 x34))
def f52_c13_B (k : Nat) (g_l0 : f52_t_l0) (y26_0 : (List (Int × Int))) (y26_1 : (List (Int × (Int × (Int × Int))))) (y26_2 : (List (Int × Int))) (y26_4 : (List (List Int))) (y32 : (List Int)) (y97 : (List (Int × (Int × (Int × (Bool × Bool)))))) (x11 : Int) (x33 : Int) (x34 : Int) : Option ((List Int) × Int × Int × Unit) := (g_l0 y26_0 y26_1 y26_2 y26_4 y32 y97 x11 x33 (w64 (x34 + 1)))
theorem f52_c13_P (k : Nat) (G_l0 : f52_S) : f52_o_c13 (fun σ => f52_a k (f52_F_c13 k G_l0) .nx σ) = f52_c13_B k (f52_o_l0 G_l0) := by kernel_rfl
def f52_c13 (k : Nat) (r_l0 : f52_t_l0) : f52_t_c13 := f52_c13_B k r_l0
theorem f52_c13_E (k : Nat) (R_l0 : f52_S) : f52_o_c13 (f52_C_c13 k R_l0) = f52_c13 k (f52_o_l0 R_l0) :=
  Eq.trans (congrArg f52_o_c13 (ap_fn (f52_f_c13 k R_l0))) ((f52_c13_P k R_l0).trans (by rfl))
theorem f52_r12_P (k : Nat) (G_l0 G_c13 : f52_S) : f52_o_r12 (fun σ => f52_a k (f52_F_r12 k G_l0 G_c13) .nx σ) = f52_r12_B k (f52_o_c13 G_c13) := by kernel_rfl
def f52_r12 (k : Nat) (r_l0 : f52_t_l0) : f52_t_r12 := f52_r12_B k (f52_c13 k r_l0)
theorem f52_r12_E (k : Nat) (R_l0 : f52_S) : f52_o_r12 (f52_C_r12 k R_l0) = f52_r12 k (f52_o_l0 R_l0) :=
  Eq.trans (congrArg f52_o_r12 (ap_fn (f52_f_r12 k R_l0))) ((f52_r12_P k R_l0 (f52_C_c13 k R_l0)).trans (by rw [f52_c13_E k R_l0] <;> rfl))
theorem f52_l0_P (k : Nat) (G_l0 G_r12 G_c13 : f52_S) : f52_o_l0 (fun σ => f52_a k (f52_F_l0 k G_l0 G_r12 G_c13) .nx σ) = f52_l0_B k (f52_o_r12 G_r12) := by kernel_rfl
def f52_l0 (k : Nat) : Nat → f52_t_l0
  | 0 => fun _ _ _ _ _ _ _ _ _ => none
  | n + 1 => f52_l0_B k (f52_r12 k (f52_l0 k n))
theorem f52_l0_E (k : Nat) : ∀ n, f52_o_l0 (f52_C_l0 k n) = f52_l0 k n
  | 0 => rfl
  | n + 1 =>
    Eq.trans (congrArg f52_o_l0 (Eq.trans (b := fun σ => f52_a k (f52_Q_l0 k (f52_C_l0 k n)) .nx σ) (by kernel_rfl) (ap_fn (f52_f_l0 k (f52_C_l0 k n))))) ((f52_l0_P k (f52_C_l0 k n) (f52_C_r12 k (f52_C_l0 k n)) (f52_C_c13 k (f52_C_l0 k n))).trans (by rw [f52_r12_E k (f52_C_l0 k n), f52_l0_E k n] <;> rfl))
theorem f52_entry_P (k : Nat) (G_l0 : f52_S) (xs : DL f52_sig) : f52_a k (.c (f52_p 2) 0 :: .c (f52_p 6) 0 :: .c (f52_p 14) 0 :: .c (f52_p 30) 0 :: .c (f52_p 62) 0 :: .c (f52_p 126) 0 :: .c (f52_p 508) 0 :: .j (fun σ => f52_a k (.j (fun σ => G_l0 (cut f52_A.loops 0 σ)) :: .blk 0 :: .c (f52_p 255) 0 :: []) .nx σ) :: .c (f52_p 255) 0 :: []) .nx (σ0 71 224 f52_sig xs) = f52_entry_B k (f52_o_l0 G_l0) xs.1 xs.2.1 xs.2.2.1 := by kernel_rfl
def f52 (k : Nat) (a0 : Td12) (a1 : Int) (a2 : Int) : Option ((List Int) × Int × Int × Unit) := f52_entry_B k (f52_l0 k k) a0 a1 a2
theorem f52_fe (k : Nat) : f52_a k [.c (f52_p 1) 0] = f52_a k (.c (f52_p 2) 0 :: .c (f52_p 6) 0 :: .c (f52_p 14) 0 :: .c (f52_p 30) 0 :: .c (f52_p 62) 0 :: .c (f52_p 126) 0 :: .c (f52_p 508) 0 :: .j (fun σ => f52_a k (.j (fun σ => (f52_C_l0 k k) (cut f52_A.loops 0 σ)) :: .blk 0 :: .c (f52_p 255) 0 :: []) .nx σ) :: .c (f52_p 255) 0 :: []) := (Eq.trans ap_sq (ap_cons _ (Eq.trans ap_sq (ap_cons _ (Eq.trans ap_sq (ap_cons _ (Eq.trans ap_sq (ap_cons _ (Eq.trans ap_sq (ap_cons _ (Eq.trans ap_sq (ap_cons _ (Eq.trans ap_sq (Eq.trans ap_sq (ap_cons _ (Eq.trans (ap_bl 0) (Eq.trans (ap_j (Eq.trans (ap_lp (C := (f52_C_l0 k)) (fun _ _ => rfl)) (ap_cons _ (ap_cons _ (ap_cons _ rfl))))) (ap_cons _ (ap_cons _ rfl)))))))))))))))))))
theorem f52_eq (k : Nat) (xs : DL f52_sig) : den T f52_Y (f52_E k) f52_A k f52_c 0 (σ0 71 224 f52_sig xs) (Kfin T f52_rs f52_ts) = f52 k xs.1 xs.2.1 xs.2.2.1 :=
  Eq.trans (Eq.trans den_sb (ap_at (f52_fe k) _)) ((f52_entry_P k (f52_C_l0 k k) xs).trans (by rw [f52_l0_E k k] <;> rfl))
noncomputable def f52_con (k : Nat) : Con := ⟨f52_sig, f52_rs, fun xs => f52 k xs.1 xs.2.1 xs.2.2.1⟩
theorem f52_ok (k : Nat) : PureOK Try.prog 52 f52_sig f52_rs (fun xs => f52 k xs.1 xs.2.1 xs.2.2.1) :=
  (pure_of_den (k := k) (A := f52_A) (T := T) (Y := f52_Y) (E := f52_E k) (M := 224) (ts := f52_ts) T_ok ⟨f88_ok k, f112_ok k, f113_ok k, f114_ok k, f115_ok k, f116_ok k, trivial⟩ ⟨f88_ent, f112_ent, f113_ent, f114_ent, f115_ent, f116_ent, trivial⟩ mixed (f := 52) (fn := Try.f52) (c := f52_c) (by kernel_rfl) (by kernel_rfl) (by kernel_rfl) (by decide) (by kernel_rfl)).congr fun xs => (f52_eq k xs).symm
theorem f52_ent : Ent Try.prog 52 := fun args w => by kernel_rfl
/-! ### slices.Equal[[]int,int]: function 59 -/
noncomputable def f59_c : Code := Try.f59.body.getD .skip
noncomputable abbrev f59_p (n : Nat) : Code := sb f59_c n
abbrev f59_sig : List PT := [(false, Tq1), (false, Tq1)]
abbrev f59_rs : List RT := [.d false .bool]
abbrev f59_ts : List RV := [.tmp 4]
abbrev f59_S := St → Option (RDL f59_rs)
abbrev f59_L := List (Fr (RDL f59_rs))
def f59_Y : Tys := []
noncomputable def f59_E (k : Nat) : Env := []
def f59_A : Ann := { loops := [(0, { slots := [(0, .val false (.int .i64)), (1, .val false (.int .i64)), (12, .id), (13, .id)] })] }
noncomputable abbrev f59_a (k : Nat) (F : f59_L) : Kont (RDL f59_rs) := ap T f59_Y (f59_E k) f59_A k (Kfin T f59_rs f59_ts) F
def f59_s_l0 (x0 : (List Int)) (x1 : (List Int)) (x12 : Int) (x13 : Int) : St := mkS 26 80 [(0, aV (.int .i64) x0), (1, aV (.int .i64) x1), (12, aI x12), (13, aI x13)] []
abbrev f59_t_l0 := (List Int) → (List Int) → Int → Int → Option (Bool × Unit)
abbrev f59_o_l0 (R : f59_S) : f59_t_l0 := (fun x0 x1 x12 x13 => R (f59_s_l0 x0 x1 x12 x13))
noncomputable def f59_Q_l0 (k : Nat) (R_l0 : f59_S) : f59_L := [.c (f59_p 116) 0, .j (fun σ => R_l0 (cut f59_A.loops 0 σ)), .blk 0, .c (f59_p 15) 0]
noncomputable def f59_C_l0 (k : Nat) (n : Nat) (σ : St) : Option (RDL f59_rs) := loopK (fun σ K => den T f59_Y (f59_E k) f59_A k (f59_p 116) 0 σ K) (cut f59_A.loops 0) (f59_a k [.blk 0, .c (f59_p 15) 0]) n σ
noncomputable def f59_F_l0 (k : Nat) (G_l0 : f59_S) : f59_L := .c (f59_p 116) 0 :: .j (fun σ => G_l0 (cut f59_A.loops 0 σ)) :: .blk 0 :: .c (f59_p 15) 0 :: []
theorem f59_f_l0 (k : Nat) (R_l0 : f59_S) : f59_a k (f59_Q_l0 k R_l0) = f59_a k (f59_F_l0 k R_l0) := (ap_cons _ (ap_cons _ (ap_cons _ (ap_cons _ rfl))))
def f59_entry_B (k : Nat) (g_l0 : f59_t_l0) (a0 : (List Int)) (a1 : (List Int)) : Option (Bool × Unit) := (if ¬ ((a0.length : Int) = (a1.length : Int)) then some (false, ()) else (g_l0 a0 a1 (a0.length : Int) 0))
def f59_l0_B (k : Nat) (g_l0 : f59_t_l0) (x0 : (List Int)) (x1 : (List Int)) (x12 : Int) (x13 : Int) : Option (Bool × Unit) := (if x13 < x12 then (if 0 ≤ x13 then (if x13 < (x0.length : Int) then (if 0 ≤ x13 then (if x13 < (x1.length : Int) then (if ¬ ((x0.getD (x13).toNat 0) = (x1.getD (x13).toNat 0)) then some (false, ()) else (g_l0 x0 x1 x12 (w64 (x13 + 1)))) else none) else none) else none) else none) else some (true, ()))
theorem f59_l0_P (k : Nat) (G_l0 : f59_S) : f59_o_l0 (fun σ => f59_a k (f59_F_l0 k G_l0) .nx σ) = f59_l0_B k (f59_o_l0 G_l0) := by kernel_rfl
def f59_l0 (k : Nat) : Nat → f59_t_l0
  | 0 => fun _ _ _ _ => none
  | n + 1 => f59_l0_B k (f59_l0 k n)
theorem f59_l0_E (k : Nat) : ∀ n, f59_o_l0 (f59_C_l0 k n) = f59_l0 k n
  | 0 => rfl
  | n + 1 =>
    Eq.trans (congrArg f59_o_l0 (Eq.trans (b := fun σ => f59_a k (f59_Q_l0 k (f59_C_l0 k n)) .nx σ) (by kernel_rfl) (ap_fn (f59_f_l0 k (f59_C_l0 k n))))) ((f59_l0_P k (f59_C_l0 k n)).trans (by rw [f59_l0_E k n] <;> rfl))
theorem f59_entry_P (k : Nat) (G_l0 : f59_S) (xs : DL f59_sig) : f59_a k (.c (f59_p 2) 0 :: .c (f59_p 6) 0 :: .c (f59_p 28) 0 :: .j (fun σ => f59_a k (.j (fun σ => G_l0 (cut f59_A.loops 0 σ)) :: .blk 0 :: .c (f59_p 15) 0 :: []) .nx σ) :: .c (f59_p 15) 0 :: []) .nx (σ0 26 80 f59_sig xs) = f59_entry_B k (f59_o_l0 G_l0) xs.1 xs.2.1 := by kernel_rfl
def f59 (k : Nat) (a0 : (List Int)) (a1 : (List Int)) : Option (Bool × Unit) := f59_entry_B k (f59_l0 k k) a0 a1
theorem f59_fe (k : Nat) : f59_a k [.c (f59_p 1) 0] = f59_a k (.c (f59_p 2) 0 :: .c (f59_p 6) 0 :: .c (f59_p 28) 0 :: .j (fun σ => f59_a k (.j (fun σ => (f59_C_l0 k k) (cut f59_A.loops 0 σ)) :: .blk 0 :: .c (f59_p 15) 0 :: []) .nx σ) :: .c (f59_p 15) 0 :: []) := (Eq.trans ap_sq (ap_cons _ (Eq.trans ap_sq (ap_cons _ (Eq.trans ap_sq (Eq.trans ap_sq (ap_cons _ (Eq.trans (ap_bl 0) (Eq.trans (ap_j (Eq.trans (ap_lp (C := (f59_C_l0 k)) (fun _ _ => rfl)) (ap_cons _ (ap_cons _ (ap_cons _ rfl))))) (ap_cons _ (ap_cons _ rfl)))))))))))
theorem f59_eq (k : Nat) (xs : DL f59_sig) : den T f59_Y (f59_E k) f59_A k f59_c 0 (σ0 26 80 f59_sig xs) (Kfin T f59_rs f59_ts) = f59 k xs.1 xs.2.1 :=
  Eq.trans (Eq.trans den_sb (ap_at (f59_fe k) _)) ((f59_entry_P k (f59_C_l0 k k) xs).trans (by rw [f59_l0_E k k] <;> rfl))
noncomputable def f59_con (k : Nat) : Con := ⟨f59_sig, f59_rs, fun xs => f59 k xs.1 xs.2.1⟩
theorem f59_ok (k : Nat) : PureOK Try.prog 59 f59_sig f59_rs (fun xs => f59 k xs.1 xs.2.1) :=
  (pure_of_den (k := k) (A := f59_A) (T := T) (Y := f59_Y) (E := f59_E k) (M := 80) (ts := f59_ts) T_ok trivial trivial mixed (f := 59) (fn := Try.f59) (c := f59_c) (by kernel_rfl) (by kernel_rfl) (by kernel_rfl) (by decide) (by kernel_rfl)).congr fun xs => (f59_eq k xs).symm
theorem f59_ent : Ent Try.prog 59 := fun args w => by kernel_rfl
/-! ### terrier/terrtop.g3ways: function 18 -/
noncomputable def f18_c : Code := Try.f18.body.getD .skip
noncomputable abbrev f18_p (n : Nat) : Code := sb f18_c n
abbrev f18_sig : List PT := []
abbrev f18_rs : List RT := [.d false .bool]
abbrev f18_ts : List RV := [.tmp 0]
abbrev f18_S := St → Option (RDL f18_rs)
abbrev f18_L := List (Fr (RDL f18_rs))
def f18_Y : Tys := [(3, (.int .i64)), (34, Tq6), (108, Tq2)]
noncomputable def f18_E (k : Nat) : Env := [(52, .c (f52_con k)), (59, .c (f59_con k))]
def f18_A : Ann := { regs := [(3, { slots := [(0, .bool)] })] }
noncomputable abbrev f18_a (k : Nat) (F : f18_L) : Kont (RDL f18_rs) := ap T f18_Y (f18_E k) f18_A k (Kfin T f18_rs f18_ts) F
def f18_s_r3 (x0 : Bool) : St := mkS 28 96 [(0, aB x0)] []
abbrev f18_t_r3 := Bool → Option (Bool × Unit)
abbrev f18_o_r3 (R : f18_S) : f18_t_r3 := (fun x0 => R (f18_s_r3 x0))
noncomputable def f18_Q_r3 (k : Nat) : f18_L := [.c (f18_p 31) 0]
noncomputable def f18_C_r3 (k : Nat) : f18_S := fun σ => f18_a k (f18_Q_r3 k) .nx σ
noncomputable def f18_F_r3 (k : Nat) : f18_L := .c (f18_p 31) 0 :: []
theorem f18_f_r3 (k : Nat) : f18_a k (f18_Q_r3 k) = f18_a k (f18_F_r3 k) := (ap_cons _ rfl)
def f18_entry_B (k : Nat) (g_r3 : f18_t_r3)  : Option (Bool × Unit) := ((f52 k ([(0, 0), (1, 0)], ([(0, (1, (7, 0)))], [])) 0 1).bind fun r1 => (if r1.2.2.1 = 0 then (if r1.2.1 = 7 then ((f59 k r1.1 ([0])).bind fun r2 => (g_r3 (decide (r2.1 = true)))) else (g_r3 false)) else (g_r3 false)))
def f18_r3_B (k : Nat) (x0 : Bool) : Option (Bool × Unit) := some (decide (x0 = true), ())
theorem f18_r3_P (k : Nat) : f18_o_r3 (fun σ => f18_a k (f18_F_r3 k) .nx σ) = f18_r3_B k := by kernel_rfl
def f18_r3 (k : Nat) : f18_t_r3 := f18_r3_B k
theorem f18_r3_E (k : Nat) : f18_o_r3 (f18_C_r3 k) = f18_r3 k :=
  Eq.trans (congrArg f18_o_r3 (ap_fn (f18_f_r3 k))) ((f18_r3_P k).trans (by rfl))
theorem f18_entry_P (k : Nat) (G_r3 : f18_S) (xs : DL f18_sig) : f18_a k (.c (f18_p 2) 0 :: .c (f18_p 6) 0 :: .c (f18_p 14) 0 :: .c (f18_p 30) 0 :: .j G_r3 :: f18_F_r3 k) .nx (σ0 28 96 f18_sig xs) = f18_entry_B k (f18_o_r3 G_r3)  := by kernel_rfl
def f18 (k : Nat)  : Option (Bool × Unit) := f18_entry_B k (f18_r3 k) 
theorem f18_fe (k : Nat) : f18_a k [.c (f18_p 1) 0] = f18_a k (.c (f18_p 2) 0 :: .c (f18_p 6) 0 :: .c (f18_p 14) 0 :: .c (f18_p 30) 0 :: .j (f18_C_r3 k) :: f18_F_r3 k) := (Eq.trans ap_sq (ap_cons _ (Eq.trans ap_sq (ap_cons _ (Eq.trans ap_sq (ap_cons _ (Eq.trans ap_sq (ap_cons _ (Eq.trans (ap_pass (C := (f18_C_r3 k)) (fun _ => rfl)) (ap_cons _ (f18_f_r3 k)))))))))))
theorem f18_eq (k : Nat) (xs : DL f18_sig) : den T f18_Y (f18_E k) f18_A k f18_c 0 (σ0 28 96 f18_sig xs) (Kfin T f18_rs f18_ts) = f18 k  :=
  Eq.trans (Eq.trans den_sb (ap_at (f18_fe k) _)) ((f18_entry_P k (f18_C_r3 k) xs).trans (by rw [f18_r3_E k] <;> rfl))
noncomputable def f18_con (k : Nat) : Con := ⟨f18_sig, f18_rs, fun xs => f18 k ⟩
theorem f18_ok (k : Nat) : PureOK Try.prog 18 f18_sig f18_rs (fun xs => f18 k ) :=
  (pure_of_den (k := k) (A := f18_A) (T := T) (Y := f18_Y) (E := f18_E k) (M := 96) (ts := f18_ts) T_ok ⟨f52_ok k, f59_ok k, trivial⟩ ⟨f52_ent, f59_ent, trivial⟩ mixed (f := 18) (fn := Try.f18) (c := f18_c) (by kernel_rfl) (by kernel_rfl) (by kernel_rfl) (by decide) (by kernel_rfl)).congr fun xs => (f18_eq k xs).symm
theorem f18_ent : Ent Try.prog 18 := fun args w => by kernel_rfl
/-! ### terrier/terrtop.TopTimes: function 3 -/
noncomputable def f3_c : Code := Try.f3.body.getD .skip
noncomputable abbrev f3_p (n : Nat) : Code := sb f3_c n
abbrev f3_sig : List PT := [(false, Tq1), (false, (.int .i64))]
abbrev f3_rs : List RT := [.d false .bool]
abbrev f3_ts : List RV := [.tmp 4]
abbrev f3_S := St → Option (RDL f3_rs)
abbrev f3_L := List (Fr (RDL f3_rs))
def f3_Y : Tys := [(36, Tq13), (39, Tq2), (41, Tq3)]
noncomputable def f3_E (k : Nat) : Env := [(14, .c (f14_con k)), (15, .c (f15_con k)), (16, .c (f16_con k)), (17, .c (f17_con k)), (18, .c (f18_con k))]
def f3_A : Ann := { loops := [(0, { matb := [(6, 2, 60, Tq13)], slots := [(5, .id), (6, .id), (7, .id), (35, .id)], keys := [(5, [.val false Tq2, .val false Tq6, .val false Tq2]), (6, []), (60, [])] }), (2, { matb := [(6, 2, 60, Tq13)], slots := [(5, .id), (6, .id), (7, .id), (8, .id), (35, .id), (39, .val false Tq6), (40, .id), (41, .id)], keys := [(5, [.val false Tq2, .val false Tq6, .val false Tq2]), (6, []), (60, [])] }), (4, { mat := [(11, 77, Tq3)], matb := [(6, 2, 60, Tq13)], slots := [(5, .id), (6, .id), (7, .id), (11, .id), (65, .val false Tq6), (66, .id), (67, .id)], keys := [(5, [.val false Tq2, .val false Tq6, .val false Tq2]), (6, []), (60, []), (77, [])] }), (6, { slots := [(14, .id), (16, .id), (118, .id), (119, .id)], keys := [(82, []), (89, [])] })], regs := [(22, { slots := [(14, .id), (16, .id), (116, .bool)], keys := [(82, []), (89, [])] }), (27, { slots := [(14, .id), (16, .id), (118, .id), (119, .id), (144, .bool)], keys := [(82, []), (89, [])] })] }
noncomputable abbrev f3_a (k : Nat) (F : f3_L) : Kont (RDL f3_rs) := ap T f3_Y (f3_E k) f3_A k (Kfin T f3_rs f3_ts) F
def f3_s_l0 (y5_0 : (List (Int × Int))) (y5_1 : (List (Int × (Int × (Int × Int))))) (y5_2 : (List (Int × Int))) (y6_0 : Int) (y60 : (List (Int × (Int × (Int × (Int × Int)))))) (x35 : Int) (x7 : Int) : St := mkS 146 448 [(5, aP 5), (6, aP 6), (7, aI x7), (35, aI x35)] [(5, .box [cV Tq2 y5_0, cV Tq6 y5_1, cV Tq2 y5_2]), (6, .box [cI y6_0, cI 0, .own 60]), (60, .vec Tq13 y60)]
abbrev f3_t_l0 := (List (Int × Int)) → (List (Int × (Int × (Int × Int)))) → (List (Int × Int)) → Int → (List (Int × (Int × (Int × (Int × Int))))) → Int → Int → Option (Bool × Unit)
abbrev f3_o_l0 (R : f3_S) : f3_t_l0 := (fun y5_0 y5_1 y5_2 y6_0 y60 x35 x7 => R (f3_s_l0 y5_0 y5_1 y5_2 y6_0 y60 x35 x7))
noncomputable def f3_Q_l0 (k : Nat) (R_l0 : f3_S) : f3_L := [.c (f3_p 1012) 0, .j (fun σ => R_l0 (cut f3_A.loops 0 σ)), .blk 0, .c (f3_p 127) 0]
noncomputable def f3_C_l0 (k : Nat) (n : Nat) (σ : St) : Option (RDL f3_rs) := loopK (fun σ K => den T f3_Y (f3_E k) f3_A k (f3_p 1012) 0 σ K) (cut f3_A.loops 0) (f3_a k [.blk 0, .c (f3_p 127) 0]) n σ
def f3_s_l2 (y5_0 : (List (Int × Int))) (y5_1 : (List (Int × (Int × (Int × Int))))) (y5_2 : (List (Int × Int))) (y6_0 : Int) (y60 : (List (Int × (Int × (Int × (Int × Int)))))) (x35 : Int) (x40 : Int) (x41 : Int) (x7 : Int) : St := mkS 146 448 [(5, aP 5), (6, aP 6), (7, aI x7), (8, aI x35), (35, aI x35), (39, aV Tq6 y5_1), (40, aI x40), (41, aI x41)] [(5, .box [cV Tq2 y5_0, cV Tq6 y5_1, cV Tq2 y5_2]), (6, .box [cI y6_0, cI 0, .own 60]), (60, .vec Tq13 y60)]
abbrev f3_t_l2 := (List (Int × Int)) → (List (Int × (Int × (Int × Int)))) → (List (Int × Int)) → Int → (List (Int × (Int × (Int × (Int × Int))))) → Int → Int → Int → Int → Option (Bool × Unit)
abbrev f3_o_l2 (R : f3_S) : f3_t_l2 := (fun y5_0 y5_1 y5_2 y6_0 y60 x35 x40 x41 x7 => R (f3_s_l2 y5_0 y5_1 y5_2 y6_0 y60 x35 x40 x41 x7))
noncomputable def f3_Q_l2 (k : Nat) (R_l0 R_l2 : f3_S) : f3_L := [.c (f3_p 259276) 2, .j (fun σ => R_l2 (cut f3_A.loops 2 σ)), .blk 2, .blk 1, .c (f3_p 8103) 0, .j (fun σ => R_l0 (cut f3_A.loops 0 σ)), .blk 0, .c (f3_p 127) 0]
noncomputable def f3_C_l2 (k : Nat) (R_l0 : f3_S) (n : Nat) (σ : St) : Option (RDL f3_rs) := loopK (fun σ K => den T f3_Y (f3_E k) f3_A k (f3_p 259276) 2 σ K) (cut f3_A.loops 2) (f3_a k [.blk 2, .blk 1, .c (f3_p 8103) 0, .j (fun σ => R_l0 (cut f3_A.loops 0 σ)), .blk 0, .c (f3_p 127) 0]) n σ
def f3_s_l4 (y5_0 : (List (Int × Int))) (y5_1 : (List (Int × (Int × (Int × Int))))) (y5_2 : (List (Int × Int))) (y6_0 : Int) (y60 : (List (Int × (Int × (Int × (Int × Int)))))) (y77 : (List (List (Int × Int)))) (x66 : Int) (x67 : Int) (x7 : Int) : St := mkS 146 448 [(5, aP 5), (6, aP 6), (7, aI x7), (11, aO 77), (65, aV Tq6 y5_1), (66, aI x66), (67, aI x67)] [(5, .box [cV Tq2 y5_0, cV Tq6 y5_1, cV Tq2 y5_2]), (6, .box [cI y6_0, cI 0, .own 60]), (60, .vec Tq13 y60), (77, .vec Tq3 y77)]
abbrev f3_t_l4 := (List (Int × Int)) → (List (Int × (Int × (Int × Int)))) → (List (Int × Int)) → Int → (List (Int × (Int × (Int × (Int × Int))))) → (List (List (Int × Int))) → Int → Int → Int → Option (Bool × Unit)
abbrev f3_o_l4 (R : f3_S) : f3_t_l4 := (fun y5_0 y5_1 y5_2 y6_0 y60 y77 x66 x67 x7 => R (f3_s_l4 y5_0 y5_1 y5_2 y6_0 y60 y77 x66 x67 x7))
noncomputable def f3_Q_l4 (k : Nat) (R_l4 : f3_S) : f3_L := [.c (f3_p 4084) 4, .j (fun σ => R_l4 (cut f3_A.loops 4 σ)), .blk 4, .c (f3_p 511) 0]
noncomputable def f3_C_l4 (k : Nat) (n : Nat) (σ : St) : Option (RDL f3_rs) := loopK (fun σ K => den T f3_Y (f3_E k) f3_A k (f3_p 4084) 4 σ K) (cut f3_A.loops 4) (f3_a k [.blk 4, .c (f3_p 511) 0]) n σ
def f3_s_r22 (y82 : (List Int)) (y89 : (List Int)) (x116 : Bool) : St := mkS 146 448 [(14, aO 82), (16, aO 89), (116, aB x116)] [(82, .vec (.int .i64) y82), (89, .vec (.int .i64) y89)]
abbrev f3_t_r22 := (List Int) → (List Int) → Bool → Option (Bool × Unit)
abbrev f3_o_r22 (R : f3_S) : f3_t_r22 := (fun y82 y89 x116 => R (f3_s_r22 y82 y89 x116))
noncomputable def f3_Q_r22 (k : Nat) : f3_L := [.c (f3_p 8189) 0, .c (f3_p 4095) 0]
noncomputable def f3_C_r22 (k : Nat) : f3_S := fun σ => f3_a k (f3_Q_r22 k) .nx σ
def f3_s_l6 (y82 : (List Int)) (y89 : (List Int)) (x118 : Int) (x119 : Int) : St := mkS 146 448 [(14, aO 82), (16, aO 89), (118, aI x118), (119, aI x119)] [(82, .vec (.int .i64) y82), (89, .vec (.int .i64) y89)]
abbrev f3_t_l6 := (List Int) → (List Int) → Int → Int → Option (Bool × Unit)
abbrev f3_o_l6 (R : f3_S) : f3_t_l6 := (fun y82 y89 x118 x119 => R (f3_s_l6 y82 y89 x118 x119))
noncomputable def f3_Q_l6 (k : Nat) (R_l6 : f3_S) : f3_L := [.c (f3_p 65524) 6, .j (fun σ => R_l6 (cut f3_A.loops 6 σ)), .blk 6, .c (f3_p 8191) 0]
noncomputable def f3_C_l6 (k : Nat) (n : Nat) (σ : St) : Option (RDL f3_rs) := loopK (fun σ K => den T f3_Y (f3_E k) f3_A k (f3_p 65524) 6 σ K) (cut f3_A.loops 6) (f3_a k [.blk 6, .c (f3_p 8191) 0]) n σ
def f3_s_r27 (y82 : (List Int)) (y89 : (List Int)) (x118 : Int) (x119 : Int) (x144 : Bool) : St := mkS 146 448 [(14, aO 82), (16, aO 89), (118, aI x118), (119, aI x119), (144, aB x144)] [(82, .vec (.int .i64) y82), (89, .vec (.int .i64) y89)]
abbrev f3_t_r27 := (List Int) → (List Int) → Int → Int → Bool → Option (Bool × Unit)
abbrev f3_o_r27 (R : f3_S) : f3_t_r27 := (fun y82 y89 x118 x119 x144 => R (f3_s_r27 y82 y89 x118 x119 x144))
noncomputable def f3_Q_r27 (k : Nat) (R_l6 : f3_S) : f3_L := [.c (f3_p 4193587) 7, .blk 7, .c (f3_p 524199) 6, .j (fun σ => R_l6 (cut f3_A.loops 6 σ)), .blk 6, .c (f3_p 8191) 0]
noncomputable def f3_C_r27 (k : Nat) (R_l6 : f3_S) : f3_S := fun σ => f3_a k (f3_Q_r27 k R_l6) .nx σ
noncomputable def f3_F_r22 (k : Nat) (G_l6 : f3_S) : f3_L := .c (f3_p 8189) 0 :: .c (f3_p 16380) 0 :: .j (fun σ => f3_a k (.j (fun σ => G_l6 (cut f3_A.loops 6 σ)) :: .blk 6 :: .c (f3_p 8191) 0 :: []) .nx σ) :: .c (f3_p 8191) 0 :: []
theorem f3_f_r22 (k : Nat) : f3_a k (f3_Q_r22 k) = f3_a k (f3_F_r22 k (f3_C_l6 k k)) := (ap_cons _ (Eq.trans ap_sq (Eq.trans ap_sq (ap_cons _ (Eq.trans (ap_bl 6) (Eq.trans (ap_j (Eq.trans (ap_lp (C := (f3_C_l6 k)) (fun _ _ => rfl)) (ap_cons _ (ap_cons _ (ap_cons _ rfl))))) (ap_cons _ (ap_cons _ rfl))))))))
noncomputable def f3_F_l0 (k : Nat) (G_l0 G_l2 G_l4 G_r22 G_l6 : f3_S) : f3_L := .c (f3_p 2024) 0 :: .c (f3_p 4050) 0 :: .j (fun σ => f3_a k (.c (f3_p 32408) 1 :: .c (f3_p 64818) 1 :: .j (fun σ => f3_a k (.j (fun σ => G_l2 (cut f3_A.loops 2 σ)) :: .blk 2 :: .blk 1 :: .c (f3_p 8103) 0 :: .j (fun σ => G_l0 (cut f3_A.loops 0 σ)) :: .blk 0 :: .c (f3_p 254) 0 :: .c (f3_p 1020) 0 :: .j (fun σ => f3_a k (.j (fun σ => G_l4 (cut f3_A.loops 4 σ)) :: .blk 4 :: .c (f3_p 1022) 0 :: .c (f3_p 2046) 0 :: .c (f3_p 8188) 0 :: .j G_r22 :: f3_F_r22 k G_l6) .nx σ) :: .c (f3_p 1022) 0 :: .c (f3_p 2046) 0 :: .c (f3_p 8188) 0 :: .j G_r22 :: f3_F_r22 k G_l6) .nx σ) :: .blk 1 :: .c (f3_p 8103) 0 :: .j (fun σ => G_l0 (cut f3_A.loops 0 σ)) :: .blk 0 :: .c (f3_p 254) 0 :: .c (f3_p 1020) 0 :: .j (fun σ => f3_a k (.j (fun σ => G_l4 (cut f3_A.loops 4 σ)) :: .blk 4 :: .c (f3_p 1022) 0 :: .c (f3_p 2046) 0 :: .c (f3_p 8188) 0 :: .j G_r22 :: f3_F_r22 k G_l6) .nx σ) :: .c (f3_p 1022) 0 :: .c (f3_p 2046) 0 :: .c (f3_p 8188) 0 :: .j G_r22 :: f3_F_r22 k G_l6) .nx σ) :: .c (f3_p 8103) 0 :: .j (fun σ => G_l0 (cut f3_A.loops 0 σ)) :: .blk 0 :: .c (f3_p 254) 0 :: .c (f3_p 1020) 0 :: .j (fun σ => f3_a k (.j (fun σ => G_l4 (cut f3_A.loops 4 σ)) :: .blk 4 :: .c (f3_p 1022) 0 :: .c (f3_p 2046) 0 :: .c (f3_p 8188) 0 :: .j G_r22 :: f3_F_r22 k G_l6) .nx σ) :: .c (f3_p 1022) 0 :: .c (f3_p 2046) 0 :: .c (f3_p 8188) 0 :: .j G_r22 :: f3_F_r22 k G_l6
theorem f3_f_l0 (k : Nat) (R_l0 : f3_S) : f3_a k (f3_Q_l0 k R_l0) = f3_a k (f3_F_l0 k R_l0 (f3_C_l2 k R_l0 k) (f3_C_l4 k k) (f3_C_r22 k) (f3_C_l6 k k)) := (Eq.trans ap_sq (ap_cons _ (Eq.trans ap_sq (ap_cons _ (Eq.trans ap_sq (Eq.trans (ap_bl 1) (Eq.trans (ap_j (Eq.trans ap_sq (ap_cons _ (Eq.trans ap_sq (ap_cons _ (Eq.trans (ap_bl 2) (Eq.trans (ap_j (Eq.trans (ap_lp (C := (f3_C_l2 k R_l0)) (fun _ _ => rfl)) (ap_cons _ (ap_cons _ (ap_cons _ (ap_cons _ (ap_cons _ (ap_cons _ (Eq.trans ap_sq (ap_cons _ (Eq.trans ap_sq (Eq.trans ap_sq (ap_cons _ (Eq.trans (ap_bl 4) (Eq.trans (ap_j (Eq.trans (ap_lp (C := (f3_C_l4 k)) (fun _ _ => rfl)) (ap_cons _ (ap_cons _ (Eq.trans ap_sq (ap_cons _ (Eq.trans ap_sq (ap_cons _ (Eq.trans ap_sq (Eq.trans ap_sq (ap_cons _ (Eq.trans (ap_pass (C := (f3_C_r22 k)) (fun _ => rfl)) (ap_cons _ (f3_f_r22 k)))))))))))))) (ap_cons _ (Eq.trans ap_sq (ap_cons _ (Eq.trans ap_sq (ap_cons _ (Eq.trans ap_sq (Eq.trans ap_sq (ap_cons _ (Eq.trans (ap_pass (C := (f3_C_r22 k)) (fun _ => rfl)) (ap_cons _ (f3_f_r22 k)))))))))))))))))))))))))) (ap_cons _ (ap_cons _ (ap_cons _ (ap_cons _ (ap_cons _ (Eq.trans ap_sq (ap_cons _ (Eq.trans ap_sq (Eq.trans ap_sq (ap_cons _ (Eq.trans (ap_bl 4) (Eq.trans (ap_j (Eq.trans (ap_lp (C := (f3_C_l4 k)) (fun _ _ => rfl)) (ap_cons _ (ap_cons _ (Eq.trans ap_sq (ap_cons _ (Eq.trans ap_sq (ap_cons _ (Eq.trans ap_sq (Eq.trans ap_sq (ap_cons _ (Eq.trans (ap_pass (C := (f3_C_r22 k)) (fun _ => rfl)) (ap_cons _ (f3_f_r22 k)))))))))))))) (ap_cons _ (Eq.trans ap_sq (ap_cons _ (Eq.trans ap_sq (ap_cons _ (Eq.trans ap_sq (Eq.trans ap_sq (ap_cons _ (Eq.trans (ap_pass (C := (f3_C_r22 k)) (fun _ => rfl)) (ap_cons _ (f3_f_r22 k)))))))))))))))))))))))))))))) (ap_cons _ (ap_cons _ (ap_cons _ (ap_cons _ (Eq.trans ap_sq (ap_cons _ (Eq.trans ap_sq (Eq.trans ap_sq (ap_cons _ (Eq.trans (ap_bl 4) (Eq.trans (ap_j (Eq.trans (ap_lp (C := (f3_C_l4 k)) (fun _ _ => rfl)) (ap_cons _ (ap_cons _ (Eq.trans ap_sq (ap_cons _ (Eq.trans ap_sq (ap_cons _ (Eq.trans ap_sq (Eq.trans ap_sq (ap_cons _ (Eq.trans (ap_pass (C := (f3_C_r22 k)) (fun _ => rfl)) (ap_cons _ (f3_f_r22 k)))))))))))))) (ap_cons _ (Eq.trans ap_sq (ap_cons _ (Eq.trans ap_sq (ap_cons _ (Eq.trans ap_sq (Eq.trans ap_sq (ap_cons _ (Eq.trans (ap_pass (C := (f3_C_r22 k)) (fun _ => rfl)) (ap_cons _ (f3_f_r22 k)))))))))))))))))))))))))))))
noncomputable def f3_F_l2 (k : Nat) (G_l0 G_l2 G_l4 G_r22 G_l6 : f3_S) : f3_L := .c (f3_p 259276) 2 :: .j (fun σ => G_l2 (cut f3_A.loops 2 σ)) :: .blk 2 :: .blk 1 :: .c (f3_p 8103) 0 :: .j (fun σ => G_l0 (cut f3_A.loops 0 σ)) :: .blk 0 :: .c (f3_p 254) 0 :: .c (f3_p 1020) 0 :: .j (fun σ => f3_a k (.j (fun σ => G_l4 (cut f3_A.loops 4 σ)) :: .blk 4 :: .c (f3_p 1022) 0 :: .c (f3_p 2046) 0 :: .c (f3_p 8188) 0 :: .j G_r22 :: f3_F_r22 k G_l6) .nx σ) :: .c (f3_p 1022) 0 :: .c (f3_p 2046) 0 :: .c (f3_p 8188) 0 :: .j G_r22 :: f3_F_r22 k G_l6
theorem f3_f_l2 (k : Nat) (R_l0 R_l2 : f3_S) : f3_a k (f3_Q_l2 k R_l0 R_l2) = f3_a k (f3_F_l2 k R_l0 R_l2 (f3_C_l4 k k) (f3_C_r22 k) (f3_C_l6 k k)) := (ap_cons _ (ap_cons _ (ap_cons _ (ap_cons _ (ap_cons _ (ap_cons _ (ap_cons _ (Eq.trans ap_sq (ap_cons _ (Eq.trans ap_sq (Eq.trans ap_sq (ap_cons _ (Eq.trans (ap_bl 4) (Eq.trans (ap_j (Eq.trans (ap_lp (C := (f3_C_l4 k)) (fun _ _ => rfl)) (ap_cons _ (ap_cons _ (Eq.trans ap_sq (ap_cons _ (Eq.trans ap_sq (ap_cons _ (Eq.trans ap_sq (Eq.trans ap_sq (ap_cons _ (Eq.trans (ap_pass (C := (f3_C_r22 k)) (fun _ => rfl)) (ap_cons _ (f3_f_r22 k)))))))))))))) (ap_cons _ (Eq.trans ap_sq (ap_cons _ (Eq.trans ap_sq (ap_cons _ (Eq.trans ap_sq (Eq.trans ap_sq (ap_cons _ (Eq.trans (ap_pass (C := (f3_C_r22 k)) (fun _ => rfl)) (ap_cons _ (f3_f_r22 k)))))))))))))))))))))))))
noncomputable def f3_F_l4 (k : Nat) (G_l4 G_r22 G_l6 : f3_S) : f3_L := .c (f3_p 4084) 4 :: .j (fun σ => G_l4 (cut f3_A.loops 4 σ)) :: .blk 4 :: .c (f3_p 1022) 0 :: .c (f3_p 2046) 0 :: .c (f3_p 8188) 0 :: .j G_r22 :: f3_F_r22 k G_l6
theorem f3_f_l4 (k : Nat) (R_l4 : f3_S) : f3_a k (f3_Q_l4 k R_l4) = f3_a k (f3_F_l4 k R_l4 (f3_C_r22 k) (f3_C_l6 k k)) := (ap_cons _ (ap_cons _ (ap_cons _ (Eq.trans ap_sq (ap_cons _ (Eq.trans ap_sq (ap_cons _ (Eq.trans ap_sq (Eq.trans ap_sq (ap_cons _ (Eq.trans (ap_pass (C := (f3_C_r22 k)) (fun _ => rfl)) (ap_cons _ (f3_f_r22 k)))))))))))))
noncomputable def f3_F_r27 (k : Nat) (G_l6 : f3_S) : f3_L := .c (f3_p 4193587) 7 :: .blk 7 :: .c (f3_p 524199) 6 :: .j (fun σ => G_l6 (cut f3_A.loops 6 σ)) :: .blk 6 :: .c (f3_p 8191) 0 :: []
theorem f3_f_r27 (k : Nat) (R_l6 : f3_S) : f3_a k (f3_Q_r27 k R_l6) = f3_a k (f3_F_r27 k R_l6) := (ap_cons _ (ap_cons _ (ap_cons _ (ap_cons _ (ap_cons _ (ap_cons _ rfl))))))
noncomputable def f3_F_l6 (k : Nat) (G_l6 G_r27 : f3_S) : f3_L := .c (f3_p 131048) 6 :: .c (f3_p 262098) 6 :: .j (fun σ => f3_a k (.c (f3_p 2096792) 7 :: .c (f3_p 4193586) 7 :: .j G_r27 :: f3_F_r27 k G_l6) .nx σ) :: .c (f3_p 524199) 6 :: .j (fun σ => G_l6 (cut f3_A.loops 6 σ)) :: .blk 6 :: .c (f3_p 8191) 0 :: []
theorem f3_f_l6 (k : Nat) (R_l6 : f3_S) : f3_a k (f3_Q_l6 k R_l6) = f3_a k (f3_F_l6 k R_l6 (f3_C_r27 k R_l6)) := (Eq.trans ap_sq (ap_cons _ (Eq.trans ap_sq (ap_cons _ (Eq.trans ap_sq (Eq.trans (ap_bl 7) (Eq.trans (ap_j (Eq.trans ap_sq (ap_cons _ (Eq.trans ap_sq (ap_cons _ (Eq.trans (ap_pass (C := (f3_C_r27 k R_l6)) (fun _ => rfl)) (ap_cons _ (f3_f_r27 k R_l6)))))))) (ap_cons _ (ap_cons _ (ap_cons _ (ap_cons _ (ap_cons _ rfl))))))))))))
def f3_entry_B (k : Nat) (g_l0 : f3_t_l0) (a0 : (List Int)) (a1 : Int) : Option (Bool × Unit) := ((f14 k a0).bind fun r1 => (if 0 ≤ (mx2 false (r1.1.2.1.length : Int) 6) then (if (mx2 false (r1.1.2.1.length : Int) 6) ≤ (r1.1.2.1.length : Int) then ((f15 k a1 5).bind fun r2 => (g_l0 r1.1.1 (r1.1.2.1.take ((mx2 false (r1.1.2.1.length : Int) 6)).toNat) r1.1.2.2 (r1.1.1.length : Int) ([] : List (Int × (Int × (Int × (Int × Int))))) 0 r2.1)) else none) else none))
def f3_l0_B (k : Nat) (g_l2 : f3_t_l2) (g_l4 : f3_t_l4) (y5_0 : (List (Int × Int))) (y5_1 : (List (Int × (Int × (Int × Int))))) (y5_2 : (List (Int × Int))) (y6_0 : Int) (y60 : (List (Int × (Int × (Int × (Int × Int)))))) (x35 : Int) (x7 : Int) : Option (Bool × Unit) := (if x35 < 60 then (g_l2 y5_0 y5_1 y5_2 y6_0 y60 x35 (y5_1.length : Int) 0 x7) else (g_l4 y5_0 y5_1 y5_2 y6_0 y60 ([] : List (List (Int × Int))) (y5_1.length : Int) 0 x7))
def f3_l2_B (k : Nat) (g_l0 : f3_t_l0) (g_l2 : f3_t_l2) (y5_0 : (List (Int × Int))) (y5_1 : (List (Int × (Int × (Int × Int))))) (y5_2 : (List (Int × Int))) (y6_0 : Int) (y60 : (List (Int × (Int × (Int × (Int × Int)))))) (x35 : Int) (x40 : Int) (x41 : Int) (x7 : Int) : Option (Bool × Unit) := (if x41 < x40 then (if 0 ≤ x41 then (if x41 < (y5_1.length : Int) then (if (y60.length + 1) * 40 ≤ 140737488355328 then (g_l2 y5_0 y5_1 y5_2 y6_0 (y60 ++ [((y5_1.getD (x41).toNat (0, (0, (0, 0)))).1, (((y5_1.getD (x41).toNat (0, (0, (0, 0)))).2).1, (x35, (w64 (x35 + ((((y5_1.getD (x41).toNat (0, (0, (0, 0)))).2).2).1)), x41))))]) x35 x40 (w64 (x41 + 1)) x7) else none) else none) else none) else (g_l0 y5_0 y5_1 y5_2 y6_0 y60 (w64 (x35 + 1)) x7))
def f3_l4_B (k : Nat) (g_l4 : f3_t_l4) (g_r22 : f3_t_r22) (y5_0 : (List (Int × Int))) (y5_1 : (List (Int × (Int × (Int × Int))))) (y5_2 : (List (Int × Int))) (y6_0 : Int) (y60 : (List (Int × (Int × (Int × (Int × Int)))))) (y77 : (List (List (Int × Int)))) (x66 : Int) (x67 : Int) (x7 : Int) : Option (Bool × Unit) := (if x67 < x66 then (if 0 ≤ x67 then (if x67 < (y5_1.length : Int) then (if (y77.length + ([[(0, (((y5_1.getD (x67).toNat (0, (0, (0, 0)))).2).2).1)]]).length) * 24 ≤ 140737488355328 then (g_l4 y5_0 y5_1 y5_2 y6_0 y60 (y77 ++ [[(0, (((y5_1.getD (x67).toNat (0, (0, (0, 0)))).2).2).1)]]) x66 (w64 (x67 + 1)) x7) else none) else none) else none) else ((f16 k (y6_0, (0, y60)) 0 x7).bind fun r1 => ((f17 k (y5_0, (y5_1, y5_2)) y77 0 x7).bind fun r2 => ((f18 k ).bind fun r3 => (if ¬ (r3.1 = true) then (g_r22 r1.1 r2.1 true) else (if ¬ (r1.2.1 = 0) then (g_r22 r1.1 r2.1 true) else (if ¬ (r2.2.1 = 0) then (g_r22 r1.1 r2.1 true) else (if ¬ ((r1.1.length : Int) = (y5_0.length : Int)) then (g_r22 r1.1 r2.1 true) else (g_r22 r1.1 r2.1 (decide (¬ ((r2.1.length : Int) = (r1.1.length : Int)))))))))))))
def f3_r22_B (k : Nat) (g_l6 : f3_t_l6) (y82 : (List Int)) (y89 : (List Int)) (x116 : Bool) : Option (Bool × Unit) := (if x116 = true then some (false, ()) else (g_l6 y82 y89 (y82.length : Int) 0))
def f3_l6_B (k : Nat) (g_r27 : f3_t_r27) (y82 : (List Int)) (y89 : (List Int)) (x118 : Int) (x119 : Int) : Option (Bool × Unit) := (if x119 < x118 then (if 0 ≤ x119 then (if x119 < (y82.length : Int) then (if 0 ≤ x119 then (if x119 < (y89.length : Int) then (if ¬ ((y82.getD ((x119).toNat) 0) = (y89.getD ((x119).toNat) 0)) then (if 0 ≤ x119 then (if x119 < (y89.length : Int) then (if (y89.getD ((x119).toNat) 0) < 0 then (g_r27 y82 y89 x118 x119 true) else (if 0 ≤ x119 then (if x119 < (y89.length : Int) then (g_r27 y82 y89 x118 x119 (decide ((y89.getD ((x119).toNat) 0) < 60))) else none) else none)) else none) else none) else (g_r27 y82 y89 x118 x119 false)) else none) else none) else none) else none) else some (true, ()))
def f3_r27_B (k : Nat) (g_l6 : f3_t_l6) (y82 : (List Int)) (y89 : (List Int)) (x118 : Int) (x119 : Int) (x144 : Bool) : Option (Bool × Unit) := (if x144 = true then some (false, ()) else (g_l6 y82 y89 x118 (w64 (x119 + 1))))
theorem f3_l2_P (k : Nat) (G_l0 G_l2 G_l4 G_r22 G_l6 : f3_S) : f3_o_l2 (fun σ => f3_a k (f3_F_l2 k G_l0 G_l2 G_l4 G_r22 G_l6) .nx σ) = f3_l2_B k (f3_o_l0 G_l0) (f3_o_l2 G_l2) := by kernel_rfl
def f3_l2 (k : Nat) (r_l0 : f3_t_l0) : Nat → f3_t_l2
  | 0 => fun _ _ _ _ _ _ _ _ _ => none
  | n + 1 => f3_l2_B k r_l0 (f3_l2 k r_l0 n)
theorem f3_l2_E (k : Nat) (R_l0 : f3_S) : ∀ n, f3_o_l2 (f3_C_l2 k R_l0 n) = f3_l2 k (f3_o_l0 R_l0) n
  | 0 => rfl
  | n + 1 =>
    Eq.trans (congrArg f3_o_l2 (Eq.trans (b := fun σ => f3_a k (f3_Q_l2 k R_l0 (f3_C_l2 k R_l0 n)) .nx σ) (by kernel_rfl) (ap_fn (f3_f_l2 k R_l0 (f3_C_l2 k R_l0 n))))) ((f3_l2_P k R_l0 (f3_C_l2 k R_l0 n) (f3_C_l4 k k) (f3_C_r22 k) (f3_C_l6 k k)).trans (by rw [f3_l2_E k R_l0 n] <;> rfl))
theorem f3_r27_P (k : Nat) (G_l6 : f3_S) : f3_o_r27 (fun σ => f3_a k (f3_F_r27 k G_l6) .nx σ) = f3_r27_B k (f3_o_l6 G_l6) := by kernel_rfl
def f3_r27 (k : Nat) (r_l6 : f3_t_l6) : f3_t_r27 := f3_r27_B k r_l6
theorem f3_r27_E (k : Nat) (R_l6 : f3_S) : f3_o_r27 (f3_C_r27 k R_l6) = f3_r27 k (f3_o_l6 R_l6) :=
  Eq.trans (congrArg f3_o_r27 (ap_fn (f3_f_r27 k R_l6))) ((f3_r27_P k R_l6).trans (by rfl))
theorem f3_l6_P (k : Nat) (G_l6 G_r27 : f3_S) : f3_o_l6 (fun σ => f3_a k (f3_F_l6 k G_l6 G_r27) .nx σ) = f3_l6_B k (f3_o_r27 G_r27) := by kernel_rfl
def f3_l6 (k : Nat) : Nat → f3_t_l6
  | 0 => fun _ _ _ _ => none
  | n + 1 => f3_l6_B k (f3_r27 k (f3_l6 k n))
theorem f3_l6_E (k : Nat) : ∀ n, f3_o_l6 (f3_C_l6 k n) = f3_l6 k n
  | 0 => rfl
  | n + 1 =>
    Eq.trans (congrArg f3_o_l6 (Eq.trans (b := fun σ => f3_a k (f3_Q_l6 k (f3_C_l6 k n)) .nx σ) (by kernel_rfl) (ap_fn (f3_f_l6 k (f3_C_l6 k n))))) ((f3_l6_P k (f3_C_l6 k n) (f3_C_r27 k (f3_C_l6 k n))).trans (by rw [f3_r27_E k (f3_C_l6 k n), f3_l6_E k n] <;> rfl))
theorem f3_r22_P (k : Nat) (G_l6 : f3_S) : f3_o_r22 (fun σ => f3_a k (f3_F_r22 k G_l6) .nx σ) = f3_r22_B k (f3_o_l6 G_l6) := by kernel_rfl
def f3_r22 (k : Nat) : f3_t_r22 := f3_r22_B k (f3_l6 k k)
theorem f3_r22_E (k : Nat) : f3_o_r22 (f3_C_r22 k) = f3_r22 k :=
  Eq.trans (congrArg f3_o_r22 (ap_fn (f3_f_r22 k))) ((f3_r22_P k (f3_C_l6 k k)).trans (by rw [f3_l6_E k k] <;> rfl))
theorem f3_l4_P (k : Nat) (G_l4 G_r22 G_l6 : f3_S) : f3_o_l4 (fun σ => f3_a k (f3_F_l4 k G_l4 G_r22 G_l6) .nx σ) = f3_l4_B k (f3_o_l4 G_l4) (f3_o_r22 G_r22) := by kernel_rfl
def f3_l4 (k : Nat) : Nat → f3_t_l4
  | 0 => fun _ _ _ _ _ _ _ _ _ => none
  | n + 1 => f3_l4_B k (f3_l4 k n) (f3_r22 k)
theorem f3_l4_E (k : Nat) : ∀ n, f3_o_l4 (f3_C_l4 k n) = f3_l4 k n
  | 0 => rfl
  | n + 1 =>
    Eq.trans (congrArg f3_o_l4 (Eq.trans (b := fun σ => f3_a k (f3_Q_l4 k (f3_C_l4 k n)) .nx σ) (by kernel_rfl) (ap_fn (f3_f_l4 k (f3_C_l4 k n))))) ((f3_l4_P k (f3_C_l4 k n) (f3_C_r22 k) (f3_C_l6 k k)).trans (by rw [f3_r22_E k, f3_l4_E k n] <;> rfl))
theorem f3_l0_P (k : Nat) (G_l0 G_l2 G_l4 G_r22 G_l6 : f3_S) : f3_o_l0 (fun σ => f3_a k (f3_F_l0 k G_l0 G_l2 G_l4 G_r22 G_l6) .nx σ) = f3_l0_B k (f3_o_l2 G_l2) (f3_o_l4 G_l4) := by kernel_rfl
def f3_l0 (k : Nat) : Nat → f3_t_l0
  | 0 => fun _ _ _ _ _ _ _ => none
  | n + 1 => f3_l0_B k (f3_l2 k (f3_l0 k n) k) (f3_l4 k k)
theorem f3_l0_E (k : Nat) : ∀ n, f3_o_l0 (f3_C_l0 k n) = f3_l0 k n
  | 0 => rfl
  | n + 1 =>
    Eq.trans (congrArg f3_o_l0 (Eq.trans (b := fun σ => f3_a k (f3_Q_l0 k (f3_C_l0 k n)) .nx σ) (by kernel_rfl) (ap_fn (f3_f_l0 k (f3_C_l0 k n))))) ((f3_l0_P k (f3_C_l0 k n) (f3_C_l2 k (f3_C_l0 k n) k) (f3_C_l4 k k) (f3_C_r22 k) (f3_C_l6 k k)).trans (by rw [f3_l2_E k (f3_C_l0 k n) k, f3_l4_E k k, f3_l0_E k n] <;> rfl))
theorem f3_entry_P (k : Nat) (G_l0 G_l4 G_r22 G_l6 : f3_S) (xs : DL f3_sig) : f3_a k (.c (f3_p 2) 0 :: .c (f3_p 6) 0 :: .c (f3_p 14) 0 :: .c (f3_p 30) 0 :: .c (f3_p 62) 0 :: .c (f3_p 252) 0 :: .j (fun σ => f3_a k (.j (fun σ => G_l0 (cut f3_A.loops 0 σ)) :: .blk 0 :: .c (f3_p 254) 0 :: .c (f3_p 1020) 0 :: .j (fun σ => f3_a k (.j (fun σ => G_l4 (cut f3_A.loops 4 σ)) :: .blk 4 :: .c (f3_p 1022) 0 :: .c (f3_p 2046) 0 :: .c (f3_p 8188) 0 :: .j G_r22 :: f3_F_r22 k G_l6) .nx σ) :: .c (f3_p 1022) 0 :: .c (f3_p 2046) 0 :: .c (f3_p 8188) 0 :: .j G_r22 :: f3_F_r22 k G_l6) .nx σ) :: .c (f3_p 254) 0 :: .c (f3_p 1020) 0 :: .j (fun σ => f3_a k (.j (fun σ => G_l4 (cut f3_A.loops 4 σ)) :: .blk 4 :: .c (f3_p 1022) 0 :: .c (f3_p 2046) 0 :: .c (f3_p 8188) 0 :: .j G_r22 :: f3_F_r22 k G_l6) .nx σ) :: .c (f3_p 1022) 0 :: .c (f3_p 2046) 0 :: .c (f3_p 8188) 0 :: .j G_r22 :: f3_F_r22 k G_l6) .nx (σ0 146 448 f3_sig xs) = f3_entry_B k (f3_o_l0 G_l0) xs.1 xs.2.1 := by kernel_rfl
def f3 (k : Nat) (a0 : (List Int)) (a1 : Int) : Option (Bool × Unit) := f3_entry_B k (f3_l0 k k) a0 a1
theorem f3_fe (k : Nat) : f3_a k [.c (f3_p 1) 0] = f3_a k (.c (f3_p 2) 0 :: .c (f3_p 6) 0 :: .c (f3_p 14) 0 :: .c (f3_p 30) 0 :: .c (f3_p 62) 0 :: .c (f3_p 252) 0 :: .j (fun σ => f3_a k (.j (fun σ => (f3_C_l0 k k) (cut f3_A.loops 0 σ)) :: .blk 0 :: .c (f3_p 254) 0 :: .c (f3_p 1020) 0 :: .j (fun σ => f3_a k (.j (fun σ => (f3_C_l4 k k) (cut f3_A.loops 4 σ)) :: .blk 4 :: .c (f3_p 1022) 0 :: .c (f3_p 2046) 0 :: .c (f3_p 8188) 0 :: .j (f3_C_r22 k) :: f3_F_r22 k (f3_C_l6 k k)) .nx σ) :: .c (f3_p 1022) 0 :: .c (f3_p 2046) 0 :: .c (f3_p 8188) 0 :: .j (f3_C_r22 k) :: f3_F_r22 k (f3_C_l6 k k)) .nx σ) :: .c (f3_p 254) 0 :: .c (f3_p 1020) 0 :: .j (fun σ => f3_a k (.j (fun σ => (f3_C_l4 k k) (cut f3_A.loops 4 σ)) :: .blk 4 :: .c (f3_p 1022) 0 :: .c (f3_p 2046) 0 :: .c (f3_p 8188) 0 :: .j (f3_C_r22 k) :: f3_F_r22 k (f3_C_l6 k k)) .nx σ) :: .c (f3_p 1022) 0 :: .c (f3_p 2046) 0 :: .c (f3_p 8188) 0 :: .j (f3_C_r22 k) :: f3_F_r22 k (f3_C_l6 k k)) := (Eq.trans ap_sq (ap_cons _ (Eq.trans ap_sq (ap_cons _ (Eq.trans ap_sq (ap_cons _ (Eq.trans ap_sq (ap_cons _ (Eq.trans ap_sq (ap_cons _ (Eq.trans ap_sq (Eq.trans ap_sq (ap_cons _ (Eq.trans (ap_bl 0) (Eq.trans (ap_j (Eq.trans (ap_lp (C := (f3_C_l0 k)) (fun _ _ => rfl)) (ap_cons _ (ap_cons _ (Eq.trans ap_sq (ap_cons _ (Eq.trans ap_sq (Eq.trans ap_sq (ap_cons _ (Eq.trans (ap_bl 4) (Eq.trans (ap_j (Eq.trans (ap_lp (C := (f3_C_l4 k)) (fun _ _ => rfl)) (ap_cons _ (ap_cons _ (Eq.trans ap_sq (ap_cons _ (Eq.trans ap_sq (ap_cons _ (Eq.trans ap_sq (Eq.trans ap_sq (ap_cons _ (Eq.trans (ap_pass (C := (f3_C_r22 k)) (fun _ => rfl)) (ap_cons _ (f3_f_r22 k)))))))))))))) (ap_cons _ (Eq.trans ap_sq (ap_cons _ (Eq.trans ap_sq (ap_cons _ (Eq.trans ap_sq (Eq.trans ap_sq (ap_cons _ (Eq.trans (ap_pass (C := (f3_C_r22 k)) (fun _ => rfl)) (ap_cons _ (f3_f_r22 k)))))))))))))))))))))) (ap_cons _ (Eq.trans ap_sq (ap_cons _ (Eq.trans ap_sq (Eq.trans ap_sq (ap_cons _ (Eq.trans (ap_bl 4) (Eq.trans (ap_j (Eq.trans (ap_lp (C := (f3_C_l4 k)) (fun _ _ => rfl)) (ap_cons _ (ap_cons _ (Eq.trans ap_sq (ap_cons _ (Eq.trans ap_sq (ap_cons _ (Eq.trans ap_sq (Eq.trans ap_sq (ap_cons _ (Eq.trans (ap_pass (C := (f3_C_r22 k)) (fun _ => rfl)) (ap_cons _ (f3_f_r22 k)))))))))))))) (ap_cons _ (Eq.trans ap_sq (ap_cons _ (Eq.trans ap_sq (ap_cons _ (Eq.trans ap_sq (Eq.trans ap_sq (ap_cons _ (Eq.trans (ap_pass (C := (f3_C_r22 k)) (fun _ => rfl)) (ap_cons _ (f3_f_r22 k))))))))))))))))))))))))))))))))))
theorem f3_eq (k : Nat) (xs : DL f3_sig) : den T f3_Y (f3_E k) f3_A k f3_c 0 (σ0 146 448 f3_sig xs) (Kfin T f3_rs f3_ts) = f3 k xs.1 xs.2.1 :=
  Eq.trans (Eq.trans den_sb (ap_at (f3_fe k) _)) ((f3_entry_P k (f3_C_l0 k k) (f3_C_l4 k k) (f3_C_r22 k) (f3_C_l6 k k) xs).trans (by rw [f3_l0_E k k] <;> rfl))
noncomputable def f3_con (k : Nat) : Con := ⟨f3_sig, f3_rs, fun xs => f3 k xs.1 xs.2.1⟩
theorem f3_ok (k : Nat) : PureOK Try.prog 3 f3_sig f3_rs (fun xs => f3 k xs.1 xs.2.1) :=
  (pure_of_den (k := k) (A := f3_A) (T := T) (Y := f3_Y) (E := f3_E k) (M := 448) (ts := f3_ts) T_ok ⟨f14_ok k, f15_ok k, f16_ok k, f17_ok k, f18_ok k, trivial⟩ ⟨f14_ent, f15_ent, f16_ent, f17_ent, f18_ent, trivial⟩ mixed (f := 3) (fn := Try.f3) (c := f3_c) (by kernel_rfl) (by kernel_rfl) (by kernel_rfl) (by decide) (by kernel_rfl)).congr fun xs => (f3_eq k xs).symm
theorem f3_ent : Ent Try.prog 3 := fun args w => by kernel_rfl
def Pure_TopTimes : Prop := ∀ xs : DL f3_sig, wfs f3_sig xs → ∃ k, f3 k xs.1 xs.2.1 = some (true, ())
end Go.Proofs.Ythfjdcdbimjkjaa.Rw
