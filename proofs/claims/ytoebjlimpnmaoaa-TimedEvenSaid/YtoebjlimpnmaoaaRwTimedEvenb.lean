/- What the functions that the law TimedEven reaches come to, part 2. No condition. -/
import Derived.Test.YtoebjlimpnmaoaaRwTimedEvena
namespace Go.Proofs.Ytoebjlimpnmaoaa.Rw
open Go.Rx Go.Proofs
set_option linter.unusedVariables false
set_option maxRecDepth 100000
/-! ### terrier/timed.follows: function 110 -/
noncomputable def f110_c : Code := Try.f110.body.getD .skip
noncomputable abbrev f110_p (n : Nat) : Code := sb f110_c n
abbrev f110_sig : List PT := [(true, Tq17), (true, Tq14), (true, Tq14)]
abbrev f110_rs : List RT := [.d false .bool]
abbrev f110_ts : List RV := [.tmp 6]
abbrev f110_S := St → Option (RDL f110_rs)
abbrev f110_L := List (Fr (RDL f110_rs))
def f110_Y : Tys := []
noncomputable def f110_E (k : Nat) : Env := []
def f110_A : Ann := { conds := [(3, { slots := [(4, .id), (5, .id), (7, .id)], keys := [(4, []), (5, [])] })], regs := [(4, { slots := [(6, .bool)] })] }
noncomputable abbrev f110_a (k : Nat) (F : f110_L) : Kont (RDL f110_rs) := ap T f110_Y (f110_E k) f110_A k (Kfin T f110_rs f110_ts) F
def f110_s_c3 (y4_0 : Int) (y4_1 : Int) (y4_2 : Int) (y4_3 : Int) (y4_4 : Int) (y5_0 : Int) (y5_1 : Int) (y5_2 : Int) (y5_3 : Int) (y5_4 : Int) (x7 : Int) : St := mkS 29 96 [(4, aP 4), (5, aP 5), (7, aI x7)] [(4, .box [cI y4_0, cI y4_1, cI y4_2, cI y4_3, cI y4_4]), (5, .box [cI y5_0, cI y5_1, cI y5_2, cI y5_3, cI y5_4])]
abbrev f110_t_c3 := Int → Int → Int → Int → Int → Int → Int → Int → Int → Int → Int → Option (Bool × Unit)
abbrev f110_o_c3 (R : f110_S) : f110_t_c3 := (fun y4_0 y4_1 y4_2 y4_3 y4_4 y5_0 y5_1 y5_2 y5_3 y5_4 x7 => R (f110_s_c3 y4_0 y4_1 y4_2 y4_3 y4_4 y5_0 y5_1 y5_2 y5_3 y5_4 x7))
noncomputable def f110_Q_c3 (k : Nat) : f110_L := [.c (f110_p 15) 0]
noncomputable def f110_C_c3 (k : Nat) : f110_S := fun σ => f110_a k (f110_Q_c3 k) .nx σ
def f110_s_r4 (x6 : Bool) : St := mkS 29 96 [(6, aB x6)] []
abbrev f110_t_r4 := Bool → Option (Bool × Unit)
abbrev f110_o_r4 (R : f110_S) : f110_t_r4 := (fun x6 => R (f110_s_r4 x6))
noncomputable def f110_Q_r4 (k : Nat) : f110_L := [.c (f110_p 31) 0]
noncomputable def f110_C_r4 (k : Nat) : f110_S := fun σ => f110_a k (f110_Q_r4 k) .nx σ
noncomputable def f110_F_r4 (k : Nat) : f110_L := .c (f110_p 31) 0 :: []
theorem f110_f_r4 (k : Nat) : f110_a k (f110_Q_r4 k) = f110_a k (f110_F_r4 k) := (ap_cons _ rfl)
noncomputable def f110_F_c3 (k : Nat) (G_r4 : f110_S) : f110_L := .c (f110_p 30) 0 :: .j G_r4 :: f110_F_r4 k
theorem f110_f_c3 (k : Nat) : f110_a k (f110_Q_c3 k) = f110_a k (f110_F_c3 k (f110_C_r4 k)) := (Eq.trans ap_sq (ap_cons _ (Eq.trans (ap_pass (C := (f110_C_r4 k)) (fun _ => rfl)) (ap_cons _ (f110_f_r4 k)))))
def f110_entry_B (k : Nat) (g_c3 : f110_t_c3) (a0 : (Int × Td19)) (a1 : Td18) (a2 : Td18) : Option (Bool × Unit) := (if a1.2.2.2.2 = a2.2.2.2.2 then (g_c3 a1.1 a1.2.1 a1.2.2.1 a1.2.2.2.1 a1.2.2.2.2 a2.1 a2.2.1 a2.2.2.1 a2.2.2.2.1 a2.2.2.2.2 0) else (g_c3 a1.1 a1.2.1 a1.2.2.1 a1.2.2.2.1 a1.2.2.2.2 a2.1 a2.2.1 a2.2.2.1 a2.2.2.2.1 a2.2.2.2.2 a0.2.1))
def f110_c3_B (k : Nat) (g_r4 : f110_t_r4) (y4_0 : Int) (y4_1 : Int) (y4_2 : Int) (y4_3 : Int) (y4_4 : Int) (y5_0 : Int) (y5_1 : Int) (y5_2 : Int) (y5_3 : Int) (y5_4 : Int) (x7 : Int) : Option (Bool × Unit) := (if y4_1 = y5_0 then (g_r4 (decide (x7 ≤ (w64 (y5_2 - y4_3))))) else (g_r4 false))
def f110_r4_B (k : Nat) (x6 : Bool) : Option (Bool × Unit) := some (decide (x6 = true), ())
theorem f110_r4_P (k : Nat) : f110_o_r4 (fun σ => f110_a k (f110_F_r4 k) .nx σ) = f110_r4_B k := by kernel_rfl
def f110_r4 (k : Nat) : f110_t_r4 := f110_r4_B k
theorem f110_r4_E (k : Nat) : f110_o_r4 (f110_C_r4 k) = f110_r4 k :=
  Eq.trans (congrArg f110_o_r4 (ap_fn (f110_f_r4 k))) ((f110_r4_P k).trans (by rfl))
theorem f110_c3_P (k : Nat) (G_r4 : f110_S) : f110_o_c3 (fun σ => f110_a k (f110_F_c3 k G_r4) .nx σ) = f110_c3_B k (f110_o_r4 G_r4) := by kernel_rfl
def f110_c3 (k : Nat) : f110_t_c3 := f110_c3_B k (f110_r4 k)
theorem f110_c3_E (k : Nat) : f110_o_c3 (f110_C_c3 k) = f110_c3 k :=
  Eq.trans (congrArg f110_o_c3 (ap_fn (f110_f_c3 k))) ((f110_c3_P k (f110_C_r4 k)).trans (by rw [f110_r4_E k] <;> rfl))
theorem f110_entry_P (k : Nat) (G_c3 G_r4 : f110_S) (xs : DL f110_sig) : f110_a k (.c (f110_p 2) 0 :: .c (f110_p 6) 0 :: .c (f110_p 28) 0 :: .c (f110_p 29) 0 :: .j G_c3 :: f110_F_c3 k G_r4) .nx (σ0 29 96 f110_sig xs) = f110_entry_B k (f110_o_c3 G_c3) xs.1 xs.2.1 xs.2.2.1 := by kernel_rfl
def f110 (k : Nat) (a0 : (Int × Td19)) (a1 : Td18) (a2 : Td18) : Option (Bool × Unit) := f110_entry_B k (f110_c3 k) a0 a1 a2
theorem f110_fe (k : Nat) : f110_a k [.c (f110_p 1) 0] = f110_a k (.c (f110_p 2) 0 :: .c (f110_p 6) 0 :: .c (f110_p 28) 0 :: .c (f110_p 29) 0 :: .j (f110_C_c3 k) :: f110_F_c3 k (f110_C_r4 k)) := (Eq.trans ap_sq (ap_cons _ (Eq.trans ap_sq (ap_cons _ (Eq.trans ap_sq (Eq.trans ap_sq (ap_cons _ (ap_cons _ (Eq.trans (ap_pass (C := (f110_C_c3 k)) (fun _ => rfl)) (ap_cons _ (f110_f_c3 k)))))))))))
theorem f110_eq (k : Nat) (xs : DL f110_sig) : den T f110_Y (f110_E k) f110_A k f110_c 0 (σ0 29 96 f110_sig xs) (Kfin T f110_rs f110_ts) = f110 k xs.1 xs.2.1 xs.2.2.1 :=
  Eq.trans (Eq.trans den_sb (ap_at (f110_fe k) _)) ((f110_entry_P k (f110_C_c3 k) (f110_C_r4 k) xs).trans (by rw [f110_c3_E k] <;> rfl))
noncomputable def f110_con (k : Nat) : Con := ⟨f110_sig, f110_rs, fun xs => f110 k xs.1 xs.2.1 xs.2.2.1⟩
theorem f110_ok (k : Nat) : PureOK Try.prog 110 f110_sig f110_rs (fun xs => f110 k xs.1 xs.2.1 xs.2.2.1) :=
  (pure_of_den (k := k) (A := f110_A) (T := T) (Y := f110_Y) (E := f110_E k) (M := 96) (ts := f110_ts) T_ok trivial trivial mixed (f := 110) (fn := Try.f110) (c := f110_c) (by kernel_rfl) (by kernel_rfl) (by kernel_rfl) (by decide) (by kernel_rfl)).congr fun xs => (f110_eq k xs).symm
theorem f110_ent : Ent Try.prog 110 := fun args w => by kernel_rfl
/-! ### terrier/timed.best: function 80 -/
noncomputable def f80_c : Code := Try.f80.body.getD .skip
noncomputable abbrev f80_p (n : Nat) : Code := sb f80_c n
abbrev f80_sig : List PT := [(true, Tq17), (false, (.int .i64)), (false, (.int .i64))]
abbrev f80_rs : List RT := [.new Tq20]
abbrev f80_ts : List RV := [.tmp 6]
abbrev f80_S := St → Option (RDL f80_rs)
abbrev f80_L := List (Fr (RDL f80_rs))
def f80_Y : Tys := [(3, (.int .i64)), (22, Tq20)]
noncomputable def f80_E (k : Nat) : Env := [(35, .c (f35u_con k)), (81, .c (f81_con k)), (110, .c (f110_con k))]
def f80_A : Ann := { loops := [(0, { slots := [(1, .id), (2, .id), (3, .id), (7, .id), (17, .val false Tq14), (18, .id), (19, .id)], keys := [(3, [.id, .id, .val false Tq14]), (15, [])] }), (2, { slots := [(1, .id), (2, .id), (3, .id), (7, .id), (8, .id), (9, .id), (17, .val false Tq14), (18, .id), (19, .id), (39, .id), (40, .id)], keys := [(3, [.id, .id, .val false Tq14]), (9, []), (15, [])] })], regs := [(5, { slots := [(1, .id), (2, .id), (3, .id), (7, .id), (8, .id), (9, .id), (17, .val false Tq14), (18, .id), (19, .id), (33, .bool)], keys := [(3, [.id, .id, .val false Tq14]), (9, []), (15, [])] }), (10, { slots := [(1, .id), (2, .id), (3, .id), (7, .id), (8, .id), (9, .id), (10, .id), (17, .val false Tq14), (18, .id), (19, .id), (39, .id), (40, .id), (58, .bool)], keys := [(3, [.id, .id, .val false Tq14]), (9, []), (15, [])] }), (12, { slots := [(1, .id), (2, .id), (3, .id), (7, .id), (8, .id), (9, .id), (11, .id), (17, .val false Tq14), (18, .id), (19, .id), (39, .id), (40, .id), (100, .bool)], keys := [(3, [.id, .id, .val false Tq14]), (9, []), (15, []), (63, [])] })], blks := [(1, { slots := [(1, .id), (2, .id), (3, .id), (7, .id), (17, .val false Tq14), (18, .id), (19, .id)], keys := [(3, [.id, .id, .val false Tq14]), (15, [])] }), (3, { slots := [(1, .id), (2, .id), (3, .id), (7, .id), (8, .id), (9, .id), (17, .val false Tq14), (18, .id), (19, .id), (39, .id), (40, .id)], keys := [(3, [.id, .id, .val false Tq14]), (9, []), (15, [])] })], conds := [(13, { slots := [(1, .id), (2, .id), (3, .id), (7, .id), (8, .id), (9, .id), (17, .val false Tq14), (18, .id), (19, .id), (39, .id), (40, .id)], keys := [(3, [.id, .id, .val false Tq14]), (9, []), (15, [])] })] }
noncomputable abbrev f80_a (k : Nat) (F : f80_L) : Kont (RDL f80_rs) := ap T f80_Y (f80_E k) f80_A k (Kfin T f80_rs f80_ts) F
def f80_s_l0 (y15 : (List (Option (List Int)))) (y3_0 : Int) (y3_1 : Int) (y3_2 : (List (Int × (Int × (Int × (Int × Int)))))) (x1 : Int) (x18 : Int) (x19 : Int) (x2 : Int) : St := mkS 108 336 [(1, aI x1), (2, aI x2), (3, aP 3), (7, aO 15), (17, aV Tq14 y3_2), (18, aI x18), (19, aI x19)] [(3, .box [cI y3_0, cI y3_1, cV Tq14 y3_2]), (15, .vec Tq20 y15)]
abbrev f80_t_l0 := (List (Option (List Int))) → Int → Int → (List (Int × (Int × (Int × (Int × Int))))) → Int → Int → Int → Int → Option ((List Td21) × Unit)
abbrev f80_o_l0 (R : f80_S) : f80_t_l0 := (fun y15 y3_0 y3_1 y3_2 x1 x18 x19 x2 => R (f80_s_l0 y15 y3_0 y3_1 y3_2 x1 x18 x19 x2))
noncomputable def f80_Q_l0 (k : Nat) (R_l0 : f80_S) : f80_L := [.c (f80_p 116) 0, .j (fun σ => R_l0 (cut f80_A.loops 0 σ)), .blk 0, .c (f80_p 15) 0]
noncomputable def f80_C_l0 (k : Nat) (n : Nat) (σ : St) : Option (RDL f80_rs) := loopK (fun σ K => den T f80_Y (f80_E k) f80_A k (f80_p 116) 0 σ K) (cut f80_A.loops 0) (f80_a k [.blk 0, .c (f80_p 15) 0]) n σ
def f80_s_r5 (y15 : (List (Option (List Int)))) (y3_0 : Int) (y3_1 : Int) (y3_2 : (List (Int × (Int × (Int × (Int × Int)))))) (y9_0 : Int) (y9_1 : Int) (y9_2 : Int) (y9_3 : Int) (y9_4 : Int) (x1 : Int) (x18 : Int) (x19 : Int) (x2 : Int) (x33 : Bool) : St := mkS 108 336 [(1, aI x1), (2, aI x2), (3, aP 3), (7, aO 15), (8, aI x19), (9, aP 9), (17, aV Tq14 y3_2), (18, aI x18), (19, aI x19), (33, aB x33)] [(3, .box [cI y3_0, cI y3_1, cV Tq14 y3_2]), (9, .box [cI y9_0, cI y9_1, cI y9_2, cI y9_3, cI y9_4]), (15, .vec Tq20 y15)]
abbrev f80_t_r5 := (List (Option (List Int))) → Int → Int → (List (Int × (Int × (Int × (Int × Int))))) → Int → Int → Int → Int → Int → Int → Int → Int → Int → Bool → Option ((List Td21) × Unit)
abbrev f80_o_r5 (R : f80_S) : f80_t_r5 := (fun y15 y3_0 y3_1 y3_2 y9_0 y9_1 y9_2 y9_3 y9_4 x1 x18 x19 x2 x33 => R (f80_s_r5 y15 y3_0 y3_1 y3_2 y9_0 y9_1 y9_2 y9_3 y9_4 x1 x18 x19 x2 x33))
noncomputable def f80_Q_r5 (k : Nat) (R_l0 : f80_S) : f80_L := [.c (f80_p 14949) 1, .c (f80_p 7475) 1, .blk 1, .c (f80_p 935) 0, .j (fun σ => R_l0 (cut f80_A.loops 0 σ)), .blk 0, .c (f80_p 15) 0]
noncomputable def f80_C_r5 (k : Nat) (R_l0 : f80_S) : f80_S := fun σ => f80_a k (f80_Q_r5 k R_l0) .nx σ
def f80_s_b1 (y15 : (List (Option (List Int)))) (y3_0 : Int) (y3_1 : Int) (y3_2 : (List (Int × (Int × (Int × (Int × Int)))))) (x1 : Int) (x18 : Int) (x19 : Int) (x2 : Int) : St := mkS 108 336 [(1, aI x1), (2, aI x2), (3, aP 3), (7, aO 15), (17, aV Tq14 y3_2), (18, aI x18), (19, aI x19)] [(3, .box [cI y3_0, cI y3_1, cV Tq14 y3_2]), (15, .vec Tq20 y15)]
abbrev f80_t_b1 := (List (Option (List Int))) → Int → Int → (List (Int × (Int × (Int × (Int × Int))))) → Int → Int → Int → Int → Option ((List Td21) × Unit)
abbrev f80_o_b1 (R : f80_S) : f80_t_b1 := (fun y15 y3_0 y3_1 y3_2 x1 x18 x19 x2 => R (f80_s_b1 y15 y3_0 y3_1 y3_2 x1 x18 x19 x2))
noncomputable def f80_Q_b1 (k : Nat) (R_l0 : f80_S) : f80_L := [.c (f80_p 935) 0, .j (fun σ => R_l0 (cut f80_A.loops 0 σ)), .blk 0, .c (f80_p 15) 0]
noncomputable def f80_C_b1 (k : Nat) (R_l0 : f80_S) : f80_S := fun σ => f80_a k (f80_Q_b1 k R_l0) .nx σ
def f80_s_l2 (y15 : (List (Option (List Int)))) (y3_0 : Int) (y3_1 : Int) (y3_2 : (List (Int × (Int × (Int × (Int × Int)))))) (y9_0 : Int) (y9_1 : Int) (y9_2 : Int) (y9_3 : Int) (y9_4 : Int) (x1 : Int) (x18 : Int) (x19 : Int) (x2 : Int) (x40 : Int) : St := mkS 108 336 [(1, aI x1), (2, aI x2), (3, aP 3), (7, aO 15), (8, aI x19), (9, aP 9), (17, aV Tq14 y3_2), (18, aI x18), (19, aI x19), (39, aI x19), (40, aI x40)] [(3, .box [cI y3_0, cI y3_1, cV Tq14 y3_2]), (9, .box [cI y9_0, cI y9_1, cI y9_2, cI y9_3, cI y9_4]), (15, .vec Tq20 y15)]
abbrev f80_t_l2 := (List (Option (List Int))) → Int → Int → (List (Int × (Int × (Int × (Int × Int))))) → Int → Int → Int → Int → Int → Int → Int → Int → Int → Int → Option ((List Td21) × Unit)
abbrev f80_o_l2 (R : f80_S) : f80_t_l2 := (fun y15 y3_0 y3_1 y3_2 y9_0 y9_1 y9_2 y9_3 y9_4 x1 x18 x19 x2 x40 => R (f80_s_l2 y15 y3_0 y3_1 y3_2 y9_0 y9_1 y9_2 y9_3 y9_4 x1 x18 x19 x2 x40))
noncomputable def f80_Q_l2 (k : Nat) (R_l0 R_l2 : f80_S) : f80_L := [.c (f80_p 59804) 2, .j (fun σ => R_l2 (cut f80_A.loops 2 σ)), .blk 2, .blk 1, .c (f80_p 935) 0, .j (fun σ => R_l0 (cut f80_A.loops 0 σ)), .blk 0, .c (f80_p 15) 0]
noncomputable def f80_C_l2 (k : Nat) (R_l0 : f80_S) (n : Nat) (σ : St) : Option (RDL f80_rs) := loopK (fun σ K => den T f80_Y (f80_E k) f80_A k (f80_p 59804) 2 σ K) (cut f80_A.loops 2) (f80_a k [.blk 2, .blk 1, .c (f80_p 935) 0, .j (fun σ => R_l0 (cut f80_A.loops 0 σ)), .blk 0, .c (f80_p 15) 0]) n σ
def f80_s_r10 (y15 : (List (Option (List Int)))) (y3_0 : Int) (y3_1 : Int) (y3_2 : (List (Int × (Int × (Int × (Int × Int)))))) (y9_0 : Int) (y9_1 : Int) (y9_2 : Int) (y9_3 : Int) (y9_4 : Int) (x1 : Int) (x10 : Int) (x18 : Int) (x19 : Int) (x2 : Int) (x58 : Bool) : St := mkS 108 336 [(1, aI x1), (2, aI x2), (3, aP 3), (7, aO 15), (8, aI x19), (9, aP 9), (10, aI x10), (17, aV Tq14 y3_2), (18, aI x18), (19, aI x19), (39, aI x19), (40, aI x10), (58, aB x58)] [(3, .box [cI y3_0, cI y3_1, cV Tq14 y3_2]), (9, .box [cI y9_0, cI y9_1, cI y9_2, cI y9_3, cI y9_4]), (15, .vec Tq20 y15)]
abbrev f80_t_r10 := (List (Option (List Int))) → Int → Int → (List (Int × (Int × (Int × (Int × Int))))) → Int → Int → Int → Int → Int → Int → Int → Int → Int → Int → Bool → Option ((List Td21) × Unit)
abbrev f80_o_r10 (R : f80_S) : f80_t_r10 := (fun y15 y3_0 y3_1 y3_2 y9_0 y9_1 y9_2 y9_3 y9_4 x1 x10 x18 x19 x2 x58 => R (f80_s_r10 y15 y3_0 y3_1 y3_2 y9_0 y9_1 y9_2 y9_3 y9_4 x1 x10 x18 x19 x2 x58))
noncomputable def f80_Q_r10 (k : Nat) (R_l2 R_l0 : f80_S) : f80_L := [.c (f80_p 7655013) 3, .c (f80_p 3827507) 3, .blk 3, .c (f80_p 478439) 2, .j (fun σ => R_l2 (cut f80_A.loops 2 σ)), .blk 2, .blk 1, .c (f80_p 935) 0, .j (fun σ => R_l0 (cut f80_A.loops 0 σ)), .blk 0, .c (f80_p 15) 0]
noncomputable def f80_C_r10 (k : Nat) (R_l2 R_l0 : f80_S) : f80_S := fun σ => f80_a k (f80_Q_r10 k R_l2 R_l0) .nx σ
def f80_s_b3 (y15 : (List (Option (List Int)))) (y3_0 : Int) (y3_1 : Int) (y3_2 : (List (Int × (Int × (Int × (Int × Int)))))) (y9_0 : Int) (y9_1 : Int) (y9_2 : Int) (y9_3 : Int) (y9_4 : Int) (x1 : Int) (x18 : Int) (x19 : Int) (x2 : Int) (x40 : Int) : St := mkS 108 336 [(1, aI x1), (2, aI x2), (3, aP 3), (7, aO 15), (8, aI x19), (9, aP 9), (17, aV Tq14 y3_2), (18, aI x18), (19, aI x19), (39, aI x19), (40, aI x40)] [(3, .box [cI y3_0, cI y3_1, cV Tq14 y3_2]), (9, .box [cI y9_0, cI y9_1, cI y9_2, cI y9_3, cI y9_4]), (15, .vec Tq20 y15)]
abbrev f80_t_b3 := (List (Option (List Int))) → Int → Int → (List (Int × (Int × (Int × (Int × Int))))) → Int → Int → Int → Int → Int → Int → Int → Int → Int → Int → Option ((List Td21) × Unit)
abbrev f80_o_b3 (R : f80_S) : f80_t_b3 := (fun y15 y3_0 y3_1 y3_2 y9_0 y9_1 y9_2 y9_3 y9_4 x1 x18 x19 x2 x40 => R (f80_s_b3 y15 y3_0 y3_1 y3_2 y9_0 y9_1 y9_2 y9_3 y9_4 x1 x18 x19 x2 x40))
noncomputable def f80_Q_b3 (k : Nat) (R_l2 R_l0 : f80_S) : f80_L := [.c (f80_p 478439) 2, .j (fun σ => R_l2 (cut f80_A.loops 2 σ)), .blk 2, .blk 1, .c (f80_p 935) 0, .j (fun σ => R_l0 (cut f80_A.loops 0 σ)), .blk 0, .c (f80_p 15) 0]
noncomputable def f80_C_b3 (k : Nat) (R_l2 R_l0 : f80_S) : f80_S := fun σ => f80_a k (f80_Q_b3 k R_l2 R_l0) .nx σ
def f80_s_r12 (y15 : (List (Option (List Int)))) (y3_0 : Int) (y3_1 : Int) (y3_2 : (List (Int × (Int × (Int × (Int × Int)))))) (y63 : (List Int)) (y9_0 : Int) (y9_1 : Int) (y9_2 : Int) (y9_3 : Int) (y9_4 : Int) (x1 : Int) (x100 : Bool) (x18 : Int) (x19 : Int) (x2 : Int) (x40 : Int) : St := mkS 108 336 [(1, aI x1), (2, aI x2), (3, aP 3), (7, aO 15), (8, aI x19), (9, aP 9), (11, aO 63), (17, aV Tq14 y3_2), (18, aI x18), (19, aI x19), (39, aI x19), (40, aI x40), (100, aB x100)] [(3, .box [cI y3_0, cI y3_1, cV Tq14 y3_2]), (9, .box [cI y9_0, cI y9_1, cI y9_2, cI y9_3, cI y9_4]), (15, .vec Tq20 y15), (63, .vec (.int .i64) y63)]
abbrev f80_t_r12 := (List (Option (List Int))) → Int → Int → (List (Int × (Int × (Int × (Int × Int))))) → (List Int) → Int → Int → Int → Int → Int → Int → Bool → Int → Int → Int → Int → Option ((List Td21) × Unit)
abbrev f80_o_r12 (R : f80_S) : f80_t_r12 := (fun y15 y3_0 y3_1 y3_2 y63 y9_0 y9_1 y9_2 y9_3 y9_4 x1 x100 x18 x19 x2 x40 => R (f80_s_r12 y15 y3_0 y3_1 y3_2 y63 y9_0 y9_1 y9_2 y9_3 y9_4 x1 x100 x18 x19 x2 x40))
noncomputable def f80_Q_r12 (k : Nat) (R_l2 R_l0 : f80_S) : f80_L := [.c (f80_p 15310031) 3, .blk 3, .c (f80_p 478439) 2, .j (fun σ => R_l2 (cut f80_A.loops 2 σ)), .blk 2, .blk 1, .c (f80_p 935) 0, .j (fun σ => R_l0 (cut f80_A.loops 0 σ)), .blk 0, .c (f80_p 15) 0]
noncomputable def f80_C_r12 (k : Nat) (R_l2 R_l0 : f80_S) : f80_S := fun σ => f80_a k (f80_Q_r12 k R_l2 R_l0) .nx σ
def f80_s_c13 (y15 : (List (Option (List Int)))) (y3_0 : Int) (y3_1 : Int) (y3_2 : (List (Int × (Int × (Int × (Int × Int)))))) (y9_0 : Int) (y9_1 : Int) (y9_2 : Int) (y9_3 : Int) (y9_4 : Int) (x1 : Int) (x18 : Int) (x19 : Int) (x2 : Int) (x40 : Int) : St := mkS 108 336 [(1, aI x1), (2, aI x2), (3, aP 3), (7, aO 15), (8, aI x19), (9, aP 9), (17, aV Tq14 y3_2), (18, aI x18), (19, aI x19), (39, aI x19), (40, aI x40)] [(3, .box [cI y3_0, cI y3_1, cV Tq14 y3_2]), (9, .box [cI y9_0, cI y9_1, cI y9_2, cI y9_3, cI y9_4]), (15, .vec Tq20 y15)]
abbrev f80_t_c13 := (List (Option (List Int))) → Int → Int → (List (Int × (Int × (Int × (Int × Int))))) → Int → Int → Int → Int → Int → Int → Int → Int → Int → Int → Option ((List Td21) × Unit)
abbrev f80_o_c13 (R : f80_S) : f80_t_c13 := (fun y15 y3_0 y3_1 y3_2 y9_0 y9_1 y9_2 y9_3 y9_4 x1 x18 x19 x2 x40 => R (f80_s_c13 y15 y3_0 y3_1 y3_2 y9_0 y9_1 y9_2 y9_3 y9_4 x1 x18 x19 x2 x40))
noncomputable def f80_Q_c13 (k : Nat) (R_l2 R_l0 : f80_S) : f80_L := [.blk 3, .c (f80_p 478439) 2, .j (fun σ => R_l2 (cut f80_A.loops 2 σ)), .blk 2, .blk 1, .c (f80_p 935) 0, .j (fun σ => R_l0 (cut f80_A.loops 0 σ)), .blk 0, .c (f80_p 15) 0]
noncomputable def f80_C_c13 (k : Nat) (R_l2 R_l0 : f80_S) : f80_S := fun σ => f80_a k (f80_Q_c13 k R_l2 R_l0) .nx σ
noncomputable def f80_F_b1 (k : Nat) (G_l0 : f80_S) : f80_L := .c (f80_p 935) 0 :: .j (fun σ => G_l0 (cut f80_A.loops 0 σ)) :: .blk 0 :: .c (f80_p 15) 0 :: []
theorem f80_f_b1 (k : Nat) (R_l0 : f80_S) : f80_a k (f80_Q_b1 k R_l0) = f80_a k (f80_F_b1 k R_l0) := (ap_cons _ (ap_cons _ (ap_cons _ (ap_cons _ rfl))))
noncomputable def f80_F_r5 (k : Nat) (G_l0 G_b1 G_l2 : f80_S) : f80_L := .c (f80_p 14949) 1 :: .c (f80_p 14950) 1 :: .j (fun σ => f80_a k (.j (fun σ => G_l2 (cut f80_A.loops 2 σ)) :: .blk 2 :: .b 1 (fun σ => G_b1 (cut f80_A.blks 1 σ)) :: f80_F_b1 k G_l0) .nx σ) :: .b 1 (fun σ => G_b1 (cut f80_A.blks 1 σ)) :: f80_F_b1 k G_l0
theorem f80_f_r5 (k : Nat) (R_l0 : f80_S) : f80_a k (f80_Q_r5 k R_l0) = f80_a k (f80_F_r5 k R_l0 (f80_C_b1 k R_l0) (f80_C_l2 k R_l0 k)) := (ap_cons _ (Eq.trans ap_sq (ap_cons _ (Eq.trans (ap_bl 2) (Eq.trans (ap_j (Eq.trans (ap_lp (C := (f80_C_l2 k R_l0)) (fun _ _ => rfl)) (ap_cons _ (ap_cons _ (Eq.trans (ap_blkb (C := (f80_C_b1 k R_l0)) (fun _ => rfl)) (ap_cons _ (f80_f_b1 k R_l0))))))) (ap_cons _ (Eq.trans (ap_blkb (C := (f80_C_b1 k R_l0)) (fun _ => rfl)) (ap_cons _ (f80_f_b1 k R_l0)))))))))
noncomputable def f80_F_l0 (k : Nat) (G_l0 G_r5 G_b1 G_l2 : f80_S) : f80_L := .c (f80_p 232) 0 :: .c (f80_p 466) 0 :: .j (fun σ => f80_a k (.c (f80_p 3736) 1 :: .c (f80_p 14948) 1 :: .j G_r5 :: f80_F_r5 k G_l0 G_b1 G_l2) .nx σ) :: f80_F_b1 k G_l0
theorem f80_f_l0 (k : Nat) (R_l0 : f80_S) : f80_a k (f80_Q_l0 k R_l0) = f80_a k (f80_F_l0 k R_l0 (f80_C_r5 k R_l0) (f80_C_b1 k R_l0) (f80_C_l2 k R_l0 k)) := (Eq.trans ap_sq (ap_cons _ (Eq.trans ap_sq (ap_cons _ (Eq.trans ap_sq (Eq.trans (ap_bl 1) (Eq.trans (ap_j (Eq.trans ap_sq (ap_cons _ (Eq.trans ap_sq (Eq.trans ap_sq (ap_cons _ (Eq.trans (ap_pass (C := (f80_C_r5 k R_l0)) (fun _ => rfl)) (ap_cons _ (f80_f_r5 k R_l0))))))))) (ap_cons _ (f80_f_b1 k R_l0)))))))))
noncomputable def f80_F_b3 (k : Nat) (G_l0 G_b1 G_l2 : f80_S) : f80_L := .c (f80_p 478439) 2 :: .j (fun σ => G_l2 (cut f80_A.loops 2 σ)) :: .blk 2 :: .b 1 (fun σ => G_b1 (cut f80_A.blks 1 σ)) :: f80_F_b1 k G_l0
theorem f80_f_b3 (k : Nat) (R_l2 R_l0 : f80_S) : f80_a k (f80_Q_b3 k R_l2 R_l0) = f80_a k (f80_F_b3 k R_l0 (f80_C_b1 k R_l0) R_l2) := (ap_cons _ (ap_cons _ (ap_cons _ (Eq.trans (ap_blkb (C := (f80_C_b1 k R_l0)) (fun _ => rfl)) (ap_cons _ (f80_f_b1 k R_l0))))))
noncomputable def f80_F_c13 (k : Nat) (G_l0 G_b1 G_l2 G_b3 : f80_S) : f80_L := .b 3 (fun σ => G_b3 (cut f80_A.blks 3 σ)) :: f80_F_b3 k G_l0 G_b1 G_l2
theorem f80_f_c13 (k : Nat) (R_l2 R_l0 : f80_S) : f80_a k (f80_Q_c13 k R_l2 R_l0) = f80_a k (f80_F_c13 k R_l0 (f80_C_b1 k R_l0) R_l2 (f80_C_b3 k R_l2 R_l0)) := (Eq.trans (ap_blkb (C := (f80_C_b3 k R_l2 R_l0)) (fun _ => rfl)) (ap_cons _ (f80_f_b3 k R_l2 R_l0)))
noncomputable def f80_F_r12 (k : Nat) (G_l0 G_b1 G_l2 G_b3 G_c13 : f80_S) : f80_L := .c (f80_p 15310031) 3 :: .j G_c13 :: f80_F_c13 k G_l0 G_b1 G_l2 G_b3
theorem f80_f_r12 (k : Nat) (R_l2 R_l0 : f80_S) : f80_a k (f80_Q_r12 k R_l2 R_l0) = f80_a k (f80_F_r12 k R_l0 (f80_C_b1 k R_l0) R_l2 (f80_C_b3 k R_l2 R_l0) (f80_C_c13 k R_l2 R_l0)) := (ap_cons _ (Eq.trans (ap_pass (C := (f80_C_c13 k R_l2 R_l0)) (fun _ => rfl)) (ap_cons _ (f80_f_c13 k R_l2 R_l0))))
noncomputable def f80_F_r10 (k : Nat) (G_l0 G_b1 G_l2 G_b3 G_r12 G_c13 : f80_S) : f80_L := .c (f80_p 7655013) 3 :: .c (f80_p 7655014) 3 :: .c (f80_p 15310030) 3 :: .j G_r12 :: f80_F_r12 k G_l0 G_b1 G_l2 G_b3 G_c13
theorem f80_f_r10 (k : Nat) (R_l2 R_l0 : f80_S) : f80_a k (f80_Q_r10 k R_l2 R_l0) = f80_a k (f80_F_r10 k R_l0 (f80_C_b1 k R_l0) R_l2 (f80_C_b3 k R_l2 R_l0) (f80_C_r12 k R_l2 R_l0) (f80_C_c13 k R_l2 R_l0)) := (ap_cons _ (Eq.trans ap_sq (ap_cons _ (Eq.trans ap_sq (ap_cons _ (Eq.trans (ap_pass (C := (f80_C_r12 k R_l2 R_l0)) (fun _ => rfl)) (ap_cons _ (f80_f_r12 k R_l2 R_l0))))))))
noncomputable def f80_F_l2 (k : Nat) (G_l0 G_b1 G_l2 G_r10 G_b3 G_r12 G_c13 : f80_S) : f80_L := .c (f80_p 119608) 2 :: .c (f80_p 239218) 2 :: .j (fun σ => f80_a k (.c (f80_p 1913752) 3 :: .c (f80_p 7655012) 3 :: .j G_r10 :: f80_F_r10 k G_l0 G_b1 G_l2 G_b3 G_r12 G_c13) .nx σ) :: f80_F_b3 k G_l0 G_b1 G_l2
theorem f80_f_l2 (k : Nat) (R_l0 R_l2 : f80_S) : f80_a k (f80_Q_l2 k R_l0 R_l2) = f80_a k (f80_F_l2 k R_l0 (f80_C_b1 k R_l0) R_l2 (f80_C_r10 k R_l2 R_l0) (f80_C_b3 k R_l2 R_l0) (f80_C_r12 k R_l2 R_l0) (f80_C_c13 k R_l2 R_l0)) := (Eq.trans ap_sq (ap_cons _ (Eq.trans ap_sq (ap_cons _ (Eq.trans ap_sq (Eq.trans (ap_bl 3) (Eq.trans (ap_j (Eq.trans ap_sq (ap_cons _ (Eq.trans ap_sq (Eq.trans ap_sq (ap_cons _ (Eq.trans (ap_pass (C := (f80_C_r10 k R_l2 R_l0)) (fun _ => rfl)) (ap_cons _ (f80_f_r10 k R_l2 R_l0))))))))) (ap_cons _ (f80_f_b3 k R_l2 R_l0)))))))))
def f80_entry_B (k : Nat) (g_l0 : f80_t_l0) (a0 : (Int × Td19)) (a1 : Int) (a2 : Int) : Option ((List Td21) × Unit) := (if 0 ≤ (a0.2.2.length : Int) then (if (a0.2.2.length : Int) ≤ 1073741824 then (g_l0 (List.replicate ((a0.2.2.length : Int)).toNat (none : (Option (List Int)))) a0.1 a0.2.1 a0.2.2 a1 (a0.2.2.length : Int) 0 a2) else none) else none)
def f80_l0_B (k : Nat) (g_r5 : f80_t_r5) (y15 : (List (Option (List Int)))) (y3_0 : Int) (y3_1 : Int) (y3_2 : (List (Int × (Int × (Int × (Int × Int)))))) (x1 : Int) (x18 : Int) (x19 : Int) (x2 : Int) : Option ((List Td21) × Unit) := (if x19 < x18 then (if 0 ≤ x19 then (if x19 < (y3_2.length : Int) then (if ((y3_2.getD (x19).toNat (0, (0, (0, (0, 0))))).1) = x1 then (g_r5 y15 y3_0 y3_1 y3_2 ((y3_2.getD (x19).toNat (0, (0, (0, (0, 0))))).1) (((y3_2.getD (x19).toNat (0, (0, (0, (0, 0))))).2).1) ((((y3_2.getD (x19).toNat (0, (0, (0, (0, 0))))).2).2).1) (((((y3_2.getD (x19).toNat (0, (0, (0, (0, 0))))).2).2).2).1) (((((y3_2.getD (x19).toNat (0, (0, (0, (0, 0))))).2).2).2).2) x1 x18 x19 x2 (decide (x2 ≤ ((((y3_2.getD (x19).toNat (0, (0, (0, (0, 0))))).2).2).1)))) else (g_r5 y15 y3_0 y3_1 y3_2 ((y3_2.getD (x19).toNat (0, (0, (0, (0, 0))))).1) (((y3_2.getD (x19).toNat (0, (0, (0, (0, 0))))).2).1) ((((y3_2.getD (x19).toNat (0, (0, (0, (0, 0))))).2).2).1) (((((y3_2.getD (x19).toNat (0, (0, (0, (0, 0))))).2).2).2).1) (((((y3_2.getD (x19).toNat (0, (0, (0, (0, 0))))).2).2).2).2) x1 x18 x19 x2 false)) else none) else none) else some (y15, ()))
def f80_r5_B (k : Nat) (g_b1 : f80_t_b1) (g_l2 : f80_t_l2) (y15 : (List (Option (List Int)))) (y3_0 : Int) (y3_1 : Int) (y3_2 : (List (Int × (Int × (Int × (Int × Int)))))) (y9_0 : Int) (y9_1 : Int) (y9_2 : Int) (y9_3 : Int) (y9_4 : Int) (x1 : Int) (x18 : Int) (x19 : Int) (x2 : Int) (x33 : Bool) : Option ((List Td21) × Unit) := (if x33 = true then (if 0 ≤ x19 then (if x19 < (y15.length : Int) then (if ([x19]).isEmpty = false then (g_b1 (y15.set ((x19).toNat) (some ([x19]))) y3_0 y3_1 y3_2 x1 x18 x19 x2) else none) else none) else none) else (g_l2 y15 y3_0 y3_1 y3_2 y9_0 y9_1 y9_2 y9_3 y9_4 x1 x18 x19 x2 0))
def f80_b1_B (k : Nat) (g_l0 : f80_t_l0) (y15 : (List (Option (List Int)))) (y3_0 : Int) (y3_1 : Int) (y3_2 : (List (Int × (Int × (Int × (Int × Int)))))) (x1 : Int) (x18 : Int) (x19 : Int) (x2 : Int) : Option ((List Td21) × Unit) := (g_l0 y15 y3_0 y3_1 y3_2 x1 x18 (w64 (x19 + 1)) x2)
def f80_l2_B (k : Nat) (g_b1 : f80_t_b1) (g_r10 : f80_t_r10) (y15 : (List (Option (List Int)))) (y3_0 : Int) (y3_1 : Int) (y3_2 : (List (Int × (Int × (Int × (Int × Int)))))) (y9_0 : Int) (y9_1 : Int) (y9_2 : Int) (y9_3 : Int) (y9_4 : Int) (x1 : Int) (x18 : Int) (x19 : Int) (x2 : Int) (x40 : Int) : Option ((List Td21) × Unit) := (if x40 < x19 then (if 0 ≤ x40 then (if x40 < (y15.length : Int) then (if isNilO (y15.getD ((x40).toNat) none) = true then (g_r10 y15 y3_0 y3_1 y3_2 y9_0 y9_1 y9_2 y9_3 y9_4 x1 x40 x18 x19 x2 true) else (if 0 ≤ x40 then (if x40 < (y3_2.length : Int) then ((f110 k (y3_0, (y3_1, y3_2)) ((y3_2.getD (x40).toNat (0, (0, (0, (0, 0))))).1, (((y3_2.getD (x40).toNat (0, (0, (0, (0, 0))))).2).1, ((((y3_2.getD (x40).toNat (0, (0, (0, (0, 0))))).2).2).1, (((((y3_2.getD (x40).toNat (0, (0, (0, (0, 0))))).2).2).2).1, ((((y3_2.getD (x40).toNat (0, (0, (0, (0, 0))))).2).2).2).2)))) (y9_0, (y9_1, (y9_2, (y9_3, y9_4))))).bind fun r1 => (g_r10 y15 y3_0 y3_1 y3_2 y9_0 y9_1 y9_2 y9_3 y9_4 x1 x40 x18 x19 x2 (decide (¬ (r1.1 = true))))) else none) else none)) else none) else none) else (g_b1 y15 y3_0 y3_1 y3_2 x1 x18 x19 x2))
def f80_r10_B (k : Nat) (g_b3 : f80_t_b3) (g_r12 : f80_t_r12) (y15 : (List (Option (List Int)))) (y3_0 : Int) (y3_1 : Int) (y3_2 : (List (Int × (Int × (Int × (Int × Int)))))) (y9_0 : Int) (y9_1 : Int) (y9_2 : Int) (y9_3 : Int) (y9_4 : Int) (x1 : Int) (x10 : Int) (x18 : Int) (x19 : Int) (x2 : Int) (x58 : Bool) : Option ((List Td21) × Unit) := (if x58 = true then (g_b3 y15 y3_0 y3_1 y3_2 y9_0 y9_1 y9_2 y9_3 y9_4 x1 x18 x19 x2 x10) else (if 0 ≤ x10 then (if x10 < (y15.length : Int) then ((f35u k (slL true (y15.getD ((x10).toNat) none))).bind fun r1 => (if (r1.1.length + 1) * 8 ≤ 140737488355328 then (if 0 ≤ x19 then (if x19 < (y15.length : Int) then (if isNilO (y15.getD ((x19).toNat) none) = true then (g_r12 y15 y3_0 y3_1 y3_2 (r1.1 ++ [x19]) y9_0 y9_1 y9_2 y9_3 y9_4 x1 true x18 x19 x2 x10) else (if 0 ≤ x19 then (if x19 < (y15.length : Int) then (if ((r1.1 ++ [x19]).length : Int) < ((slL true (y15.getD ((x19).toNat) none)).length : Int) then (g_r12 y15 y3_0 y3_1 y3_2 (r1.1 ++ [x19]) y9_0 y9_1 y9_2 y9_3 y9_4 x1 true x18 x19 x2 x10) else (if 0 ≤ x19 then (if x19 < (y15.length : Int) then (if ((r1.1 ++ [x19]).length : Int) = ((slL true (y15.getD ((x19).toNat) none)).length : Int) then (if 0 ≤ x19 then (if x19 < (y15.length : Int) then ((f81 k (r1.1 ++ [x19]) (slL true (y15.getD ((x19).toNat) none))).bind fun r2 => (g_r12 y15 y3_0 y3_1 y3_2 (r1.1 ++ [x19]) y9_0 y9_1 y9_2 y9_3 y9_4 x1 (decide (r2.1 < 0)) x18 x19 x2 x10)) else none) else none) else (g_r12 y15 y3_0 y3_1 y3_2 (r1.1 ++ [x19]) y9_0 y9_1 y9_2 y9_3 y9_4 x1 false x18 x19 x2 x10)) else none) else none)) else none) else none)) else none) else none) else none)) else none) else none))
def f80_b3_B (k : Nat) (g_l2 : f80_t_l2) (y15 : (List (Option (List Int)))) (y3_0 : Int) (y3_1 : Int) (y3_2 : (List (Int × (Int × (Int × (Int × Int)))))) (y9_0 : Int) (y9_1 : Int) (y9_2 : Int) (y9_3 : Int) (y9_4 : Int) (x1 : Int) (x18 : Int) (x19 : Int) (x2 : Int) (x40 : Int) : Option ((List Td21) × Unit) := (g_l2 y15 y3_0 y3_1 y3_2 y9_0 y9_1 y9_2 y9_3 y9_4 x1 x18 x19 x2 (w64 (x40 + 1)))
def f80_r12_B (k : Nat) (g_c13 : f80_t_c13) (y15 : (List (Option (List Int)))) (y3_0 : Int) (y3_1 : Int) (y3_2 : (List (Int × (Int × (Int × (Int × Int)))))) (y63 : (List Int)) (y9_0 : Int) (y9_1 : Int) (y9_2 : Int) (y9_3 : Int) (y9_4 : Int) (x1 : Int) (x100 : Bool) (x18 : Int) (x19 : Int) (x2 : Int) (x40 : Int) : Option ((List Td21) × Unit) := (if x100 = true then (if 0 ≤ x19 then (if x19 < (y15.length : Int) then (if y63.isEmpty = false then (g_c13 (y15.set ((x19).toNat) (some y63)) y3_0 y3_1 y3_2 y9_0 y9_1 y9_2 y9_3 y9_4 x1 x18 x19 x2 x40) else none) else none) else none) else (g_c13 y15 y3_0 y3_1 y3_2 y9_0 y9_1 y9_2 y9_3 y9_4 x1 x18 x19 x2 x40))
def f80_c13_B (k : Nat) (g_b3 : f80_t_b3) (y15 : (List (Option (List Int)))) (y3_0 : Int) (y3_1 : Int) (y3_2 : (List (Int × (Int × (Int × (Int × Int)))))) (y9_0 : Int) (y9_1 : Int) (y9_2 : Int) (y9_3 : Int) (y9_4 : Int) (x1 : Int) (x18 : Int) (x19 : Int) (x2 : Int) (x40 : Int) : Option ((List Td21) × Unit) := (g_b3 y15 y3_0 y3_1 y3_2 y9_0 y9_1 y9_2 y9_3 y9_4 x1 x18 x19 x2 x40)
theorem f80_b1_P (k : Nat) (G_l0 : f80_S) : f80_o_b1 (fun σ => f80_a k (f80_F_b1 k G_l0) .nx σ) = f80_b1_B k (f80_o_l0 G_l0) := by kernel_rfl
def f80_b1 (k : Nat) (r_l0 : f80_t_l0) : f80_t_b1 := f80_b1_B k r_l0
theorem f80_b1_E (k : Nat) (R_l0 : f80_S) : f80_o_b1 (f80_C_b1 k R_l0) = f80_b1 k (f80_o_l0 R_l0) :=
  Eq.trans (congrArg f80_o_b1 (ap_fn (f80_f_b1 k R_l0))) ((f80_b1_P k R_l0).trans (by rfl))
theorem f80_b3_P (k : Nat) (G_l0 G_b1 G_l2 : f80_S) : f80_o_b3 (fun σ => f80_a k (f80_F_b3 k G_l0 G_b1 G_l2) .nx σ) = f80_b3_B k (f80_o_l2 G_l2) := by kernel_rfl
def f80_b3 (k : Nat) (r_l2 : f80_t_l2) (r_l0 : f80_t_l0) : f80_t_b3 := f80_b3_B k r_l2
theorem f80_b3_E (k : Nat) (R_l2 R_l0 : f80_S) : f80_o_b3 (f80_C_b3 k R_l2 R_l0) = f80_b3 k (f80_o_l2 R_l2) (f80_o_l0 R_l0) :=
  Eq.trans (congrArg f80_o_b3 (ap_fn (f80_f_b3 k R_l2 R_l0))) ((f80_b3_P k R_l0 (f80_C_b1 k R_l0) R_l2).trans (by rfl))
theorem f80_c13_P (k : Nat) (G_l0 G_b1 G_l2 G_b3 : f80_S) : f80_o_c13 (fun σ => f80_a k (f80_F_c13 k G_l0 G_b1 G_l2 G_b3) .nx σ) = f80_c13_B k (f80_o_b3 G_b3) := by kernel_rfl
def f80_c13 (k : Nat) (r_l2 : f80_t_l2) (r_l0 : f80_t_l0) : f80_t_c13 := f80_c13_B k (f80_b3 k r_l2 r_l0)
theorem f80_c13_E (k : Nat) (R_l2 R_l0 : f80_S) : f80_o_c13 (f80_C_c13 k R_l2 R_l0) = f80_c13 k (f80_o_l2 R_l2) (f80_o_l0 R_l0) :=
  Eq.trans (congrArg f80_o_c13 (ap_fn (f80_f_c13 k R_l2 R_l0))) ((f80_c13_P k R_l0 (f80_C_b1 k R_l0) R_l2 (f80_C_b3 k R_l2 R_l0)).trans (by rw [f80_b3_E k R_l2 R_l0] <;> rfl))
theorem f80_r12_P (k : Nat) (G_l0 G_b1 G_l2 G_b3 G_c13 : f80_S) : f80_o_r12 (fun σ => f80_a k (f80_F_r12 k G_l0 G_b1 G_l2 G_b3 G_c13) .nx σ) = f80_r12_B k (f80_o_c13 G_c13) := by kernel_rfl
def f80_r12 (k : Nat) (r_l2 : f80_t_l2) (r_l0 : f80_t_l0) : f80_t_r12 := f80_r12_B k (f80_c13 k r_l2 r_l0)
theorem f80_r12_E (k : Nat) (R_l2 R_l0 : f80_S) : f80_o_r12 (f80_C_r12 k R_l2 R_l0) = f80_r12 k (f80_o_l2 R_l2) (f80_o_l0 R_l0) :=
  Eq.trans (congrArg f80_o_r12 (ap_fn (f80_f_r12 k R_l2 R_l0))) ((f80_r12_P k R_l0 (f80_C_b1 k R_l0) R_l2 (f80_C_b3 k R_l2 R_l0) (f80_C_c13 k R_l2 R_l0)).trans (by rw [f80_c13_E k R_l2 R_l0] <;> rfl))
theorem f80_r10_P (k : Nat) (G_l0 G_b1 G_l2 G_b3 G_r12 G_c13 : f80_S) : f80_o_r10 (fun σ => f80_a k (f80_F_r10 k G_l0 G_b1 G_l2 G_b3 G_r12 G_c13) .nx σ) = f80_r10_B k (f80_o_b3 G_b3) (f80_o_r12 G_r12) := by kernel_rfl
def f80_r10 (k : Nat) (r_l2 : f80_t_l2) (r_l0 : f80_t_l0) : f80_t_r10 := f80_r10_B k (f80_b3 k r_l2 r_l0) (f80_r12 k r_l2 r_l0)
theorem f80_r10_E (k : Nat) (R_l2 R_l0 : f80_S) : f80_o_r10 (f80_C_r10 k R_l2 R_l0) = f80_r10 k (f80_o_l2 R_l2) (f80_o_l0 R_l0) :=
  Eq.trans (congrArg f80_o_r10 (ap_fn (f80_f_r10 k R_l2 R_l0))) ((f80_r10_P k R_l0 (f80_C_b1 k R_l0) R_l2 (f80_C_b3 k R_l2 R_l0) (f80_C_r12 k R_l2 R_l0) (f80_C_c13 k R_l2 R_l0)).trans (by rw [f80_b3_E k R_l2 R_l0, f80_r12_E k R_l2 R_l0] <;> rfl))
theorem f80_l2_P (k : Nat) (G_l0 G_b1 G_l2 G_r10 G_b3 G_r12 G_c13 : f80_S) : f80_o_l2 (fun σ => f80_a k (f80_F_l2 k G_l0 G_b1 G_l2 G_r10 G_b3 G_r12 G_c13) .nx σ) = f80_l2_B k (f80_o_b1 G_b1) (f80_o_r10 G_r10) := by kernel_rfl
def f80_l2 (k : Nat) (r_l0 : f80_t_l0) : Nat → f80_t_l2
  | 0 => fun _ _ _ _ _ _ _ _ _ _ _ _ _ _ => none
  | n + 1 => f80_l2_B k (f80_b1 k r_l0) (f80_r10 k (f80_l2 k r_l0 n) r_l0)
theorem f80_l2_E (k : Nat) (R_l0 : f80_S) : ∀ n, f80_o_l2 (f80_C_l2 k R_l0 n) = f80_l2 k (f80_o_l0 R_l0) n
  | 0 => rfl
  | n + 1 =>
    Eq.trans (congrArg f80_o_l2 (Eq.trans (b := fun σ => f80_a k (f80_Q_l2 k R_l0 (f80_C_l2 k R_l0 n)) .nx σ) (by kernel_rfl) (ap_fn (f80_f_l2 k R_l0 (f80_C_l2 k R_l0 n))))) ((f80_l2_P k R_l0 (f80_C_b1 k R_l0) (f80_C_l2 k R_l0 n) (f80_C_r10 k (f80_C_l2 k R_l0 n) R_l0) (f80_C_b3 k (f80_C_l2 k R_l0 n) R_l0) (f80_C_r12 k (f80_C_l2 k R_l0 n) R_l0) (f80_C_c13 k (f80_C_l2 k R_l0 n) R_l0)).trans (by rw [f80_b1_E k R_l0, f80_r10_E k (f80_C_l2 k R_l0 n) R_l0, f80_l2_E k R_l0 n] <;> rfl))
theorem f80_r5_P (k : Nat) (G_l0 G_b1 G_l2 : f80_S) : f80_o_r5 (fun σ => f80_a k (f80_F_r5 k G_l0 G_b1 G_l2) .nx σ) = f80_r5_B k (f80_o_b1 G_b1) (f80_o_l2 G_l2) := by kernel_rfl
def f80_r5 (k : Nat) (r_l0 : f80_t_l0) : f80_t_r5 := f80_r5_B k (f80_b1 k r_l0) (f80_l2 k r_l0 k)
theorem f80_r5_E (k : Nat) (R_l0 : f80_S) : f80_o_r5 (f80_C_r5 k R_l0) = f80_r5 k (f80_o_l0 R_l0) :=
  Eq.trans (congrArg f80_o_r5 (ap_fn (f80_f_r5 k R_l0))) ((f80_r5_P k R_l0 (f80_C_b1 k R_l0) (f80_C_l2 k R_l0 k)).trans (by rw [f80_b1_E k R_l0, f80_l2_E k R_l0 k] <;> rfl))
theorem f80_l0_P (k : Nat) (G_l0 G_r5 G_b1 G_l2 : f80_S) : f80_o_l0 (fun σ => f80_a k (f80_F_l0 k G_l0 G_r5 G_b1 G_l2) .nx σ) = f80_l0_B k (f80_o_r5 G_r5) := by kernel_rfl
def f80_l0 (k : Nat) : Nat → f80_t_l0
  | 0 => fun _ _ _ _ _ _ _ _ => none
  | n + 1 => f80_l0_B k (f80_r5 k (f80_l0 k n))
theorem f80_l0_E (k : Nat) : ∀ n, f80_o_l0 (f80_C_l0 k n) = f80_l0 k n
  | 0 => rfl
  | n + 1 =>
    Eq.trans (congrArg f80_o_l0 (Eq.trans (b := fun σ => f80_a k (f80_Q_l0 k (f80_C_l0 k n)) .nx σ) (by kernel_rfl) (ap_fn (f80_f_l0 k (f80_C_l0 k n))))) ((f80_l0_P k (f80_C_l0 k n) (f80_C_r5 k (f80_C_l0 k n)) (f80_C_b1 k (f80_C_l0 k n)) (f80_C_l2 k (f80_C_l0 k n) k)).trans (by rw [f80_r5_E k (f80_C_l0 k n), f80_l0_E k n] <;> rfl))
theorem f80_entry_P (k : Nat) (G_l0 : f80_S) (xs : DL f80_sig) : f80_a k (.c (f80_p 2) 0 :: .c (f80_p 6) 0 :: .c (f80_p 28) 0 :: .j (fun σ => f80_a k (.j (fun σ => G_l0 (cut f80_A.loops 0 σ)) :: .blk 0 :: .c (f80_p 15) 0 :: []) .nx σ) :: .c (f80_p 15) 0 :: []) .nx (σ0 108 336 f80_sig xs) = f80_entry_B k (f80_o_l0 G_l0) xs.1 xs.2.1 xs.2.2.1 := by kernel_rfl
def f80 (k : Nat) (a0 : (Int × Td19)) (a1 : Int) (a2 : Int) : Option ((List Td21) × Unit) := f80_entry_B k (f80_l0 k k) a0 a1 a2
theorem f80_fe (k : Nat) : f80_a k [.c (f80_p 1) 0] = f80_a k (.c (f80_p 2) 0 :: .c (f80_p 6) 0 :: .c (f80_p 28) 0 :: .j (fun σ => f80_a k (.j (fun σ => (f80_C_l0 k k) (cut f80_A.loops 0 σ)) :: .blk 0 :: .c (f80_p 15) 0 :: []) .nx σ) :: .c (f80_p 15) 0 :: []) := (Eq.trans ap_sq (ap_cons _ (Eq.trans ap_sq (ap_cons _ (Eq.trans ap_sq (Eq.trans ap_sq (ap_cons _ (Eq.trans (ap_bl 0) (Eq.trans (ap_j (Eq.trans (ap_lp (C := (f80_C_l0 k)) (fun _ _ => rfl)) (ap_cons _ (ap_cons _ (ap_cons _ rfl))))) (ap_cons _ (ap_cons _ rfl)))))))))))
theorem f80_eq (k : Nat) (xs : DL f80_sig) : den T f80_Y (f80_E k) f80_A k f80_c 0 (σ0 108 336 f80_sig xs) (Kfin T f80_rs f80_ts) = f80 k xs.1 xs.2.1 xs.2.2.1 :=
  Eq.trans (Eq.trans den_sb (ap_at (f80_fe k) _)) ((f80_entry_P k (f80_C_l0 k k) xs).trans (by rw [f80_l0_E k k] <;> rfl))
noncomputable def f80_con (k : Nat) : Con := ⟨f80_sig, f80_rs, fun xs => f80 k xs.1 xs.2.1 xs.2.2.1⟩
theorem f80_ok (k : Nat) : PureOK Try.prog 80 f80_sig f80_rs (fun xs => f80 k xs.1 xs.2.1 xs.2.2.1) :=
  (pure_of_den (k := k) (A := f80_A) (T := T) (Y := f80_Y) (E := f80_E k) (M := 336) (ts := f80_ts) T_ok ⟨f35u_ok k, f81_ok k, f110_ok k, trivial⟩ ⟨f35u_ent, f81_ent, f110_ent, trivial⟩ mixed (f := 80) (fn := Try.f80) (c := f80_c) (by kernel_rfl) (by kernel_rfl) (by kernel_rfl) (by decide) (by kernel_rfl)).congr fun xs => (f80_eq k xs).symm
theorem f80_ent : Ent Try.prog 80 := fun args w => by kernel_rfl
/-! ### terrier/timed.Plan: function 56 -/
noncomputable def f56_c : Code := Try.f56.body.getD .skip
noncomputable abbrev f56_p (n : Nat) : Code := sb f56_c n
abbrev f56_sig : List PT := [(true, Tq17), (false, (.int .i64)), (false, (.int .i64)), (false, (.int .i64))]
abbrev f56_rs : List RT := [.d false Tq1, .d false (.int .i64), .d false (.int .i64)]
abbrev f56_ts : List RV := [.tmp 8, .tmp 9, .tmp 10]
abbrev f56_S := St → Option (RDL f56_rs)
abbrev f56_L := List (Fr (RDL f56_rs))
def f56_Y : Tys := [(3, (.int .i64))]
noncomputable def f56_E (k : Nat) : Env := [(79, .c (f79_con k)), (80, .c (f80_con k)), (81, .c (f81_con k))]
def f56_A : Ann := { regs := [(4, { slots := [(1, .id), (2, .id), (3, .id), (4, .id), (29, .bool)], keys := [(4, [.id, .id, .val false Tq14])] }), (13, { slots := [(2, .id), (4, .id), (12, .id), (13, .id), (14, .id), (15, .id), (39, .val false Tq14), (40, .id), (41, .id), (56, .bool)], keys := [(4, [.id, .id, .val false Tq14]), (15, []), (37, [])] }), (14, { slots := [(2, .id), (4, .id), (12, .id), (13, .id), (14, .id), (39, .val false Tq14), (40, .id), (41, .id), (118, .bool)], keys := [(4, [.id, .id, .val false Tq14]), (37, [])] })], loops := [(0, { slots := [(2, .id), (4, .id), (12, .id), (13, .id), (39, .val false Tq14), (40, .id), (41, .id)], keys := [(4, [.id, .id, .val false Tq14]), (37, [])] })], blks := [(1, { slots := [(2, .id), (4, .id), (12, .id), (13, .id), (39, .val false Tq14), (40, .id), (41, .id)], keys := [(4, [.id, .id, .val false Tq14]), (37, [])] })], conds := [(15, { slots := [(2, .id), (4, .id), (12, .id), (13, .id), (39, .val false Tq14), (40, .id), (41, .id)], keys := [(4, [.id, .id, .val false Tq14]), (37, [])] })] }
noncomputable abbrev f56_a (k : Nat) (F : f56_L) : Kont (RDL f56_rs) := ap T f56_Y (f56_E k) f56_A k (Kfin T f56_rs f56_ts) F
def f56_s_r4 (y4_0 : Int) (y4_1 : Int) (y4_2 : (List (Int × (Int × (Int × (Int × Int)))))) (x1 : Int) (x2 : Int) (x29 : Bool) (x3 : Int) : St := mkS 133 400 [(1, aI x1), (2, aI x2), (3, aI x3), (4, aP 4), (29, aB x29)] [(4, .box [cI y4_0, cI y4_1, cV Tq14 y4_2])]
abbrev f56_t_r4 := Int → Int → (List (Int × (Int × (Int × (Int × Int))))) → Int → Int → Bool → Int → Option ((List Int) × Int × Int × Unit)
abbrev f56_o_r4 (R : f56_S) : f56_t_r4 := (fun y4_0 y4_1 y4_2 x1 x2 x29 x3 => R (f56_s_r4 y4_0 y4_1 y4_2 x1 x2 x29 x3))
noncomputable def f56_Q_r4 (k : Nat) : f56_L := [.c (f56_p 29) 0, .c (f56_p 15) 0]
noncomputable def f56_C_r4 (k : Nat) : f56_S := fun σ => f56_a k (f56_Q_r4 k) .nx σ
def f56_s_l0 (y37 : (List (Option (List Int)))) (y4_0 : Int) (y4_1 : Int) (y4_2 : (List (Int × (Int × (Int × (Int × Int)))))) (x13 : Int) (x2 : Int) (x40 : Int) (x41 : Int) : St := mkS 133 400 [(2, aI x2), (4, aP 4), (12, aO 37), (13, aI x13), (39, aV Tq14 y4_2), (40, aI x40), (41, aI x41)] [(4, .box [cI y4_0, cI y4_1, cV Tq14 y4_2]), (37, .vec Tq20 y37)]
abbrev f56_t_l0 := (List (Option (List Int))) → Int → Int → (List (Int × (Int × (Int × (Int × Int))))) → Int → Int → Int → Int → Option ((List Int) × Int × Int × Unit)
abbrev f56_o_l0 (R : f56_S) : f56_t_l0 := (fun y37 y4_0 y4_1 y4_2 x13 x2 x40 x41 => R (f56_s_l0 y37 y4_0 y4_1 y4_2 x13 x2 x40 x41))
noncomputable def f56_Q_l0 (k : Nat) (R_l0 : f56_S) : f56_L := [.c (f56_p 2036) 0, .j (fun σ => R_l0 (cut f56_A.loops 0 σ)), .blk 0, .c (f56_p 255) 0]
noncomputable def f56_C_l0 (k : Nat) (n : Nat) (σ : St) : Option (RDL f56_rs) := loopK (fun σ K => den T f56_Y (f56_E k) f56_A k (f56_p 2036) 0 σ K) (cut f56_A.loops 0) (f56_a k [.blk 0, .c (f56_p 255) 0]) n σ
def f56_s_r13 (y15_0 : Int) (y15_1 : Int) (y15_2 : Int) (y15_3 : Int) (y15_4 : Int) (y37 : (List (Option (List Int)))) (y4_0 : Int) (y4_1 : Int) (y4_2 : (List (Int × (Int × (Int × (Int × Int)))))) (x13 : Int) (x14 : Int) (x2 : Int) (x40 : Int) (x56 : Bool) : St := mkS 133 400 [(2, aI x2), (4, aP 4), (12, aO 37), (13, aI x13), (14, aI x14), (15, aP 15), (39, aV Tq14 y4_2), (40, aI x40), (41, aI x14), (56, aB x56)] [(4, .box [cI y4_0, cI y4_1, cV Tq14 y4_2]), (15, .box [cI y15_0, cI y15_1, cI y15_2, cI y15_3, cI y15_4]), (37, .vec Tq20 y37)]
abbrev f56_t_r13 := Int → Int → Int → Int → Int → (List (Option (List Int))) → Int → Int → (List (Int × (Int × (Int × (Int × Int))))) → Int → Int → Int → Int → Bool → Option ((List Int) × Int × Int × Unit)
abbrev f56_o_r13 (R : f56_S) : f56_t_r13 := (fun y15_0 y15_1 y15_2 y15_3 y15_4 y37 y4_0 y4_1 y4_2 x13 x14 x2 x40 x56 => R (f56_s_r13 y15_0 y15_1 y15_2 y15_3 y15_4 y37 y4_0 y4_1 y4_2 x13 x14 x2 x40 x56))
noncomputable def f56_Q_r13 (k : Nat) (R_l0 : f56_S) : f56_L := [.c (f56_p 260709) 1, .c (f56_p 130355) 1, .blk 1, .c (f56_p 16295) 0, .j (fun σ => R_l0 (cut f56_A.loops 0 σ)), .blk 0, .c (f56_p 255) 0]
noncomputable def f56_C_r13 (k : Nat) (R_l0 : f56_S) : f56_S := fun σ => f56_a k (f56_Q_r13 k R_l0) .nx σ
def f56_s_b1 (y37 : (List (Option (List Int)))) (y4_0 : Int) (y4_1 : Int) (y4_2 : (List (Int × (Int × (Int × (Int × Int)))))) (x13 : Int) (x2 : Int) (x40 : Int) (x41 : Int) : St := mkS 133 400 [(2, aI x2), (4, aP 4), (12, aO 37), (13, aI x13), (39, aV Tq14 y4_2), (40, aI x40), (41, aI x41)] [(4, .box [cI y4_0, cI y4_1, cV Tq14 y4_2]), (37, .vec Tq20 y37)]
abbrev f56_t_b1 := (List (Option (List Int))) → Int → Int → (List (Int × (Int × (Int × (Int × Int))))) → Int → Int → Int → Int → Option ((List Int) × Int × Int × Unit)
abbrev f56_o_b1 (R : f56_S) : f56_t_b1 := (fun y37 y4_0 y4_1 y4_2 x13 x2 x40 x41 => R (f56_s_b1 y37 y4_0 y4_1 y4_2 x13 x2 x40 x41))
noncomputable def f56_Q_b1 (k : Nat) (R_l0 : f56_S) : f56_L := [.c (f56_p 16295) 0, .j (fun σ => R_l0 (cut f56_A.loops 0 σ)), .blk 0, .c (f56_p 255) 0]
noncomputable def f56_C_b1 (k : Nat) (R_l0 : f56_S) : f56_S := fun σ => f56_a k (f56_Q_b1 k R_l0) .nx σ
def f56_s_r14 (y37 : (List (Option (List Int)))) (y4_0 : Int) (y4_1 : Int) (y4_2 : (List (Int × (Int × (Int × (Int × Int)))))) (x118 : Bool) (x13 : Int) (x14 : Int) (x2 : Int) (x40 : Int) : St := mkS 133 400 [(2, aI x2), (4, aP 4), (12, aO 37), (13, aI x13), (14, aI x14), (39, aV Tq14 y4_2), (40, aI x40), (41, aI x14), (118, aB x118)] [(4, .box [cI y4_0, cI y4_1, cV Tq14 y4_2]), (37, .vec Tq20 y37)]
abbrev f56_t_r14 := (List (Option (List Int))) → Int → Int → (List (Int × (Int × (Int × (Int × Int))))) → Bool → Int → Int → Int → Int → Option ((List Int) × Int × Int × Unit)
abbrev f56_o_r14 (R : f56_S) : f56_t_r14 := (fun y37 y4_0 y4_1 y4_2 x118 x13 x14 x2 x40 => R (f56_s_r14 y37 y4_0 y4_1 y4_2 x118 x13 x14 x2 x40))
noncomputable def f56_Q_r14 (k : Nat) (R_l0 : f56_S) : f56_L := [.c (f56_p 260711) 1, .blk 1, .c (f56_p 16295) 0, .j (fun σ => R_l0 (cut f56_A.loops 0 σ)), .blk 0, .c (f56_p 255) 0]
noncomputable def f56_C_r14 (k : Nat) (R_l0 : f56_S) : f56_S := fun σ => f56_a k (f56_Q_r14 k R_l0) .nx σ
def f56_s_c15 (y37 : (List (Option (List Int)))) (y4_0 : Int) (y4_1 : Int) (y4_2 : (List (Int × (Int × (Int × (Int × Int)))))) (x13 : Int) (x2 : Int) (x40 : Int) (x41 : Int) : St := mkS 133 400 [(2, aI x2), (4, aP 4), (12, aO 37), (13, aI x13), (39, aV Tq14 y4_2), (40, aI x40), (41, aI x41)] [(4, .box [cI y4_0, cI y4_1, cV Tq14 y4_2]), (37, .vec Tq20 y37)]
abbrev f56_t_c15 := (List (Option (List Int))) → Int → Int → (List (Int × (Int × (Int × (Int × Int))))) → Int → Int → Int → Int → Option ((List Int) × Int × Int × Unit)
abbrev f56_o_c15 (R : f56_S) : f56_t_c15 := (fun y37 y4_0 y4_1 y4_2 x13 x2 x40 x41 => R (f56_s_c15 y37 y4_0 y4_1 y4_2 x13 x2 x40 x41))
noncomputable def f56_Q_c15 (k : Nat) (R_l0 : f56_S) : f56_L := [.blk 1, .c (f56_p 16295) 0, .j (fun σ => R_l0 (cut f56_A.loops 0 σ)), .blk 0, .c (f56_p 255) 0]
noncomputable def f56_C_c15 (k : Nat) (R_l0 : f56_S) : f56_S := fun σ => f56_a k (f56_Q_c15 k R_l0) .nx σ
noncomputable def f56_F_r4 (k : Nat) (G_l0 : f56_S) : f56_L := .c (f56_p 29) 0 :: .c (f56_p 30) 0 :: .c (f56_p 62) 0 :: .c (f56_p 126) 0 :: .c (f56_p 508) 0 :: .j (fun σ => f56_a k (.j (fun σ => G_l0 (cut f56_A.loops 0 σ)) :: .blk 0 :: .c (f56_p 255) 0 :: []) .nx σ) :: .c (f56_p 255) 0 :: []
theorem f56_f_r4 (k : Nat) : f56_a k (f56_Q_r4 k) = f56_a k (f56_F_r4 k (f56_C_l0 k k)) := (ap_cons _ (Eq.trans ap_sq (ap_cons _ (Eq.trans ap_sq (ap_cons _ (Eq.trans ap_sq (ap_cons _ (Eq.trans ap_sq (Eq.trans ap_sq (ap_cons _ (Eq.trans (ap_bl 0) (Eq.trans (ap_j (Eq.trans (ap_lp (C := (f56_C_l0 k)) (fun _ _ => rfl)) (ap_cons _ (ap_cons _ (ap_cons _ rfl))))) (ap_cons _ (ap_cons _ rfl))))))))))))))
noncomputable def f56_F_b1 (k : Nat) (G_l0 : f56_S) : f56_L := .c (f56_p 16295) 0 :: .j (fun σ => G_l0 (cut f56_A.loops 0 σ)) :: .blk 0 :: .c (f56_p 255) 0 :: []
theorem f56_f_b1 (k : Nat) (R_l0 : f56_S) : f56_a k (f56_Q_b1 k R_l0) = f56_a k (f56_F_b1 k R_l0) := (ap_cons _ (ap_cons _ (ap_cons _ (ap_cons _ rfl))))
noncomputable def f56_F_c15 (k : Nat) (G_l0 G_b1 : f56_S) : f56_L := .b 1 (fun σ => G_b1 (cut f56_A.blks 1 σ)) :: f56_F_b1 k G_l0
theorem f56_f_c15 (k : Nat) (R_l0 : f56_S) : f56_a k (f56_Q_c15 k R_l0) = f56_a k (f56_F_c15 k R_l0 (f56_C_b1 k R_l0)) := (Eq.trans (ap_blkb (C := (f56_C_b1 k R_l0)) (fun _ => rfl)) (ap_cons _ (f56_f_b1 k R_l0)))
noncomputable def f56_F_r14 (k : Nat) (G_l0 G_b1 G_c15 : f56_S) : f56_L := .c (f56_p 260711) 1 :: .j G_c15 :: f56_F_c15 k G_l0 G_b1
theorem f56_f_r14 (k : Nat) (R_l0 : f56_S) : f56_a k (f56_Q_r14 k R_l0) = f56_a k (f56_F_r14 k R_l0 (f56_C_b1 k R_l0) (f56_C_c15 k R_l0)) := (ap_cons _ (Eq.trans (ap_pass (C := (f56_C_c15 k R_l0)) (fun _ => rfl)) (ap_cons _ (f56_f_c15 k R_l0))))
noncomputable def f56_F_r13 (k : Nat) (G_l0 G_b1 G_r14 G_c15 : f56_S) : f56_L := .c (f56_p 260709) 1 :: .c (f56_p 260710) 1 :: .j G_r14 :: f56_F_r14 k G_l0 G_b1 G_c15
theorem f56_f_r13 (k : Nat) (R_l0 : f56_S) : f56_a k (f56_Q_r13 k R_l0) = f56_a k (f56_F_r13 k R_l0 (f56_C_b1 k R_l0) (f56_C_r14 k R_l0) (f56_C_c15 k R_l0)) := (ap_cons _ (Eq.trans ap_sq (ap_cons _ (Eq.trans (ap_pass (C := (f56_C_r14 k R_l0)) (fun _ => rfl)) (ap_cons _ (f56_f_r14 k R_l0))))))
noncomputable def f56_F_l0 (k : Nat) (G_l0 G_r13 G_b1 G_r14 G_c15 : f56_S) : f56_L := .c (f56_p 4072) 0 :: .c (f56_p 8146) 0 :: .j (fun σ => f56_a k (.c (f56_p 65176) 1 :: .c (f56_p 260708) 1 :: .j G_r13 :: f56_F_r13 k G_l0 G_b1 G_r14 G_c15) .nx σ) :: f56_F_b1 k G_l0
theorem f56_f_l0 (k : Nat) (R_l0 : f56_S) : f56_a k (f56_Q_l0 k R_l0) = f56_a k (f56_F_l0 k R_l0 (f56_C_r13 k R_l0) (f56_C_b1 k R_l0) (f56_C_r14 k R_l0) (f56_C_c15 k R_l0)) := (Eq.trans ap_sq (ap_cons _ (Eq.trans ap_sq (ap_cons _ (Eq.trans ap_sq (Eq.trans (ap_bl 1) (Eq.trans (ap_j (Eq.trans ap_sq (ap_cons _ (Eq.trans ap_sq (Eq.trans ap_sq (ap_cons _ (Eq.trans (ap_pass (C := (f56_C_r13 k R_l0)) (fun _ => rfl)) (ap_cons _ (f56_f_r13 k R_l0))))))))) (ap_cons _ (f56_f_b1 k R_l0)))))))))
def f56_entry_B (k : Nat) (g_r4 : f56_t_r4) (a0 : (Int × Td19)) (a1 : Int) (a2 : Int) (a3 : Int) : Option ((List Int) × Int × Int × Unit) := ((f79 k (a0.1, (a0.2.1, a0.2.2)) ([a1, a2])).bind fun r1 => (if ¬ (r1.1 = 0) then some ([], 0, r1.1, ()) else (if a3 < 0 then (g_r4 a0.1 a0.2.1 a0.2.2 a1 a2 true a3) else (g_r4 a0.1 a0.2.1 a0.2.2 a1 a2 (decide (1073741824 < a3)) a3))))
def f56_r4_B (k : Nat) (g_l0 : f56_t_l0) (y4_0 : Int) (y4_1 : Int) (y4_2 : (List (Int × (Int × (Int × (Int × Int)))))) (x1 : Int) (x2 : Int) (x29 : Bool) (x3 : Int) : Option ((List Int) × Int × Int × Unit) := (if x29 = true then some ([], 0, 1, ()) else (if x1 = x2 then some ([], x3, 0, ()) else ((f80 k (y4_0, (y4_1, y4_2)) x1 x3).bind fun r1 => (g_l0 r1.1 y4_0 y4_1 y4_2 (-1) x2 (y4_2.length : Int) 0))))
def f56_l0_B (k : Nat) (g_r13 : f56_t_r13) (y37 : (List (Option (List Int)))) (y4_0 : Int) (y4_1 : Int) (y4_2 : (List (Int × (Int × (Int × (Int × Int)))))) (x13 : Int) (x2 : Int) (x40 : Int) (x41 : Int) : Option ((List Int) × Int × Int × Unit) := (if x41 < x40 then (if 0 ≤ x41 then (if x41 < (y4_2.length : Int) then (if ¬ ((((y4_2.getD (x41).toNat (0, (0, (0, (0, 0))))).2).1) = x2) then (g_r13 ((y4_2.getD (x41).toNat (0, (0, (0, (0, 0))))).1) (((y4_2.getD (x41).toNat (0, (0, (0, (0, 0))))).2).1) ((((y4_2.getD (x41).toNat (0, (0, (0, (0, 0))))).2).2).1) (((((y4_2.getD (x41).toNat (0, (0, (0, (0, 0))))).2).2).2).1) (((((y4_2.getD (x41).toNat (0, (0, (0, (0, 0))))).2).2).2).2) y37 y4_0 y4_1 y4_2 x13 x41 x2 x40 true) else (if 0 ≤ x41 then (if x41 < (y37.length : Int) then (g_r13 ((y4_2.getD (x41).toNat (0, (0, (0, (0, 0))))).1) (((y4_2.getD (x41).toNat (0, (0, (0, (0, 0))))).2).1) ((((y4_2.getD (x41).toNat (0, (0, (0, (0, 0))))).2).2).1) (((((y4_2.getD (x41).toNat (0, (0, (0, (0, 0))))).2).2).2).1) (((((y4_2.getD (x41).toNat (0, (0, (0, (0, 0))))).2).2).2).2) y37 y4_0 y4_1 y4_2 x13 x41 x2 x40 (decide (isNilO (y37.getD ((x41).toNat) none) = true))) else none) else none)) else none) else none) else (if x13 < 0 then some ([], 0, 17, ()) else (if 0 ≤ x13 then (if x13 < (y37.length : Int) then (if 0 ≤ x13 then (if x13 < (y4_2.length : Int) then some (slL true (y37.getD ((x13).toNat) none), ((((y4_2.getD (x13).toNat (0, (0, (0, (0, 0))))).2).2).2).1, 0, ()) else none) else none) else none) else none)))
def f56_r13_B (k : Nat) (g_b1 : f56_t_b1) (g_r14 : f56_t_r14) (y15_0 : Int) (y15_1 : Int) (y15_2 : Int) (y15_3 : Int) (y15_4 : Int) (y37 : (List (Option (List Int)))) (y4_0 : Int) (y4_1 : Int) (y4_2 : (List (Int × (Int × (Int × (Int × Int)))))) (x13 : Int) (x14 : Int) (x2 : Int) (x40 : Int) (x56 : Bool) : Option ((List Int) × Int × Int × Unit) := (if x56 = true then (g_b1 y37 y4_0 y4_1 y4_2 x13 x2 x40 x14) else (if x13 < 0 then (g_r14 y37 y4_0 y4_1 y4_2 true x13 x14 x2 x40) else (if 0 ≤ x13 then (if x13 < (y4_2.length : Int) then (if y15_3 < (((((y4_2.getD (x13).toNat (0, (0, (0, (0, 0))))).2).2).2).1) then (g_r14 y37 y4_0 y4_1 y4_2 true x13 x14 x2 x40) else (if 0 ≤ x13 then (if x13 < (y4_2.length : Int) then (if y15_3 = (((((y4_2.getD (x13).toNat (0, (0, (0, (0, 0))))).2).2).2).1) then (if 0 ≤ x14 then (if x14 < (y37.length : Int) then (if 0 ≤ x13 then (if x13 < (y37.length : Int) then (if ((slL true (y37.getD ((x14).toNat) none)).length : Int) < ((slL true (y37.getD ((x13).toNat) none)).length : Int) then (g_r14 y37 y4_0 y4_1 y4_2 true x13 x14 x2 x40) else (if 0 ≤ x14 then (if x14 < (y37.length : Int) then (if 0 ≤ x13 then (if x13 < (y37.length : Int) then (if ((slL true (y37.getD ((x14).toNat) none)).length : Int) = ((slL true (y37.getD ((x13).toNat) none)).length : Int) then (if 0 ≤ x14 then (if x14 < (y37.length : Int) then (if 0 ≤ x13 then (if x13 < (y37.length : Int) then ((f81 k (slL true (y37.getD ((x14).toNat) none)) (slL true (y37.getD ((x13).toNat) none))).bind fun r1 => (g_r14 y37 y4_0 y4_1 y4_2 (decide (r1.1 < 0)) x13 x14 x2 x40)) else none) else none) else none) else none) else (g_r14 y37 y4_0 y4_1 y4_2 false x13 x14 x2 x40)) else none) else none) else none) else none)) else none) else none) else none) else none) else (g_r14 y37 y4_0 y4_1 y4_2 false x13 x14 x2 x40)) else none) else none)) else none) else none)))
def f56_b1_B (k : Nat) (g_l0 : f56_t_l0) (y37 : (List (Option (List Int)))) (y4_0 : Int) (y4_1 : Int) (y4_2 : (List (Int × (Int × (Int × (Int × Int)))))) (x13 : Int) (x2 : Int) (x40 : Int) (x41 : Int) : Option ((List Int) × Int × Int × Unit) := (g_l0 y37 y4_0 y4_1 y4_2 x13 x2 x40 (w64 (x41 + 1)))
def f56_r14_B (k : Nat) (g_c15 : f56_t_c15) (y37 : (List (Option (List Int)))) (y4_0 : Int) (y4_1 : Int) (y4_2 : (List (Int × (Int × (Int × (Int × Int)))))) (x118 : Bool) (x13 : Int) (x14 : Int) (x2 : Int) (x40 : Int) : Option ((List Int) × Int × Int × Unit) := (if x118 = true then (g_c15 y37 y4_0 y4_1 y4_2 x14 x2 x40 x14) else (g_c15 y37 y4_0 y4_1 y4_2 x13 x2 x40 x14))
def f56_c15_B (k : Nat) (g_b1 : f56_t_b1) (y37 : (List (Option (List Int)))) (y4_0 : Int) (y4_1 : Int) (y4_2 : (List (Int × (Int × (Int × (Int × Int)))))) (x13 : Int) (x2 : Int) (x40 : Int) (x41 : Int) : Option ((List Int) × Int × Int × Unit) := (g_b1 y37 y4_0 y4_1 y4_2 x13 x2 x40 x41)
theorem f56_b1_P (k : Nat) (G_l0 : f56_S) : f56_o_b1 (fun σ => f56_a k (f56_F_b1 k G_l0) .nx σ) = f56_b1_B k (f56_o_l0 G_l0) := by kernel_rfl
def f56_b1 (k : Nat) (r_l0 : f56_t_l0) : f56_t_b1 := f56_b1_B k r_l0
theorem f56_b1_E (k : Nat) (R_l0 : f56_S) : f56_o_b1 (f56_C_b1 k R_l0) = f56_b1 k (f56_o_l0 R_l0) :=
  Eq.trans (congrArg f56_o_b1 (ap_fn (f56_f_b1 k R_l0))) ((f56_b1_P k R_l0).trans (by rfl))
theorem f56_c15_P (k : Nat) (G_l0 G_b1 : f56_S) : f56_o_c15 (fun σ => f56_a k (f56_F_c15 k G_l0 G_b1) .nx σ) = f56_c15_B k (f56_o_b1 G_b1) := by kernel_rfl
def f56_c15 (k : Nat) (r_l0 : f56_t_l0) : f56_t_c15 := f56_c15_B k (f56_b1 k r_l0)
theorem f56_c15_E (k : Nat) (R_l0 : f56_S) : f56_o_c15 (f56_C_c15 k R_l0) = f56_c15 k (f56_o_l0 R_l0) :=
  Eq.trans (congrArg f56_o_c15 (ap_fn (f56_f_c15 k R_l0))) ((f56_c15_P k R_l0 (f56_C_b1 k R_l0)).trans (by rw [f56_b1_E k R_l0] <;> rfl))
theorem f56_r14_P (k : Nat) (G_l0 G_b1 G_c15 : f56_S) : f56_o_r14 (fun σ => f56_a k (f56_F_r14 k G_l0 G_b1 G_c15) .nx σ) = f56_r14_B k (f56_o_c15 G_c15) := by kernel_rfl
def f56_r14 (k : Nat) (r_l0 : f56_t_l0) : f56_t_r14 := f56_r14_B k (f56_c15 k r_l0)
theorem f56_r14_E (k : Nat) (R_l0 : f56_S) : f56_o_r14 (f56_C_r14 k R_l0) = f56_r14 k (f56_o_l0 R_l0) :=
  Eq.trans (congrArg f56_o_r14 (ap_fn (f56_f_r14 k R_l0))) ((f56_r14_P k R_l0 (f56_C_b1 k R_l0) (f56_C_c15 k R_l0)).trans (by rw [f56_c15_E k R_l0] <;> rfl))
theorem f56_r13_P (k : Nat) (G_l0 G_b1 G_r14 G_c15 : f56_S) : f56_o_r13 (fun σ => f56_a k (f56_F_r13 k G_l0 G_b1 G_r14 G_c15) .nx σ) = f56_r13_B k (f56_o_b1 G_b1) (f56_o_r14 G_r14) := by kernel_rfl
def f56_r13 (k : Nat) (r_l0 : f56_t_l0) : f56_t_r13 := f56_r13_B k (f56_b1 k r_l0) (f56_r14 k r_l0)
theorem f56_r13_E (k : Nat) (R_l0 : f56_S) : f56_o_r13 (f56_C_r13 k R_l0) = f56_r13 k (f56_o_l0 R_l0) :=
  Eq.trans (congrArg f56_o_r13 (ap_fn (f56_f_r13 k R_l0))) ((f56_r13_P k R_l0 (f56_C_b1 k R_l0) (f56_C_r14 k R_l0) (f56_C_c15 k R_l0)).trans (by rw [f56_b1_E k R_l0, f56_r14_E k R_l0] <;> rfl))
theorem f56_l0_P (k : Nat) (G_l0 G_r13 G_b1 G_r14 G_c15 : f56_S) : f56_o_l0 (fun σ => f56_a k (f56_F_l0 k G_l0 G_r13 G_b1 G_r14 G_c15) .nx σ) = f56_l0_B k (f56_o_r13 G_r13) := by kernel_rfl
def f56_l0 (k : Nat) : Nat → f56_t_l0
  | 0 => fun _ _ _ _ _ _ _ _ => none
  | n + 1 => f56_l0_B k (f56_r13 k (f56_l0 k n))
theorem f56_l0_E (k : Nat) : ∀ n, f56_o_l0 (f56_C_l0 k n) = f56_l0 k n
  | 0 => rfl
  | n + 1 =>
    Eq.trans (congrArg f56_o_l0 (Eq.trans (b := fun σ => f56_a k (f56_Q_l0 k (f56_C_l0 k n)) .nx σ) (by kernel_rfl) (ap_fn (f56_f_l0 k (f56_C_l0 k n))))) ((f56_l0_P k (f56_C_l0 k n) (f56_C_r13 k (f56_C_l0 k n)) (f56_C_b1 k (f56_C_l0 k n)) (f56_C_r14 k (f56_C_l0 k n)) (f56_C_c15 k (f56_C_l0 k n))).trans (by rw [f56_r13_E k (f56_C_l0 k n), f56_l0_E k n] <;> rfl))
theorem f56_r4_P (k : Nat) (G_l0 : f56_S) : f56_o_r4 (fun σ => f56_a k (f56_F_r4 k G_l0) .nx σ) = f56_r4_B k (f56_o_l0 G_l0) := by kernel_rfl
def f56_r4 (k : Nat) : f56_t_r4 := f56_r4_B k (f56_l0 k k)
theorem f56_r4_E (k : Nat) : f56_o_r4 (f56_C_r4 k) = f56_r4 k :=
  Eq.trans (congrArg f56_o_r4 (ap_fn (f56_f_r4 k))) ((f56_r4_P k (f56_C_l0 k k)).trans (by rw [f56_l0_E k k] <;> rfl))
theorem f56_entry_P (k : Nat) (G_r4 G_l0 : f56_S) (xs : DL f56_sig) : f56_a k (.c (f56_p 2) 0 :: .c (f56_p 6) 0 :: .c (f56_p 28) 0 :: .j G_r4 :: f56_F_r4 k G_l0) .nx (σ0 133 400 f56_sig xs) = f56_entry_B k (f56_o_r4 G_r4) xs.1 xs.2.1 xs.2.2.1 xs.2.2.2.1 := by kernel_rfl
def f56 (k : Nat) (a0 : (Int × Td19)) (a1 : Int) (a2 : Int) (a3 : Int) : Option ((List Int) × Int × Int × Unit) := f56_entry_B k (f56_r4 k) a0 a1 a2 a3
theorem f56_fe (k : Nat) : f56_a k [.c (f56_p 1) 0] = f56_a k (.c (f56_p 2) 0 :: .c (f56_p 6) 0 :: .c (f56_p 28) 0 :: .j (f56_C_r4 k) :: f56_F_r4 k (f56_C_l0 k k)) := (Eq.trans ap_sq (ap_cons _ (Eq.trans ap_sq (ap_cons _ (Eq.trans ap_sq (Eq.trans ap_sq (ap_cons _ (Eq.trans (ap_pass (C := (f56_C_r4 k)) (fun _ => rfl)) (ap_cons _ (f56_f_r4 k))))))))))
theorem f56_eq (k : Nat) (xs : DL f56_sig) : den T f56_Y (f56_E k) f56_A k f56_c 0 (σ0 133 400 f56_sig xs) (Kfin T f56_rs f56_ts) = f56 k xs.1 xs.2.1 xs.2.2.1 xs.2.2.2.1 :=
  Eq.trans (Eq.trans den_sb (ap_at (f56_fe k) _)) ((f56_entry_P k (f56_C_r4 k) (f56_C_l0 k k) xs).trans (by rw [f56_r4_E k] <;> rfl))
noncomputable def f56_con (k : Nat) : Con := ⟨f56_sig, f56_rs, fun xs => f56 k xs.1 xs.2.1 xs.2.2.1 xs.2.2.2.1⟩
theorem f56_ok (k : Nat) : PureOK Try.prog 56 f56_sig f56_rs (fun xs => f56 k xs.1 xs.2.1 xs.2.2.1 xs.2.2.2.1) :=
  (pure_of_den (k := k) (A := f56_A) (T := T) (Y := f56_Y) (E := f56_E k) (M := 400) (ts := f56_ts) T_ok ⟨f79_ok k, f80_ok k, f81_ok k, trivial⟩ ⟨f79_ent, f80_ent, f81_ent, trivial⟩ mixed (f := 56) (fn := Try.f56) (c := f56_c) (by kernel_rfl) (by kernel_rfl) (by kernel_rfl) (by decide) (by kernel_rfl)).congr fun xs => (f56_eq k xs).symm
theorem f56_ent : Ent Try.prog 56 := fun args w => by kernel_rfl
/-! ### terrier/terrkeep4.planned: function 26 -/
noncomputable def f26_c : Code := Try.f26.body.getD .skip
noncomputable abbrev f26_p (n : Nat) : Code := sb f26_c n
abbrev f26_sig : List PT := []
abbrev f26_rs : List RT := [.d false .bool]
abbrev f26_ts : List RV := [.tmp 0]
abbrev f26_S := St → Option (RDL f26_rs)
abbrev f26_L := List (Fr (RDL f26_rs))
def f26_Y : Tys := [(3, (.int .i64)), (94, Tq14)]
noncomputable def f26_E (k : Nat) : Env := [(20, .c (f20_con k)), (56, .c (f56_con k))]
def f26_A : Ann := { regs := [(3, { slots := [(0, .bool)] })] }
noncomputable abbrev f26_a (k : Nat) (F : f26_L) : Kont (RDL f26_rs) := ap T f26_Y (f26_E k) f26_A k (Kfin T f26_rs f26_ts) F
def f26_s_r3 (x0 : Bool) : St := mkS 25 80 [(0, aB x0)] []
abbrev f26_t_r3 := Bool → Option (Bool × Unit)
abbrev f26_o_r3 (R : f26_S) : f26_t_r3 := (fun x0 => R (f26_s_r3 x0))
noncomputable def f26_Q_r3 (k : Nat) : f26_L := [.c (f26_p 31) 0]
noncomputable def f26_C_r3 (k : Nat) : f26_S := fun σ => f26_a k (f26_Q_r3 k) .nx σ
noncomputable def f26_F_r3 (k : Nat) : f26_L := .c (f26_p 31) 0 :: []
theorem f26_f_r3 (k : Nat) : f26_a k (f26_Q_r3 k) = f26_a k (f26_F_r3 k) := (ap_cons _ rfl)
def f26_entry_B (k : Nat) (g_r3 : f26_t_r3)  : Option (Bool × Unit) := ((f56 k (2, (0, [(0, (1, (3, (8, 0))))])) 0 1 2).bind fun r1 => (if r1.2.2.1 = 0 then (if r1.2.1 = 8 then ((f20 k r1.1 ([0])).bind fun r2 => (g_r3 (decide (r2.1 = true)))) else (g_r3 false)) else (g_r3 false)))
def f26_r3_B (k : Nat) (x0 : Bool) : Option (Bool × Unit) := some (decide (x0 = true), ())
theorem f26_r3_P (k : Nat) : f26_o_r3 (fun σ => f26_a k (f26_F_r3 k) .nx σ) = f26_r3_B k := by kernel_rfl
def f26_r3 (k : Nat) : f26_t_r3 := f26_r3_B k
theorem f26_r3_E (k : Nat) : f26_o_r3 (f26_C_r3 k) = f26_r3 k :=
  Eq.trans (congrArg f26_o_r3 (ap_fn (f26_f_r3 k))) ((f26_r3_P k).trans (by rfl))
theorem f26_entry_P (k : Nat) (G_r3 : f26_S) (xs : DL f26_sig) : f26_a k (.c (f26_p 2) 0 :: .c (f26_p 6) 0 :: .c (f26_p 14) 0 :: .c (f26_p 30) 0 :: .j G_r3 :: f26_F_r3 k) .nx (σ0 25 80 f26_sig xs) = f26_entry_B k (f26_o_r3 G_r3)  := by kernel_rfl
def f26 (k : Nat)  : Option (Bool × Unit) := f26_entry_B k (f26_r3 k) 
theorem f26_fe (k : Nat) : f26_a k [.c (f26_p 1) 0] = f26_a k (.c (f26_p 2) 0 :: .c (f26_p 6) 0 :: .c (f26_p 14) 0 :: .c (f26_p 30) 0 :: .j (f26_C_r3 k) :: f26_F_r3 k) := (Eq.trans ap_sq (ap_cons _ (Eq.trans ap_sq (ap_cons _ (Eq.trans ap_sq (ap_cons _ (Eq.trans ap_sq (ap_cons _ (Eq.trans (ap_pass (C := (f26_C_r3 k)) (fun _ => rfl)) (ap_cons _ (f26_f_r3 k)))))))))))
theorem f26_eq (k : Nat) (xs : DL f26_sig) : den T f26_Y (f26_E k) f26_A k f26_c 0 (σ0 25 80 f26_sig xs) (Kfin T f26_rs f26_ts) = f26 k  :=
  Eq.trans (Eq.trans den_sb (ap_at (f26_fe k) _)) ((f26_entry_P k (f26_C_r3 k) xs).trans (by rw [f26_r3_E k] <;> rfl))
noncomputable def f26_con (k : Nat) : Con := ⟨f26_sig, f26_rs, fun xs => f26 k ⟩
theorem f26_ok (k : Nat) : PureOK Try.prog 26 f26_sig f26_rs (fun xs => f26 k ) :=
  (pure_of_den (k := k) (A := f26_A) (T := T) (Y := f26_Y) (E := f26_E k) (M := 80) (ts := f26_ts) T_ok ⟨f20_ok k, f56_ok k, trivial⟩ ⟨f20_ent, f56_ent, trivial⟩ mixed (f := 26) (fn := Try.f26) (c := f26_c) (by kernel_rfl) (by kernel_rfl) (by kernel_rfl) (by decide) (by kernel_rfl)).congr fun xs => (f26_eq k xs).symm
theorem f26_ent : Ent Try.prog 26 := fun args w => by kernel_rfl
/-! ### terrier/cost.Const: function 27 -/
noncomputable def f27_c : Code := Try.f27.body.getD .skip
noncomputable abbrev f27_p (n : Nat) : Code := sb f27_c n
abbrev f27_sig : List PT := [(false, (.int .i64))]
abbrev f27_rs : List RT := [.new Tq2, .d false (.int .i64)]
abbrev f27_ts : List RV := [.tmp 2, .tmp 3]
abbrev f27_S := St → Option (RDL f27_rs)
abbrev f27_L := List (Fr (RDL f27_rs))
def f27_Y : Tys := [(88, Tq2)]
noncomputable def f27_E (k : Nat) : Env := []
def f27_A : Ann := { regs := [(1, { slots := [(0, .id), (9, .bool)] })] }
noncomputable abbrev f27_a (k : Nat) (F : f27_L) : Kont (RDL f27_rs) := ap T f27_Y (f27_E k) f27_A k (Kfin T f27_rs f27_ts) F
def f27_s_r1 (x0 : Int) (x9 : Bool) : St := mkS 13 48 [(0, aI x0), (9, aB x9)] []
abbrev f27_t_r1 := Int → Bool → Option ((List (Int × Int)) × Int × Unit)
abbrev f27_o_r1 (R : f27_S) : f27_t_r1 := (fun x0 x9 => R (f27_s_r1 x0 x9))
noncomputable def f27_Q_r1 (k : Nat) : f27_L := [.c (f27_p 13) 0, .c (f27_p 7) 0]
noncomputable def f27_C_r1 (k : Nat) : f27_S := fun σ => f27_a k (f27_Q_r1 k) .nx σ
noncomputable def f27_F_r1 (k : Nat) : f27_L := .c (f27_p 13) 0 :: .c (f27_p 7) 0 :: []
theorem f27_f_r1 (k : Nat) : f27_a k (f27_Q_r1 k) = f27_a k (f27_F_r1 k) := (ap_cons _ (ap_cons _ rfl))
def f27_entry_B (k : Nat) (g_r1 : f27_t_r1) (a0 : Int) : Option ((List (Int × Int)) × Int × Unit) := (if a0 < 0 then (g_r1 a0 true) else (g_r1 a0 (decide (1073741824 < a0))))
def f27_r1_B (k : Nat) (x0 : Int) (x9 : Bool) : Option ((List (Int × Int)) × Int × Unit) := (if x9 = true then some ([], 1, ()) else some ([(0, x0)], 0, ()))
theorem f27_r1_P (k : Nat) : f27_o_r1 (fun σ => f27_a k (f27_F_r1 k) .nx σ) = f27_r1_B k := by kernel_rfl
def f27_r1 (k : Nat) : f27_t_r1 := f27_r1_B k
theorem f27_r1_E (k : Nat) : f27_o_r1 (f27_C_r1 k) = f27_r1 k :=
  Eq.trans (congrArg f27_o_r1 (ap_fn (f27_f_r1 k))) ((f27_r1_P k).trans (by rfl))
theorem f27_entry_P (k : Nat) (G_r1 : f27_S) (xs : DL f27_sig) : f27_a k (.c (f27_p 2) 0 :: .c (f27_p 12) 0 :: .j G_r1 :: f27_F_r1 k) .nx (σ0 13 48 f27_sig xs) = f27_entry_B k (f27_o_r1 G_r1) xs.1 := by kernel_rfl
def f27 (k : Nat) (a0 : Int) : Option ((List (Int × Int)) × Int × Unit) := f27_entry_B k (f27_r1 k) a0
theorem f27_fe (k : Nat) : f27_a k [.c (f27_p 1) 0] = f27_a k (.c (f27_p 2) 0 :: .c (f27_p 12) 0 :: .j (f27_C_r1 k) :: f27_F_r1 k) := (Eq.trans ap_sq (ap_cons _ (Eq.trans ap_sq (Eq.trans ap_sq (ap_cons _ (Eq.trans (ap_pass (C := (f27_C_r1 k)) (fun _ => rfl)) (ap_cons _ (f27_f_r1 k))))))))
theorem f27_eq (k : Nat) (xs : DL f27_sig) : den T f27_Y (f27_E k) f27_A k f27_c 0 (σ0 13 48 f27_sig xs) (Kfin T f27_rs f27_ts) = f27 k xs.1 :=
  Eq.trans (Eq.trans den_sb (ap_at (f27_fe k) _)) ((f27_entry_P k (f27_C_r1 k) xs).trans (by rw [f27_r1_E k] <;> rfl))
noncomputable def f27_con (k : Nat) : Con := ⟨f27_sig, f27_rs, fun xs => f27 k xs.1⟩
theorem f27_ok (k : Nat) : PureOK Try.prog 27 f27_sig f27_rs (fun xs => f27 k xs.1) :=
  (pure_of_den (k := k) (A := f27_A) (T := T) (Y := f27_Y) (E := f27_E k) (M := 48) (ts := f27_ts) T_ok trivial trivial mixed (f := 27) (fn := Try.f27) (c := f27_c) (by kernel_rfl) (by kernel_rfl) (by kernel_rfl) (by decide) (by kernel_rfl)).congr fun xs => (f27_eq k xs).symm
theorem f27_ent : Ent Try.prog 27 := fun args w => by kernel_rfl
/-! ### terrier/route.valid: function 57 -/
noncomputable def f57_c : Code := Try.f57.body.getD .skip
noncomputable abbrev f57_p (n : Nat) : Code := sb f57_c n
abbrev f57_sig : List PT := [(true, Tq9), (false, Tq1)]
abbrev f57_rs : List RT := [.d false (.int .i64)]
abbrev f57_ts : List RV := [.tmp 4]
abbrev f57_S := St → Option (RDL f57_rs)
abbrev f57_L := List (Fr (RDL f57_rs))
def f57_Y : Tys := []
noncomputable def f57_E (k : Nat) : Env := [(49, .c (f49_con k))]
def f57_A : Ann := { loops := [(0, { slots := [(2, .id), (13, .val false (.int .i64)), (14, .id), (15, .id)], keys := [(2, [.val false Tq2, .val false Tq6, .val false Tq2])] })], regs := [(7, { slots := [(2, .id), (13, .val false (.int .i64)), (14, .id), (15, .id), (27, .bool)], keys := [(2, [.val false Tq2, .val false Tq6, .val false Tq2])] })] }
noncomputable abbrev f57_a (k : Nat) (F : f57_L) : Kont (RDL f57_rs) := ap T f57_Y (f57_E k) f57_A k (Kfin T f57_rs f57_ts) F
def f57_s_l0 (y2_0 : (List (Int × Int))) (y2_1 : (List (Int × (Int × (Int × Int))))) (y2_2 : (List (Int × Int))) (x13 : (List Int)) (x14 : Int) (x15 : Int) : St := mkS 29 96 [(2, aP 2), (13, aV (.int .i64) x13), (14, aI x14), (15, aI x15)] [(2, .box [cV Tq2 y2_0, cV Tq6 y2_1, cV Tq2 y2_2])]
abbrev f57_t_l0 := (List (Int × Int)) → (List (Int × (Int × (Int × Int)))) → (List (Int × Int)) → (List Int) → Int → Int → Option (Int × Unit)
abbrev f57_o_l0 (R : f57_S) : f57_t_l0 := (fun y2_0 y2_1 y2_2 x13 x14 x15 => R (f57_s_l0 y2_0 y2_1 y2_2 x13 x14 x15))
noncomputable def f57_Q_l0 (k : Nat) (R_l0 : f57_S) : f57_L := [.c (f57_p 116) 0, .j (fun σ => R_l0 (cut f57_A.loops 0 σ)), .blk 0, .c (f57_p 15) 0]
noncomputable def f57_C_l0 (k : Nat) (n : Nat) (σ : St) : Option (RDL f57_rs) := loopK (fun σ K => den T f57_Y (f57_E k) f57_A k (f57_p 116) 0 σ K) (cut f57_A.loops 0) (f57_a k [.blk 0, .c (f57_p 15) 0]) n σ
def f57_s_r7 (y2_0 : (List (Int × Int))) (y2_1 : (List (Int × (Int × (Int × Int))))) (y2_2 : (List (Int × Int))) (x13 : (List Int)) (x14 : Int) (x15 : Int) (x27 : Bool) : St := mkS 29 96 [(2, aP 2), (13, aV (.int .i64) x13), (14, aI x14), (15, aI x15), (27, aB x27)] [(2, .box [cV Tq2 y2_0, cV Tq6 y2_1, cV Tq2 y2_2])]
abbrev f57_t_r7 := (List (Int × Int)) → (List (Int × (Int × (Int × Int)))) → (List (Int × Int)) → (List Int) → Int → Int → Bool → Option (Int × Unit)
abbrev f57_o_r7 (R : f57_S) : f57_t_r7 := (fun y2_0 y2_1 y2_2 x13 x14 x15 x27 => R (f57_s_r7 y2_0 y2_1 y2_2 x13 x14 x15 x27))
noncomputable def f57_Q_r7 (k : Nat) (R_l0 : f57_S) : f57_L := [.c (f57_p 7475) 1, .blk 1, .c (f57_p 935) 0, .j (fun σ => R_l0 (cut f57_A.loops 0 σ)), .blk 0, .c (f57_p 15) 0]
noncomputable def f57_C_r7 (k : Nat) (R_l0 : f57_S) : f57_S := fun σ => f57_a k (f57_Q_r7 k R_l0) .nx σ
noncomputable def f57_F_r7 (k : Nat) (G_l0 : f57_S) : f57_L := .c (f57_p 7475) 1 :: .blk 1 :: .c (f57_p 935) 0 :: .j (fun σ => G_l0 (cut f57_A.loops 0 σ)) :: .blk 0 :: .c (f57_p 15) 0 :: []
theorem f57_f_r7 (k : Nat) (R_l0 : f57_S) : f57_a k (f57_Q_r7 k R_l0) = f57_a k (f57_F_r7 k R_l0) := (ap_cons _ (ap_cons _ (ap_cons _ (ap_cons _ (ap_cons _ (ap_cons _ rfl))))))
noncomputable def f57_F_l0 (k : Nat) (G_l0 G_r7 : f57_S) : f57_L := .c (f57_p 232) 0 :: .c (f57_p 466) 0 :: .j (fun σ => f57_a k (.c (f57_p 3736) 1 :: .c (f57_p 7474) 1 :: .j G_r7 :: f57_F_r7 k G_l0) .nx σ) :: .c (f57_p 935) 0 :: .j (fun σ => G_l0 (cut f57_A.loops 0 σ)) :: .blk 0 :: .c (f57_p 15) 0 :: []
theorem f57_f_l0 (k : Nat) (R_l0 : f57_S) : f57_a k (f57_Q_l0 k R_l0) = f57_a k (f57_F_l0 k R_l0 (f57_C_r7 k R_l0)) := (Eq.trans ap_sq (ap_cons _ (Eq.trans ap_sq (ap_cons _ (Eq.trans ap_sq (Eq.trans (ap_bl 1) (Eq.trans (ap_j (Eq.trans ap_sq (ap_cons _ (Eq.trans ap_sq (ap_cons _ (Eq.trans (ap_pass (C := (f57_C_r7 k R_l0)) (fun _ => rfl)) (ap_cons _ (f57_f_r7 k R_l0)))))))) (ap_cons _ (ap_cons _ (ap_cons _ (ap_cons _ (ap_cons _ rfl))))))))))))
def f57_entry_B (k : Nat) (g_l0 : f57_t_l0) (a0 : Td12) (a1 : (List Int)) : Option (Int × Unit) := ((f49 k (a0.1, (a0.2.1, a0.2.2))).bind fun r1 => (if ¬ (r1.1 = 0) then some (r1.1, ()) else (g_l0 a0.1 a0.2.1 a0.2.2 a1 (a1.length : Int) 0)))
def f57_l0_B (k : Nat) (g_r7 : f57_t_r7) (y2_0 : (List (Int × Int))) (y2_1 : (List (Int × (Int × (Int × Int))))) (y2_2 : (List (Int × Int))) (x13 : (List Int)) (x14 : Int) (x15 : Int) : Option (Int × Unit) := (if x15 < x14 then (if 0 ≤ x15 then (if x15 < (x13.length : Int) then (if (x13.getD (x15).toNat 0) < 0 then (g_r7 y2_0 y2_1 y2_2 x13 x14 x15 true) else (g_r7 y2_0 y2_1 y2_2 x13 x14 x15 (decide ((y2_0.length : Int) ≤ (x13.getD (x15).toNat 0))))) else none) else none) else some (0, ()))
def f57_r7_B (k : Nat) (g_l0 : f57_t_l0) (y2_0 : (List (Int × Int))) (y2_1 : (List (Int × (Int × (Int × Int))))) (y2_2 : (List (Int × Int))) (x13 : (List Int)) (x14 : Int) (x15 : Int) (x27 : Bool) : Option (Int × Unit) := (if x27 = true then some (1, ()) else (g_l0 y2_0 y2_1 y2_2 x13 x14 (w64 (x15 + 1))))
theorem f57_r7_P (k : Nat) (G_l0 : f57_S) : f57_o_r7 (fun σ => f57_a k (f57_F_r7 k G_l0) .nx σ) = f57_r7_B k (f57_o_l0 G_l0) := by kernel_rfl
def f57_r7 (k : Nat) (r_l0 : f57_t_l0) : f57_t_r7 := f57_r7_B k r_l0
theorem f57_r7_E (k : Nat) (R_l0 : f57_S) : f57_o_r7 (f57_C_r7 k R_l0) = f57_r7 k (f57_o_l0 R_l0) :=
  Eq.trans (congrArg f57_o_r7 (ap_fn (f57_f_r7 k R_l0))) ((f57_r7_P k R_l0).trans (by rfl))
theorem f57_l0_P (k : Nat) (G_l0 G_r7 : f57_S) : f57_o_l0 (fun σ => f57_a k (f57_F_l0 k G_l0 G_r7) .nx σ) = f57_l0_B k (f57_o_r7 G_r7) := by kernel_rfl
def f57_l0 (k : Nat) : Nat → f57_t_l0
  | 0 => fun _ _ _ _ _ _ => none
  | n + 1 => f57_l0_B k (f57_r7 k (f57_l0 k n))
theorem f57_l0_E (k : Nat) : ∀ n, f57_o_l0 (f57_C_l0 k n) = f57_l0 k n
  | 0 => rfl
  | n + 1 =>
    Eq.trans (congrArg f57_o_l0 (Eq.trans (b := fun σ => f57_a k (f57_Q_l0 k (f57_C_l0 k n)) .nx σ) (by kernel_rfl) (ap_fn (f57_f_l0 k (f57_C_l0 k n))))) ((f57_l0_P k (f57_C_l0 k n) (f57_C_r7 k (f57_C_l0 k n))).trans (by rw [f57_r7_E k (f57_C_l0 k n), f57_l0_E k n] <;> rfl))
theorem f57_entry_P (k : Nat) (G_l0 : f57_S) (xs : DL f57_sig) : f57_a k (.c (f57_p 2) 0 :: .c (f57_p 6) 0 :: .c (f57_p 28) 0 :: .j (fun σ => f57_a k (.j (fun σ => G_l0 (cut f57_A.loops 0 σ)) :: .blk 0 :: .c (f57_p 15) 0 :: []) .nx σ) :: .c (f57_p 15) 0 :: []) .nx (σ0 29 96 f57_sig xs) = f57_entry_B k (f57_o_l0 G_l0) xs.1 xs.2.1 := by kernel_rfl
def f57 (k : Nat) (a0 : Td12) (a1 : (List Int)) : Option (Int × Unit) := f57_entry_B k (f57_l0 k k) a0 a1
theorem f57_fe (k : Nat) : f57_a k [.c (f57_p 1) 0] = f57_a k (.c (f57_p 2) 0 :: .c (f57_p 6) 0 :: .c (f57_p 28) 0 :: .j (fun σ => f57_a k (.j (fun σ => (f57_C_l0 k k) (cut f57_A.loops 0 σ)) :: .blk 0 :: .c (f57_p 15) 0 :: []) .nx σ) :: .c (f57_p 15) 0 :: []) := (Eq.trans ap_sq (ap_cons _ (Eq.trans ap_sq (ap_cons _ (Eq.trans ap_sq (Eq.trans ap_sq (ap_cons _ (Eq.trans (ap_bl 0) (Eq.trans (ap_j (Eq.trans (ap_lp (C := (f57_C_l0 k)) (fun _ _ => rfl)) (ap_cons _ (ap_cons _ (ap_cons _ rfl))))) (ap_cons _ (ap_cons _ rfl)))))))))))
theorem f57_eq (k : Nat) (xs : DL f57_sig) : den T f57_Y (f57_E k) f57_A k f57_c 0 (σ0 29 96 f57_sig xs) (Kfin T f57_rs f57_ts) = f57 k xs.1 xs.2.1 :=
  Eq.trans (Eq.trans den_sb (ap_at (f57_fe k) _)) ((f57_entry_P k (f57_C_l0 k k) xs).trans (by rw [f57_l0_E k k] <;> rfl))
noncomputable def f57_con (k : Nat) : Con := ⟨f57_sig, f57_rs, fun xs => f57 k xs.1 xs.2.1⟩
theorem f57_ok (k : Nat) : PureOK Try.prog 57 f57_sig f57_rs (fun xs => f57 k xs.1 xs.2.1) :=
  (pure_of_den (k := k) (A := f57_A) (T := T) (Y := f57_Y) (E := f57_E k) (M := 96) (ts := f57_ts) T_ok ⟨f49_ok k, trivial⟩ ⟨f49_ent, trivial⟩ mixed (f := 57) (fn := Try.f57) (c := f57_c) (by kernel_rfl) (by kernel_rfl) (by kernel_rfl) (by decide) (by kernel_rfl)).congr fun xs => (f57_eq k xs).symm
theorem f57_ent : Ent Try.prog 57 := fun args w => by kernel_rfl
/-! ### terrier/net.Turn: function 63 -/
noncomputable def f63_c : Code := Try.f63.body.getD .skip
noncomputable abbrev f63_p (n : Nat) : Code := sb f63_c n
abbrev f63_sig : List PT := [(true, Tq9), (false, (.int .i64)), (false, (.int .i64))]
abbrev f63_rs : List RT := [.d false .bool]
abbrev f63_ts : List RV := [.tmp 6]
abbrev f63_S := St → Option (RDL f63_rs)
abbrev f63_L := List (Fr (RDL f63_rs))
def f63_Y : Tys := []
noncomputable def f63_E (k : Nat) : Env := [(46, .c (f46_con k)), (62, .c (f62_con k))]
def f63_A : Ann := { regs := [(1, { slots := [(6, .bool)] })] }
noncomputable abbrev f63_a (k : Nat) (F : f63_L) : Kont (RDL f63_rs) := ap T f63_Y (f63_E k) f63_A k (Kfin T f63_rs f63_ts) F
def f63_s_r1 (x6 : Bool) : St := mkS 39 128 [(6, aB x6)] []
abbrev f63_t_r1 := Bool → Option (Bool × Unit)
abbrev f63_o_r1 (R : f63_S) : f63_t_r1 := (fun x6 => R (f63_s_r1 x6))
noncomputable def f63_Q_r1 (k : Nat) : f63_L := [.c (f63_p 7) 0]
noncomputable def f63_C_r1 (k : Nat) : f63_S := fun σ => f63_a k (f63_Q_r1 k) .nx σ
noncomputable def f63_F_r1 (k : Nat) : f63_L := .c (f63_p 7) 0 :: []
theorem f63_f_r1 (k : Nat) : f63_a k (f63_Q_r1 k) = f63_a k (f63_F_r1 k) := (ap_cons _ rfl)
def f63_entry_B (k : Nat) (g_r1 : f63_t_r1) (a0 : Td12) (a1 : Int) (a2 : Int) : Option (Bool × Unit) := ((f62 k (a0.1, (a0.2.1, a0.2.2)) a1).bind fun r1 => (if r1.1 = true then ((f62 k (a0.1, (a0.2.1, a0.2.2)) a2).bind fun r2 => (if r2.1 = true then (if 0 ≤ a1 then (if a1 < (a0.2.1.length : Int) then (if 0 ≤ a2 then (if a2 < (a0.2.1.length : Int) then (if (((a0.2.1.getD (a1).toNat (0, (0, (0, 0)))).2).1) = ((a0.2.1.getD (a2).toNat (0, (0, (0, 0)))).1) then ((f46 k a0.2.2 (a1, a2)).bind fun r3 => (g_r1 (decide (¬ (r3.1 = true))))) else (g_r1 false)) else none) else none) else none) else none) else (g_r1 false))) else (g_r1 false)))
def f63_r1_B (k : Nat) (x6 : Bool) : Option (Bool × Unit) := some (decide (x6 = true), ())
theorem f63_r1_P (k : Nat) : f63_o_r1 (fun σ => f63_a k (f63_F_r1 k) .nx σ) = f63_r1_B k := by kernel_rfl
def f63_r1 (k : Nat) : f63_t_r1 := f63_r1_B k
theorem f63_r1_E (k : Nat) : f63_o_r1 (f63_C_r1 k) = f63_r1 k :=
  Eq.trans (congrArg f63_o_r1 (ap_fn (f63_f_r1 k))) ((f63_r1_P k).trans (by rfl))
theorem f63_entry_P (k : Nat) (G_r1 : f63_S) (xs : DL f63_sig) : f63_a k (.c (f63_p 2) 0 :: .c (f63_p 6) 0 :: .j G_r1 :: f63_F_r1 k) .nx (σ0 39 128 f63_sig xs) = f63_entry_B k (f63_o_r1 G_r1) xs.1 xs.2.1 xs.2.2.1 := by kernel_rfl
def f63 (k : Nat) (a0 : Td12) (a1 : Int) (a2 : Int) : Option (Bool × Unit) := f63_entry_B k (f63_r1 k) a0 a1 a2
theorem f63_fe (k : Nat) : f63_a k [.c (f63_p 1) 0] = f63_a k (.c (f63_p 2) 0 :: .c (f63_p 6) 0 :: .j (f63_C_r1 k) :: f63_F_r1 k) := (Eq.trans ap_sq (ap_cons _ (Eq.trans ap_sq (ap_cons _ (Eq.trans (ap_pass (C := (f63_C_r1 k)) (fun _ => rfl)) (ap_cons _ (f63_f_r1 k)))))))
theorem f63_eq (k : Nat) (xs : DL f63_sig) : den T f63_Y (f63_E k) f63_A k f63_c 0 (σ0 39 128 f63_sig xs) (Kfin T f63_rs f63_ts) = f63 k xs.1 xs.2.1 xs.2.2.1 :=
  Eq.trans (Eq.trans den_sb (ap_at (f63_fe k) _)) ((f63_entry_P k (f63_C_r1 k) xs).trans (by rw [f63_r1_E k] <;> rfl))
noncomputable def f63_con (k : Nat) : Con := ⟨f63_sig, f63_rs, fun xs => f63 k xs.1 xs.2.1 xs.2.2.1⟩
theorem f63_ok (k : Nat) : PureOK Try.prog 63 f63_sig f63_rs (fun xs => f63 k xs.1 xs.2.1 xs.2.2.1) :=
  (pure_of_den (k := k) (A := f63_A) (T := T) (Y := f63_Y) (E := f63_E k) (M := 128) (ts := f63_ts) T_ok ⟨f46_ok k, f62_ok k, trivial⟩ ⟨f46_ent, f62_ent, trivial⟩ mixed (f := 63) (fn := Try.f63) (c := f63_c) (by kernel_rfl) (by kernel_rfl) (by kernel_rfl) (by decide) (by kernel_rfl)).congr fun xs => (f63_eq k xs).symm
theorem f63_ent : Ent Try.prog 63 := fun args w => by kernel_rfl
/-! ### terrier/route.start: function 58 -/
noncomputable def f58_c : Code := Try.f58.body.getD .skip
noncomputable abbrev f58_p (n : Nat) : Code := sb f58_c n
abbrev f58_sig : List PT := [(true, Tq9)]
abbrev f58_rs : List RT := [.obj (.box [.d Tq9, .o, .d Tq22]) [.row Tq26]]
abbrev f58_ts : List RV := [.tmp 2]
abbrev f58_S := St → Option (RDL f58_rs)
abbrev f58_L := List (Fr (RDL f58_rs))
def f58_Y : Tys := [(3, (.int .i64)), (22, Tq30), (108, Tq26)]
noncomputable def f58_E (k : Nat) : Env := [(21, .c (f21_con k)), (63, .c (f63_con k))]
def f58_A : Ann := { loops := [(0, { slots := [(1, .id), (3, .id), (20, .val false Tq6), (21, .id), (22, .id)], keys := [(1, [.val false Tq2, .val false Tq6, .val false Tq2]), (12, []), (16, []), (18, [.val false Tq2, .val false Tq6, .val false Tq2, .id, .id])] }), (2, { slots := [(1, .id), (3, .id), (4, .id), (20, .val false Tq6), (21, .id), (22, .id), (30, .id), (31, .id), (32, .id)], keys := [(1, [.val false Tq2, .val false Tq6, .val false Tq2]), (12, []), (16, []), (18, [.val false Tq2, .val false Tq6, .val false Tq2, .id, .id]), (30, [])] })], blks := [(0, { unr := [16], slots := [(3, .id)], keys := [(12, []), (16, []), (18, [.val false Tq2, .val false Tq6, .val false Tq2, .id, .id])] })], conds := [(9, { slots := [(1, .id), (3, .id), (4, .id), (20, .val false Tq6), (21, .id), (22, .id), (30, .id), (31, .id), (32, .id)], keys := [(1, [.val false Tq2, .val false Tq6, .val false Tq2]), (12, []), (16, []), (18, [.val false Tq2, .val false Tq6, .val false Tq2, .id, .id]), (30, [])] })] }
noncomputable abbrev f58_a (k : Nat) (F : f58_L) : Kont (RDL f58_rs) := ap T f58_Y (f58_E k) f58_A k (Kfin T f58_rs f58_ts) F
def f58_s_l0 (y1_0 : (List (Int × Int))) (y1_1 : (List (Int × (Int × (Int × Int))))) (y1_2 : (List (Int × Int))) (y12 : (List (Int × (Int × (Int × (Bool × Bool)))))) (y16 : (List (List Int))) (x21 : Int) (x22 : Int) : St := mkS 59 192 [(1, aP 1), (3, aP 18), (20, aV Tq6 y1_1), (21, aI x21), (22, aI x22)] [(1, .box [cV Tq2 y1_0, cV Tq6 y1_1, cV Tq2 y1_2]), (12, .vec Tq26 y12), (16, .rows (.int .i64) y16 none), (18, .box [cV Tq2 y1_0, cV Tq6 y1_1, cV Tq2 y1_2, .own 12, .own 16])]
abbrev f58_t_l0 := (List (Int × Int)) → (List (Int × (Int × (Int × Int)))) → (List (Int × Int)) → (List (Int × (Int × (Int × (Bool × Bool))))) → (List (List Int)) → Int → Int → Option (((Td12 × Td27 × Unit) × (List (Int × Td29)) × Unit) × Unit)
abbrev f58_o_l0 (R : f58_S) : f58_t_l0 := (fun y1_0 y1_1 y1_2 y12 y16 x21 x22 => R (f58_s_l0 y1_0 y1_1 y1_2 y12 y16 x21 x22))
noncomputable def f58_Q_l0 (k : Nat) (R_l0 : f58_S) : f58_L := [.c (f58_p 116) 0, .j (fun σ => R_l0 (cut f58_A.loops 0 σ)), .blk 0, .c (f58_p 15) 0]
noncomputable def f58_C_l0 (k : Nat) (n : Nat) (σ : St) : Option (RDL f58_rs) := loopK (fun σ K => den T f58_Y (f58_E k) f58_A k (f58_p 116) 0 σ K) (cut f58_A.loops 0) (f58_a k [.blk 0, .c (f58_p 15) 0]) n σ
def f58_s_l2 (y1_0 : (List (Int × Int))) (y1_1 : (List (Int × (Int × (Int × Int))))) (y1_2 : (List (Int × Int))) (y12 : (List (Int × (Int × (Int × (Bool × Bool)))))) (y16 : (List (List Int))) (y30 : (List Int)) (x21 : Int) (x22 : Int) (x31 : Int) (x32 : Int) : St := mkS 59 192 [(1, aP 1), (3, aP 18), (4, aI x22), (20, aV Tq6 y1_1), (21, aI x21), (22, aI x22), (30, aO 30), (31, aI x31), (32, aI x32)] [(1, .box [cV Tq2 y1_0, cV Tq6 y1_1, cV Tq2 y1_2]), (12, .vec Tq26 y12), (16, .rows (.int .i64) y16 none), (18, .box [cV Tq2 y1_0, cV Tq6 y1_1, cV Tq2 y1_2, .own 12, .own 16]), (30, .vec (.int .i64) y30)]
abbrev f58_t_l2 := (List (Int × Int)) → (List (Int × (Int × (Int × Int)))) → (List (Int × Int)) → (List (Int × (Int × (Int × (Bool × Bool))))) → (List (List Int)) → (List Int) → Int → Int → Int → Int → Option (((Td12 × Td27 × Unit) × (List (Int × Td29)) × Unit) × Unit)
abbrev f58_o_l2 (R : f58_S) : f58_t_l2 := (fun y1_0 y1_1 y1_2 y12 y16 y30 x21 x22 x31 x32 => R (f58_s_l2 y1_0 y1_1 y1_2 y12 y16 y30 x21 x22 x31 x32))
noncomputable def f58_Q_l2 (k : Nat) (R_l0 R_l2 : f58_S) : f58_L := [.c (f58_p 29900) 2, .j (fun σ => R_l2 (cut f58_A.loops 2 σ)), .blk 2, .blk 1, .c (f58_p 935) 0, .j (fun σ => R_l0 (cut f58_A.loops 0 σ)), .blk 0, .c (f58_p 15) 0]
noncomputable def f58_C_l2 (k : Nat) (R_l0 : f58_S) (n : Nat) (σ : St) : Option (RDL f58_rs) := loopK (fun σ K => den T f58_Y (f58_E k) f58_A k (f58_p 29900) 2 σ K) (cut f58_A.loops 2) (f58_a k [.blk 2, .blk 1, .c (f58_p 935) 0, .j (fun σ => R_l0 (cut f58_A.loops 0 σ)), .blk 0, .c (f58_p 15) 0]) n σ
def f58_s_b0 (y12 : (List (Int × (Int × (Int × (Bool × Bool)))))) (y16 : (List (List Int))) (y18_0 : (List (Int × Int))) (y18_1 : (List (Int × (Int × (Int × Int))))) (y18_2 : (List (Int × Int))) : St := mkS 59 192 [(3, aP 18)] [(12, .vec Tq26 y12), (16, .vec Tq1 y16), (18, .box [cV Tq2 y18_0, cV Tq6 y18_1, cV Tq2 y18_2, .own 12, .own 16])]
abbrev f58_t_b0 := (List (Int × (Int × (Int × (Bool × Bool))))) → (List (List Int)) → (List (Int × Int)) → (List (Int × (Int × (Int × Int)))) → (List (Int × Int)) → Option (((Td12 × Td27 × Unit) × (List (Int × Td29)) × Unit) × Unit)
abbrev f58_o_b0 (R : f58_S) : f58_t_b0 := (fun y12 y16 y18_0 y18_1 y18_2 => R (f58_s_b0 y12 y16 y18_0 y18_1 y18_2))
noncomputable def f58_Q_b0 (k : Nat) : f58_L := [.c (f58_p 15) 0]
noncomputable def f58_C_b0 (k : Nat) : f58_S := fun σ => f58_a k (f58_Q_b0 k) .nx σ
def f58_s_c9 (y1_0 : (List (Int × Int))) (y1_1 : (List (Int × (Int × (Int × Int))))) (y1_2 : (List (Int × Int))) (y12 : (List (Int × (Int × (Int × (Bool × Bool)))))) (y16 : (List (List Int))) (y30 : (List Int)) (x21 : Int) (x22 : Int) (x31 : Int) (x32 : Int) : St := mkS 59 192 [(1, aP 1), (3, aP 18), (4, aI x22), (20, aV Tq6 y1_1), (21, aI x21), (22, aI x22), (30, aO 30), (31, aI x31), (32, aI x32)] [(1, .box [cV Tq2 y1_0, cV Tq6 y1_1, cV Tq2 y1_2]), (12, .vec Tq26 y12), (16, .rows (.int .i64) y16 none), (18, .box [cV Tq2 y1_0, cV Tq6 y1_1, cV Tq2 y1_2, .own 12, .own 16]), (30, .vec (.int .i64) y30)]
abbrev f58_t_c9 := (List (Int × Int)) → (List (Int × (Int × (Int × Int)))) → (List (Int × Int)) → (List (Int × (Int × (Int × (Bool × Bool))))) → (List (List Int)) → (List Int) → Int → Int → Int → Int → Option (((Td12 × Td27 × Unit) × (List (Int × Td29)) × Unit) × Unit)
abbrev f58_o_c9 (R : f58_S) : f58_t_c9 := (fun y1_0 y1_1 y1_2 y12 y16 y30 x21 x22 x31 x32 => R (f58_s_c9 y1_0 y1_1 y1_2 y12 y16 y30 x21 x22 x31 x32))
noncomputable def f58_Q_c9 (k : Nat) (R_l2 R_l0 : f58_S) : f58_L := [.blk 3, .c (f58_p 239207) 2, .j (fun σ => R_l2 (cut f58_A.loops 2 σ)), .blk 2, .blk 1, .c (f58_p 935) 0, .j (fun σ => R_l0 (cut f58_A.loops 0 σ)), .blk 0, .c (f58_p 15) 0]
noncomputable def f58_C_c9 (k : Nat) (R_l2 R_l0 : f58_S) : f58_S := fun σ => f58_a k (f58_Q_c9 k R_l2 R_l0) .nx σ
noncomputable def f58_F_b0 (k : Nat) : f58_L := .c (f58_p 15) 0 :: []
theorem f58_f_b0 (k : Nat) : f58_a k (f58_Q_b0 k) = f58_a k (f58_F_b0 k) := (ap_cons _ rfl)
noncomputable def f58_F_l0 (k : Nat) (G_l0 G_l2 G_b0 : f58_S) : f58_L := .c (f58_p 232) 0 :: .c (f58_p 466) 0 :: .j (fun σ => f58_a k (.c (f58_p 3736) 1 :: .c (f58_p 7474) 1 :: .j (fun σ => f58_a k (.j (fun σ => G_l2 (cut f58_A.loops 2 σ)) :: .blk 2 :: .blk 1 :: .c (f58_p 935) 0 :: .j (fun σ => G_l0 (cut f58_A.loops 0 σ)) :: .b 0 (fun σ => G_b0 (cut f58_A.blks 0 σ)) :: f58_F_b0 k) .nx σ) :: .blk 1 :: .c (f58_p 935) 0 :: .j (fun σ => G_l0 (cut f58_A.loops 0 σ)) :: .b 0 (fun σ => G_b0 (cut f58_A.blks 0 σ)) :: f58_F_b0 k) .nx σ) :: .c (f58_p 935) 0 :: .j (fun σ => G_l0 (cut f58_A.loops 0 σ)) :: .b 0 (fun σ => G_b0 (cut f58_A.blks 0 σ)) :: f58_F_b0 k
theorem f58_f_l0 (k : Nat) (R_l0 : f58_S) : f58_a k (f58_Q_l0 k R_l0) = f58_a k (f58_F_l0 k R_l0 (f58_C_l2 k R_l0 k) (f58_C_b0 k)) := (Eq.trans ap_sq (ap_cons _ (Eq.trans ap_sq (ap_cons _ (Eq.trans ap_sq (Eq.trans (ap_bl 1) (Eq.trans (ap_j (Eq.trans ap_sq (ap_cons _ (Eq.trans ap_sq (ap_cons _ (Eq.trans (ap_bl 2) (Eq.trans (ap_j (Eq.trans (ap_lp (C := (f58_C_l2 k R_l0)) (fun _ _ => rfl)) (ap_cons _ (ap_cons _ (ap_cons _ (ap_cons _ (ap_cons _ (Eq.trans (ap_blkb (C := (f58_C_b0 k)) (fun _ => rfl)) (ap_cons _ (f58_f_b0 k)))))))))) (ap_cons _ (ap_cons _ (ap_cons _ (ap_cons _ (Eq.trans (ap_blkb (C := (f58_C_b0 k)) (fun _ => rfl)) (ap_cons _ (f58_f_b0 k)))))))))))))) (ap_cons _ (ap_cons _ (ap_cons _ (Eq.trans (ap_blkb (C := (f58_C_b0 k)) (fun _ => rfl)) (ap_cons _ (f58_f_b0 k)))))))))))))
noncomputable def f58_F_c9 (k : Nat) (G_l0 G_l2 G_b0 : f58_S) : f58_L := .blk 3 :: .c (f58_p 239207) 2 :: .j (fun σ => G_l2 (cut f58_A.loops 2 σ)) :: .blk 2 :: .blk 1 :: .c (f58_p 935) 0 :: .j (fun σ => G_l0 (cut f58_A.loops 0 σ)) :: .b 0 (fun σ => G_b0 (cut f58_A.blks 0 σ)) :: f58_F_b0 k
theorem f58_f_c9 (k : Nat) (R_l2 R_l0 : f58_S) : f58_a k (f58_Q_c9 k R_l2 R_l0) = f58_a k (f58_F_c9 k R_l0 R_l2 (f58_C_b0 k)) := (ap_cons _ (ap_cons _ (ap_cons _ (ap_cons _ (ap_cons _ (ap_cons _ (ap_cons _ (Eq.trans (ap_blkb (C := (f58_C_b0 k)) (fun _ => rfl)) (ap_cons _ (f58_f_b0 k))))))))))
noncomputable def f58_F_l2 (k : Nat) (G_l0 G_l2 G_b0 G_c9 : f58_S) : f58_L := .c (f58_p 59800) 2 :: .c (f58_p 119602) 2 :: .j (fun σ => f58_a k (.c (f58_p 956824) 3 :: .c (f58_p 1913650) 3 :: .c (f58_p 1913651) 3 :: .j G_c9 :: f58_F_c9 k G_l0 G_l2 G_b0) .nx σ) :: .c (f58_p 239207) 2 :: .j (fun σ => G_l2 (cut f58_A.loops 2 σ)) :: .blk 2 :: .blk 1 :: .c (f58_p 935) 0 :: .j (fun σ => G_l0 (cut f58_A.loops 0 σ)) :: .b 0 (fun σ => G_b0 (cut f58_A.blks 0 σ)) :: f58_F_b0 k
theorem f58_f_l2 (k : Nat) (R_l0 R_l2 : f58_S) : f58_a k (f58_Q_l2 k R_l0 R_l2) = f58_a k (f58_F_l2 k R_l0 R_l2 (f58_C_b0 k) (f58_C_c9 k R_l2 R_l0)) := (Eq.trans ap_sq (ap_cons _ (Eq.trans ap_sq (ap_cons _ (Eq.trans ap_sq (Eq.trans (ap_bl 3) (Eq.trans (ap_j (Eq.trans ap_sq (ap_cons _ (Eq.trans ap_sq (ap_cons _ (ap_cons _ (Eq.trans (ap_pass (C := (f58_C_c9 k R_l2 R_l0)) (fun _ => rfl)) (ap_cons _ (f58_f_c9 k R_l2 R_l0))))))))) (ap_cons _ (ap_cons _ (ap_cons _ (ap_cons _ (ap_cons _ (ap_cons _ (ap_cons _ (Eq.trans (ap_blkb (C := (f58_C_b0 k)) (fun _ => rfl)) (ap_cons _ (f58_f_b0 k)))))))))))))))))
def f58_entry_B (k : Nat) (g_l0 : f58_t_l0) (a0 : Td12) : Option (((Td12 × Td27 × Unit) × (List (Int × Td29)) × Unit) × Unit) := (if 0 ≤ (a0.2.1.length : Int) then (if (a0.2.1.length : Int) ≤ 1073741824 then (if 0 ≤ (a0.2.1.length : Int) then (if (a0.2.1.length : Int) ≤ 1073741824 then (g_l0 a0.1 a0.2.1 a0.2.2 (List.replicate ((a0.2.1.length : Int)).toNat ((0, (0, (0, (false, false)))) : (Int × (Int × (Int × (Bool × Bool)))))) (List.replicate ((a0.2.1.length : Int)).toNat ([] : List Int)) (a0.2.1.length : Int) 0) else none) else none) else none) else none)
def f58_l0_B (k : Nat) (g_l2 : f58_t_l2) (g_b0 : f58_t_b0) (y1_0 : (List (Int × Int))) (y1_1 : (List (Int × (Int × (Int × Int))))) (y1_2 : (List (Int × Int))) (y12 : (List (Int × (Int × (Int × (Bool × Bool)))))) (y16 : (List (List Int))) (x21 : Int) (x22 : Int) : Option (((Td12 × Td27 × Unit) × (List (Int × Td29)) × Unit) × Unit) := (if x22 < x21 then (if 0 ≤ x22 then (if x22 < (y1_1.length : Int) then ((f21 k (y1_0, (y1_1, y1_2)) (((y1_1.getD (x22).toNat (0, (0, (0, 0)))).2).1)).bind fun r1 => (g_l2 y1_0 y1_1 y1_2 y12 y16 r1.1 x21 x22 (r1.1.length : Int) 0)) else none) else none) else (g_b0 y12 y16 y1_0 y1_1 y1_2))
def f58_l2_B (k : Nat) (g_l0 : f58_t_l0) (g_c9 : f58_t_c9) (y1_0 : (List (Int × Int))) (y1_1 : (List (Int × (Int × (Int × Int))))) (y1_2 : (List (Int × Int))) (y12 : (List (Int × (Int × (Int × (Bool × Bool)))))) (y16 : (List (List Int))) (y30 : (List Int)) (x21 : Int) (x22 : Int) (x31 : Int) (x32 : Int) : Option (((Td12 × Td27 × Unit) × (List (Int × Td29)) × Unit) × Unit) := (if x32 < x31 then (if 0 ≤ x32 then (if x32 < (y30.length : Int) then ((f63 k (y1_0, (y1_1, y1_2)) x22 (y30.getD ((x32).toNat) 0)).bind fun r1 => (if r1.1 = true then (if 0 ≤ x22 then (if x22 < (y16.length : Int) then (if ((y16.getD ((x22).toNat) []).length + 1) * 8 ≤ 140737488355328 then (if 0 ≤ x22 then (if x22 < (y16.length : Int) then (if ((x22).toNat) = ((x22).toNat) then (g_c9 y1_0 y1_1 y1_2 y12 (y16.set ((x22).toNat) ((y16.getD ((x22).toNat) []) ++ [(y30.getD ((x32).toNat) 0)])) y30 x21 x22 x31 x32) else none) else none) else none) else none) else none) else none) else (g_c9 y1_0 y1_1 y1_2 y12 y16 y30 x21 x22 x31 x32))) else none) else none) else (g_l0 y1_0 y1_1 y1_2 y12 y16 x21 (w64 (x22 + 1))))
def f58_b0_B (k : Nat) (y12 : (List (Int × (Int × (Int × (Bool × Bool)))))) (y16 : (List (List Int))) (y18_0 : (List (Int × Int))) (y18_1 : (List (Int × (Int × (Int × Int))))) (y18_2 : (List (Int × Int))) : Option (((Td12 × Td27 × Unit) × (List (Int × Td29)) × Unit) × Unit) := some ((((y18_0, (y18_1, y18_2)), y16, ()), (y12, ())), ())
def f58_c9_B (k : Nat) (g_l2 : f58_t_l2) (y1_0 : (List (Int × Int))) (y1_1 : (List (Int × (Int × (Int × Int))))) (y1_2 : (List (Int × Int))) (y12 : (List (Int × (Int × (Int × (Bool × Bool)))))) (y16 : (List (List Int))) (y30 : (List Int)) (x21 : Int) (x22 : Int) (x31 : Int) (x32 : Int) : Option (((Td12 × Td27 × Unit) × (List (Int × Td29)) × Unit) × Unit) := (g_l2 y1_0 y1_1 y1_2 y12 y16 y30 x21 x22 x31 (w64 (x32 + 1)))
theorem f58_c9_P (k : Nat) (G_l0 G_l2 G_b0 : f58_S) : f58_o_c9 (fun σ => f58_a k (f58_F_c9 k G_l0 G_l2 G_b0) .nx σ) = f58_c9_B k (f58_o_l2 G_l2) := by kernel_rfl
def f58_c9 (k : Nat) (r_l2 : f58_t_l2) (r_l0 : f58_t_l0) : f58_t_c9 := f58_c9_B k r_l2
theorem f58_c9_E (k : Nat) (R_l2 R_l0 : f58_S) : f58_o_c9 (f58_C_c9 k R_l2 R_l0) = f58_c9 k (f58_o_l2 R_l2) (f58_o_l0 R_l0) :=
  Eq.trans (congrArg f58_o_c9 (ap_fn (f58_f_c9 k R_l2 R_l0))) ((f58_c9_P k R_l0 R_l2 (f58_C_b0 k)).trans (by rfl))
theorem f58_l2_P (k : Nat) (G_l0 G_l2 G_b0 G_c9 : f58_S) : f58_o_l2 (fun σ => f58_a k (f58_F_l2 k G_l0 G_l2 G_b0 G_c9) .nx σ) = f58_l2_B k (f58_o_l0 G_l0) (f58_o_c9 G_c9) := by kernel_rfl
def f58_l2 (k : Nat) (r_l0 : f58_t_l0) : Nat → f58_t_l2
  | 0 => fun _ _ _ _ _ _ _ _ _ _ => none
  | n + 1 => f58_l2_B k r_l0 (f58_c9 k (f58_l2 k r_l0 n) r_l0)
theorem f58_l2_E (k : Nat) (R_l0 : f58_S) : ∀ n, f58_o_l2 (f58_C_l2 k R_l0 n) = f58_l2 k (f58_o_l0 R_l0) n
  | 0 => rfl
  | n + 1 =>
    Eq.trans (congrArg f58_o_l2 (Eq.trans (b := fun σ => f58_a k (f58_Q_l2 k R_l0 (f58_C_l2 k R_l0 n)) .nx σ) (by kernel_rfl) (ap_fn (f58_f_l2 k R_l0 (f58_C_l2 k R_l0 n))))) ((f58_l2_P k R_l0 (f58_C_l2 k R_l0 n) (f58_C_b0 k) (f58_C_c9 k (f58_C_l2 k R_l0 n) R_l0)).trans (by rw [f58_c9_E k (f58_C_l2 k R_l0 n) R_l0, f58_l2_E k R_l0 n] <;> rfl))
theorem f58_b0_P (k : Nat) : f58_o_b0 (fun σ => f58_a k (f58_F_b0 k) .nx σ) = f58_b0_B k := by kernel_rfl
def f58_b0 (k : Nat) : f58_t_b0 := f58_b0_B k
theorem f58_b0_E (k : Nat) : f58_o_b0 (f58_C_b0 k) = f58_b0 k :=
  Eq.trans (congrArg f58_o_b0 (ap_fn (f58_f_b0 k))) ((f58_b0_P k).trans (by rfl))
theorem f58_l0_P (k : Nat) (G_l0 G_l2 G_b0 : f58_S) : f58_o_l0 (fun σ => f58_a k (f58_F_l0 k G_l0 G_l2 G_b0) .nx σ) = f58_l0_B k (f58_o_l2 G_l2) (f58_o_b0 G_b0) := by kernel_rfl
def f58_l0 (k : Nat) : Nat → f58_t_l0
  | 0 => fun _ _ _ _ _ _ _ => none
  | n + 1 => f58_l0_B k (f58_l2 k (f58_l0 k n) k) (f58_b0 k)
theorem f58_l0_E (k : Nat) : ∀ n, f58_o_l0 (f58_C_l0 k n) = f58_l0 k n
  | 0 => rfl
  | n + 1 =>
    Eq.trans (congrArg f58_o_l0 (Eq.trans (b := fun σ => f58_a k (f58_Q_l0 k (f58_C_l0 k n)) .nx σ) (by kernel_rfl) (ap_fn (f58_f_l0 k (f58_C_l0 k n))))) ((f58_l0_P k (f58_C_l0 k n) (f58_C_l2 k (f58_C_l0 k n) k) (f58_C_b0 k)).trans (by rw [f58_l2_E k (f58_C_l0 k n) k, f58_b0_E k, f58_l0_E k n] <;> rfl))
theorem f58_entry_P (k : Nat) (G_l0 G_b0 : f58_S) (xs : DL f58_sig) : f58_a k (.c (f58_p 2) 0 :: .c (f58_p 6) 0 :: .c (f58_p 28) 0 :: .j (fun σ => f58_a k (.j (fun σ => G_l0 (cut f58_A.loops 0 σ)) :: .b 0 (fun σ => G_b0 (cut f58_A.blks 0 σ)) :: f58_F_b0 k) .nx σ) :: f58_F_b0 k) .nx (σ0 59 192 f58_sig xs) = f58_entry_B k (f58_o_l0 G_l0) xs.1 := by kernel_rfl
def f58 (k : Nat) (a0 : Td12) : Option (((Td12 × Td27 × Unit) × (List (Int × Td29)) × Unit) × Unit) := f58_entry_B k (f58_l0 k k) a0
theorem f58_fe (k : Nat) : f58_a k [.c (f58_p 1) 0] = f58_a k (.c (f58_p 2) 0 :: .c (f58_p 6) 0 :: .c (f58_p 28) 0 :: .j (fun σ => f58_a k (.j (fun σ => (f58_C_l0 k k) (cut f58_A.loops 0 σ)) :: .b 0 (fun σ => (f58_C_b0 k) (cut f58_A.blks 0 σ)) :: f58_F_b0 k) .nx σ) :: f58_F_b0 k) := (Eq.trans ap_sq (ap_cons _ (Eq.trans ap_sq (ap_cons _ (Eq.trans ap_sq (Eq.trans ap_sq (ap_cons _ (Eq.trans (ap_bl 0) (Eq.trans (ap_j (Eq.trans (ap_lp (C := (f58_C_l0 k)) (fun _ _ => rfl)) (ap_cons _ (Eq.trans (ap_blkb (C := (f58_C_b0 k)) (fun _ => rfl)) (ap_cons _ (f58_f_b0 k)))))) (ap_cons _ (f58_f_b0 k)))))))))))
theorem f58_eq (k : Nat) (xs : DL f58_sig) : den T f58_Y (f58_E k) f58_A k f58_c 0 (σ0 59 192 f58_sig xs) (Kfin T f58_rs f58_ts) = f58 k xs.1 :=
  Eq.trans (Eq.trans den_sb (ap_at (f58_fe k) _)) ((f58_entry_P k (f58_C_l0 k k) (f58_C_b0 k) xs).trans (by rw [f58_l0_E k k] <;> rfl))
noncomputable def f58_con (k : Nat) : Con := ⟨f58_sig, f58_rs, fun xs => f58 k xs.1⟩
theorem f58_ok (k : Nat) : PureOK Try.prog 58 f58_sig f58_rs (fun xs => f58 k xs.1) :=
  (pure_of_den (k := k) (A := f58_A) (T := T) (Y := f58_Y) (E := f58_E k) (M := 192) (ts := f58_ts) T_ok ⟨f21_ok k, f63_ok k, trivial⟩ ⟨f21_ent, f63_ent, trivial⟩ mixed (f := 58) (fn := Try.f58) (c := f58_c) (by kernel_rfl) (by kernel_rfl) (by kernel_rfl) (by decide) (by kernel_rfl)).congr fun xs => (f58_eq k xs).symm
theorem f58_ent : Ent Try.prog 58 := fun args w => by kernel_rfl
/-! ### slices.Reverse[[]int,int]: function 84 -/
noncomputable def f84_c : Code := Try.f84.body.getD .skip
noncomputable abbrev f84_p (n : Nat) : Code := sb f84_c n
abbrev f84_sig : List PT := []
abbrev f84_rs : List RT := []
abbrev f84_ts : List RV := []
abbrev f84_ls : List LO := [.row (.int .i64)]
abbrev f84_S := St → Option (LOD f84_ls × RDL f84_rs)
abbrev f84_L := List (Fr (LOD f84_ls × RDL f84_rs))
def f84_Y : Tys := []
noncomputable def f84_E (k : Nat) : Env := []
def f84_A : Ann := { loops := [(0, { slots := [(0, .id), (2, .id), (3, .id)], keys := [(0, [])] })] }
noncomputable abbrev f84_a (k : Nat) (F : f84_L) : Kont (LOD f84_ls × RDL f84_rs) := ap T f84_Y (f84_E k) f84_A k (KfinB T true f84_ls f84_rs f84_ts) F
def f84_s_l0 (y0 : (List Int)) (x2 : Int) (x3 : Int) : St := mkS 28 97 [(0, aO 0), (2, aI x2), (3, aI x3)] [(0, .vec (.int .i64) y0)]
abbrev f84_t_l0 := (List Int) → Int → Int → Option (((List Int) × Unit) × (Unit))
abbrev f84_o_l0 (R : f84_S) : f84_t_l0 := (fun y0 x2 x3 => R (f84_s_l0 y0 x2 x3))
noncomputable def f84_Q_l0 (k : Nat) (R_l0 : f84_S) : f84_L := [.c (f84_p 12) 0, .j (fun σ => R_l0 (cut f84_A.loops 0 σ)), .blk 0]
noncomputable def f84_C_l0 (k : Nat) (n : Nat) (σ : St) : Option (LOD f84_ls × RDL f84_rs) := loopK (fun σ K => den T f84_Y (f84_E k) f84_A k (f84_p 12) 0 σ K) (cut f84_A.loops 0) (f84_a k [.blk 0]) n σ
noncomputable def f84_F_l0 (k : Nat) (G_l0 : f84_S) : f84_L := .c (f84_p 12) 0 :: .j (fun σ => G_l0 (cut f84_A.loops 0 σ)) :: .blk 0 :: []
theorem f84_f_l0 (k : Nat) (R_l0 : f84_S) : f84_a k (f84_Q_l0 k R_l0) = f84_a k (f84_F_l0 k R_l0) := (ap_cons _ (ap_cons _ (ap_cons _ rfl)))
def f84_entry_B (k : Nat) (g_l0 : f84_t_l0) (a : (List Int)) : Option (((List Int) × Unit) × (Unit)) := (g_l0 a 0 (w64 ((a.length : Int) - 1)))
def f84_l0_B (k : Nat) (g_l0 : f84_t_l0) (y0 : (List Int)) (x2 : Int) (x3 : Int) : Option (((List Int) × Unit) × (Unit)) := (if x2 < x3 then (if 0 ≤ x3 then (if x3 < (y0.length : Int) then (if 0 ≤ x2 then (if x2 < (y0.length : Int) then (if 0 ≤ x2 then (if x2 < (y0.length : Int) then (if 0 ≤ x3 then (if x3 < ((y0.set ((x2).toNat) (y0.getD ((x3).toNat) 0)).length : Int) then (g_l0 ((y0.set ((x2).toNat) (y0.getD ((x3).toNat) 0)).set ((x3).toNat) (y0.getD ((x2).toNat) 0)) (w64 (x2 + 1)) (w64 (x3 - 1))) else none) else none) else none) else none) else none) else none) else none) else none) else some ((y0, ()), (())))
theorem f84_l0_P (k : Nat) (G_l0 : f84_S) : f84_o_l0 (fun σ => f84_a k (f84_F_l0 k G_l0) .nx σ) = f84_l0_B k (f84_o_l0 G_l0) := by kernel_rfl
def f84_l0 (k : Nat) : Nat → f84_t_l0
  | 0 => fun _ _ _ => none
  | n + 1 => f84_l0_B k (f84_l0 k n)
theorem f84_l0_E (k : Nat) : ∀ n, f84_o_l0 (f84_C_l0 k n) = f84_l0 k n
  | 0 => rfl
  | n + 1 =>
    Eq.trans (congrArg f84_o_l0 (Eq.trans (b := fun σ => f84_a k (f84_Q_l0 k (f84_C_l0 k n)) .nx σ) (by kernel_rfl) (ap_fn (f84_f_l0 k (f84_C_l0 k n))))) ((f84_l0_P k (f84_C_l0 k n)).trans (by rw [f84_l0_E k n] <;> rfl))
theorem f84_entry_P (k : Nat) (G_l0 : f84_S) (x : LOD f84_ls) (xs : DL f84_sig) : f84_a k (.c (f84_p 2) 0 :: .j (fun σ => f84_a k (.j (fun σ => G_l0 (cut f84_A.loops 0 σ)) :: .blk 0 :: []) .nx σ) :: []) .nx (σ0B 28 97 0 f84_ls x f84_sig xs) = f84_entry_B k (f84_o_l0 G_l0) x.1 := by kernel_rfl
def f84 (k : Nat) (a : (List Int)) : Option (((List Int) × Unit) × (Unit)) := f84_entry_B k (f84_l0 k k) a
theorem f84_fe (k : Nat) : f84_a k [.c (f84_p 1) 0] = f84_a k (.c (f84_p 2) 0 :: .j (fun σ => f84_a k (.j (fun σ => (f84_C_l0 k k) (cut f84_A.loops 0 σ)) :: .blk 0 :: []) .nx σ) :: []) := (Eq.trans ap_sq (ap_cons _ (Eq.trans (ap_bl 0) (Eq.trans (ap_j (Eq.trans (ap_lp (C := (f84_C_l0 k)) (fun _ _ => rfl)) (ap_cons _ (ap_cons _ rfl)))) (ap_cons _ rfl)))))
theorem f84_eq (k : Nat) (x : LOD f84_ls) (xs : DL f84_sig) : den T f84_Y (f84_E k) f84_A k f84_c 0 (σ0B 28 97 0 f84_ls x f84_sig xs) (KfinB T true f84_ls f84_rs f84_ts) = f84 k x.1 :=
  Eq.trans (Eq.trans den_sb (ap_at (f84_fe k) _)) ((f84_entry_P k (f84_C_l0 k k) x xs).trans (by rw [f84_l0_E k k] <;> rfl))
noncomputable def f84_con (k : Nat) : BCon := ⟨0, true, f84_ls, f84_sig, f84_rs, fun x xs => f84 k x.1⟩
theorem f84_ok (k : Nat) : BoxOK Try.prog 84 0 true f84_ls f84_sig f84_rs (fun x xs => f84 k x.1) :=
  (box_of_den (k := k) (A := f84_A) (T := T) (Y := f84_Y) (E := f84_E k) (M := 97) (ts := f84_ts) T_ok trivial trivial mixed (f := 84) (fn := Try.f84) (c := f84_c) (by kernel_rfl) (by kernel_rfl) (by kernel_rfl) (by decide) (by kernel_rfl) (by decide)).congr fun x xs => (f84_eq k x xs).symm
theorem f84_ent : Ent Try.prog 84 := fun args w => by kernel_rfl
/-! ### (*terrier/route.search).way: function 61 -/
noncomputable def f61_c : Code := Try.f61.body.getD .skip
noncomputable abbrev f61_p (n : Nat) : Code := sb f61_c n
abbrev f61_sig : List PT := [(false, (.ptr Tq33)), (false, (.int .i64))]
abbrev f61_rs : List RT := [.new (.int .i64)]
abbrev f61_ts : List RV := [.tmp 4]
abbrev f61_S := St → Option (RDL f61_rs)
abbrev f61_L := List (Fr (RDL f61_rs))
def f61_Y : Tys := [(3, (.int .i64))]
noncomputable def f61_E (k : Nat) : Env := [(84, .b (f84_con k))]
def f61_A : Ann := { loops := [(0, { mat := [(5, 19, (.int .i64))], slots := [(0, .id), (1, .id), (5, .id)], keys := [(19, [])] })] }
noncomputable abbrev f61_a (k : Nat) (F : f61_L) : Kont (RDL f61_rs) := ap T f61_Y (f61_E k) f61_A k (Kfin T f61_rs f61_ts) F
def f61_s_l0 (y19 : (List Int)) (x0 : (((List (Int × Int)) × ((List (Int × (Int × (Int × Int)))) × (List (Int × Int)))) × ((List (Int × (Int × (Int × (Bool × Bool))))) × (List (List Int))))) (x1 : Int) : St := mkS 23 80 [(0, .cp (.one (.fptr Tq33 x0 0))), (1, aI x1), (5, aO 19)] [(19, .vec (.int .i64) y19)]
abbrev f61_t_l0 := (List Int) → (((List (Int × Int)) × ((List (Int × (Int × (Int × Int)))) × (List (Int × Int)))) × ((List (Int × (Int × (Int × (Bool × Bool))))) × (List (List Int)))) → Int → Option ((List Int) × Unit)
abbrev f61_o_l0 (R : f61_S) : f61_t_l0 := (fun y19 x0 x1 => R (f61_s_l0 y19 x0 x1))
noncomputable def f61_Q_l0 (k : Nat) (R_l0 : f61_S) : f61_L := [.c (f61_p 56) 0, .j (fun σ => R_l0 (cut f61_A.loops 0 σ)), .blk 0, .c (f61_p 15) 0]
noncomputable def f61_C_l0 (k : Nat) (n : Nat) (σ : St) : Option (RDL f61_rs) := loopK (fun σ K => den T f61_Y (f61_E k) f61_A k (f61_p 56) 0 σ K) (cut f61_A.loops 0) (f61_a k [.blk 0, .c (f61_p 15) 0]) n σ
noncomputable def f61_F_l0 (k : Nat) (G_l0 : f61_S) : f61_L := .c (f61_p 56) 0 :: .j (fun σ => G_l0 (cut f61_A.loops 0 σ)) :: .blk 0 :: .c (f61_p 15) 0 :: []
theorem f61_f_l0 (k : Nat) (R_l0 : f61_S) : f61_a k (f61_Q_l0 k R_l0) = f61_a k (f61_F_l0 k R_l0) := (ap_cons _ (ap_cons _ (ap_cons _ (ap_cons _ rfl))))
def f61_entry_B (k : Nat) (g_l0 : f61_t_l0) (a0 : Td36) (a1 : Int) : Option ((List Int) × Unit) := (g_l0 ([] : List Int) a0 a1)
def f61_l0_B (k : Nat) (g_l0 : f61_t_l0) (y19 : (List Int)) (x0 : (((List (Int × Int)) × ((List (Int × (Int × (Int × Int)))) × (List (Int × Int)))) × ((List (Int × (Int × (Int × (Bool × Bool))))) × (List (List Int))))) (x1 : Int) : Option ((List Int) × Unit) := (if 0 ≤ x1 then (if (y19.length + 1) * 8 ≤ 140737488355328 then (if 0 ≤ x1 then (if x1 < (x0.2.1.length : Int) then (g_l0 (y19 ++ [x1]) x0 ((((x0.2.1.getD (x1).toNat (0, (0, (0, (false, false))))).2).2).1)) else none) else none) else none) else ((f84 k y19).bind fun r1 => some (r1.1.1, ())))
theorem f61_l0_P (k : Nat) (G_l0 : f61_S) : f61_o_l0 (fun σ => f61_a k (f61_F_l0 k G_l0) .nx σ) = f61_l0_B k (f61_o_l0 G_l0) := by kernel_rfl
def f61_l0 (k : Nat) : Nat → f61_t_l0
  | 0 => fun _ _ _ => none
  | n + 1 => f61_l0_B k (f61_l0 k n)
theorem f61_l0_E (k : Nat) : ∀ n, f61_o_l0 (f61_C_l0 k n) = f61_l0 k n
  | 0 => rfl
  | n + 1 =>
    Eq.trans (congrArg f61_o_l0 (Eq.trans (b := fun σ => f61_a k (f61_Q_l0 k (f61_C_l0 k n)) .nx σ) (by kernel_rfl) (ap_fn (f61_f_l0 k (f61_C_l0 k n))))) ((f61_l0_P k (f61_C_l0 k n)).trans (by rw [f61_l0_E k n] <;> rfl))
theorem f61_entry_P (k : Nat) (G_l0 : f61_S) (xs : DL f61_sig) : f61_a k (.c (f61_p 2) 0 :: .c (f61_p 6) 0 :: .j (fun σ => f61_a k (.j (fun σ => G_l0 (cut f61_A.loops 0 σ)) :: .blk 0 :: .c (f61_p 15) 0 :: []) .nx σ) :: .c (f61_p 15) 0 :: []) .nx (σ0 23 80 f61_sig xs) = f61_entry_B k (f61_o_l0 G_l0) xs.1 xs.2.1 := by kernel_rfl
def f61 (k : Nat) (a0 : Td36) (a1 : Int) : Option ((List Int) × Unit) := f61_entry_B k (f61_l0 k k) a0 a1
theorem f61_fe (k : Nat) : f61_a k [.c (f61_p 1) 0] = f61_a k (.c (f61_p 2) 0 :: .c (f61_p 6) 0 :: .j (fun σ => f61_a k (.j (fun σ => (f61_C_l0 k k) (cut f61_A.loops 0 σ)) :: .blk 0 :: .c (f61_p 15) 0 :: []) .nx σ) :: .c (f61_p 15) 0 :: []) := (Eq.trans ap_sq (ap_cons _ (Eq.trans ap_sq (ap_cons _ (Eq.trans ap_sq (Eq.trans (ap_bl 0) (Eq.trans (ap_j (Eq.trans (ap_lp (C := (f61_C_l0 k)) (fun _ _ => rfl)) (ap_cons _ (ap_cons _ (ap_cons _ rfl))))) (ap_cons _ (ap_cons _ rfl)))))))))
theorem f61_eq (k : Nat) (xs : DL f61_sig) : den T f61_Y (f61_E k) f61_A k f61_c 0 (σ0 23 80 f61_sig xs) (Kfin T f61_rs f61_ts) = f61 k xs.1 xs.2.1 :=
  Eq.trans (Eq.trans den_sb (ap_at (f61_fe k) _)) ((f61_entry_P k (f61_C_l0 k k) xs).trans (by rw [f61_l0_E k k] <;> rfl))
noncomputable def f61_con (k : Nat) : Con := ⟨f61_sig, f61_rs, fun xs => f61 k xs.1 xs.2.1⟩
theorem f61_ok (k : Nat) : PureOK Try.prog 61 f61_sig f61_rs (fun xs => f61 k xs.1 xs.2.1) :=
  (pure_of_den (k := k) (A := f61_A) (T := T) (Y := f61_Y) (E := f61_E k) (M := 80) (ts := f61_ts) T_ok ⟨f84_ok k, trivial⟩ ⟨f84_ent, trivial⟩ mixed (f := 61) (fn := Try.f61) (c := f61_c) (by kernel_rfl) (by kernel_rfl) (by kernel_rfl) (by decide) (by kernel_rfl)).congr fun xs => (f61_eq k xs).symm
theorem f61_ent : Ent Try.prog 61 := fun args w => by kernel_rfl
/-! ### (*terrier/route.search).better: function 112 -/
noncomputable def f112_c : Code := Try.f112.body.getD .skip
noncomputable abbrev f112_p (n : Nat) : Code := sb f112_c n
abbrev f112_sig : List PT := [(false, (.ptr Tq33)), (false, (.int .i64)), (false, (.int .i64)), (false, (.int .i64)), (false, (.int .i64))]
abbrev f112_rs : List RT := [.d false .bool]
abbrev f112_ts : List RV := [.tmp 10]
abbrev f112_S := St → Option (RDL f112_rs)
abbrev f112_L := List (Fr (RDL f112_rs))
def f112_Y : Tys := [(3, (.int .i64))]
noncomputable def f112_E (k : Nat) : Env := [(61, .c (f61_con k)), (81, .c (f81_con k))]
def f112_A : Ann := { regs := [(2, { slots := [(0, .id), (1, .id), (3, .id), (4, .id), (11, .id), (29, .bool)], keys := [(11, [.id, .id, .id, .bool, .bool])] }), (3, { slots := [(10, .bool)] })], conds := [(3, { slots := [(0, .id), (1, .id), (4, .id), (11, .id)], keys := [(11, [.id, .id, .id, .bool, .bool])] }), (8, { frz := [47, 53], slots := [(0, .id), (11, .id), (12, .val false (.int .i64)), (13, .id)], keys := [(11, [.id, .id, .id, .bool, .bool]), (48, [])] }), (10, { frz := [48, 60], slots := [(12, .val false (.int .i64)), (13, .val false (.int .i64))] })] }
noncomputable abbrev f112_a (k : Nat) (F : f112_L) : Kont (RDL f112_rs) := ap T f112_Y (f112_E k) f112_A k (Kfin T f112_rs f112_ts) F
def f112_s_r2 (y11_0 : Int) (y11_1 : Int) (y11_2 : Int) (y11_3 : Bool) (y11_4 : Bool) (x0 : (((List (Int × Int)) × ((List (Int × (Int × (Int × Int)))) × (List (Int × Int)))) × ((List (Int × (Int × (Int × (Bool × Bool))))) × (List (List Int))))) (x1 : Int) (x29 : Bool) (x3 : Int) (x4 : Int) : St := mkS 65 208 [(0, .cp (.one (.fptr Tq33 x0 0))), (1, aI x1), (3, aI x3), (4, aI x4), (11, aP 11), (29, aB x29)] [(11, .box [cI y11_0, cI y11_1, cI y11_2, pB y11_3, pB y11_4])]
abbrev f112_t_r2 := Int → Int → Int → Bool → Bool → (((List (Int × Int)) × ((List (Int × (Int × (Int × Int)))) × (List (Int × Int)))) × ((List (Int × (Int × (Int × (Bool × Bool))))) × (List (List Int)))) → Int → Bool → Int → Int → Option (Bool × Unit)
abbrev f112_o_r2 (R : f112_S) : f112_t_r2 := (fun y11_0 y11_1 y11_2 y11_3 y11_4 x0 x1 x29 x3 x4 => R (f112_s_r2 y11_0 y11_1 y11_2 y11_3 y11_4 x0 x1 x29 x3 x4))
noncomputable def f112_Q_r2 (k : Nat) : f112_L := [.c (f112_p 29) 0, .c (f112_p 15) 0]
noncomputable def f112_C_r2 (k : Nat) : f112_S := fun σ => f112_a k (f112_Q_r2 k) .nx σ
def f112_s_r3 (x10 : Bool) : St := mkS 65 208 [(10, aB x10)] []
abbrev f112_t_r3 := Bool → Option (Bool × Unit)
abbrev f112_o_r3 (R : f112_S) : f112_t_r3 := (fun x10 => R (f112_s_r3 x10))
noncomputable def f112_Q_r3 (k : Nat) : f112_L := [.c (f112_p 117) 0, .cond 3, .c (f112_p 15) 0]
noncomputable def f112_C_r3 (k : Nat) : f112_S := fun σ => f112_a k (f112_Q_r3 k) .nx σ
def f112_s_c3 (y11_0 : Int) (y11_1 : Int) (y11_2 : Int) (y11_3 : Bool) (y11_4 : Bool) (x0 : (((List (Int × Int)) × ((List (Int × (Int × (Int × Int)))) × (List (Int × Int)))) × ((List (Int × (Int × (Int × (Bool × Bool))))) × (List (List Int))))) (x1 : Int) (x4 : Int) : St := mkS 65 208 [(0, .cp (.one (.fptr Tq33 x0 0))), (1, aI x1), (4, aI x4), (11, aP 11)] [(11, .box [cI y11_0, cI y11_1, cI y11_2, pB y11_3, pB y11_4])]
abbrev f112_t_c3 := Int → Int → Int → Bool → Bool → (((List (Int × Int)) × ((List (Int × (Int × (Int × Int)))) × (List (Int × Int)))) × ((List (Int × (Int × (Int × (Bool × Bool))))) × (List (List Int)))) → Int → Int → Option (Bool × Unit)
abbrev f112_o_c3 (R : f112_S) : f112_t_c3 := (fun y11_0 y11_1 y11_2 y11_3 y11_4 x0 x1 x4 => R (f112_s_c3 y11_0 y11_1 y11_2 y11_3 y11_4 x0 x1 x4))
noncomputable def f112_Q_c3 (k : Nat) : f112_L := [.c (f112_p 15) 0]
noncomputable def f112_C_c3 (k : Nat) : f112_S := fun σ => f112_a k (f112_Q_c3 k) .nx σ
def f112_s_c8 (y11_0 : Int) (y11_1 : Int) (y11_2 : Int) (y11_3 : Bool) (y11_4 : Bool) (y48 : (List Int)) (x0 : (((List (Int × Int)) × ((List (Int × (Int × (Int × Int)))) × (List (Int × Int)))) × ((List (Int × (Int × (Int × (Bool × Bool))))) × (List (List Int))))) (x12 : (List Int)) : St := mkS 65 208 [(0, .cp (.one (.fptr Tq33 x0 0))), (11, aP 11), (12, aV (.int .i64) x12), (13, aO 48)] [(11, .box [cI y11_0, cI y11_1, cI y11_2, pB y11_3, pB y11_4]), (48, .vec (.int .i64) y48)]
abbrev f112_t_c8 := Int → Int → Int → Bool → Bool → (List Int) → (((List (Int × Int)) × ((List (Int × (Int × (Int × Int)))) × (List (Int × Int)))) × ((List (Int × (Int × (Int × (Bool × Bool))))) × (List (List Int)))) → (List Int) → Option (Bool × Unit)
abbrev f112_o_c8 (R : f112_S) : f112_t_c8 := (fun y11_0 y11_1 y11_2 y11_3 y11_4 y48 x0 x12 => R (f112_s_c8 y11_0 y11_1 y11_2 y11_3 y11_4 y48 x0 x12))
noncomputable def f112_Q_c8 (k : Nat) : f112_L := [.c (f112_p 127) 0]
noncomputable def f112_C_c8 (k : Nat) : f112_S := fun σ => f112_a k (f112_Q_c8 k) .nx σ
def f112_s_c10 (x12 : (List Int)) (x13 : (List Int)) : St := mkS 65 208 [(12, aV (.int .i64) x12), (13, aV (.int .i64) x13)] []
abbrev f112_t_c10 := (List Int) → (List Int) → Option (Bool × Unit)
abbrev f112_o_c10 (R : f112_S) : f112_t_c10 := (fun x12 x13 => R (f112_s_c10 x12 x13))
noncomputable def f112_Q_c10 (k : Nat) : f112_L := [.c (f112_p 255) 0]
noncomputable def f112_C_c10 (k : Nat) : f112_S := fun σ => f112_a k (f112_Q_c10 k) .nx σ
noncomputable def f112_F_c10 (k : Nat) : f112_L := .c (f112_p 255) 0 :: []
theorem f112_f_c10 (k : Nat) : f112_a k (f112_Q_c10 k) = f112_a k (f112_F_c10 k) := (ap_cons _ rfl)
noncomputable def f112_F_c8 (k : Nat) (G_c10 : f112_S) : f112_L := .c (f112_p 508) 0 :: .c (f112_p 509) 0 :: .j G_c10 :: f112_F_c10 k
theorem f112_f_c8 (k : Nat) : f112_a k (f112_Q_c8 k) = f112_a k (f112_F_c8 k (f112_C_c10 k)) := (Eq.trans ap_sq (Eq.trans ap_sq (ap_cons _ (ap_cons _ (Eq.trans (ap_pass (C := (f112_C_c10 k)) (fun _ => rfl)) (ap_cons _ (f112_f_c10 k)))))))
noncomputable def f112_F_c3 (k : Nat) (G_c8 G_c10 : f112_S) : f112_L := .c (f112_p 30) 0 :: .c (f112_p 62) 0 :: .c (f112_p 252) 0 :: .c (f112_p 253) 0 :: .j G_c8 :: f112_F_c8 k G_c10
theorem f112_f_c3 (k : Nat) : f112_a k (f112_Q_c3 k) = f112_a k (f112_F_c3 k (f112_C_c8 k) (f112_C_c10 k)) := (Eq.trans ap_sq (ap_cons _ (Eq.trans ap_sq (ap_cons _ (Eq.trans ap_sq (Eq.trans ap_sq (ap_cons _ (ap_cons _ (Eq.trans (ap_pass (C := (f112_C_c8 k)) (fun _ => rfl)) (ap_cons _ (f112_f_c8 k)))))))))))
noncomputable def f112_F_r3 (k : Nat) (G_c3 G_c8 G_c10 : f112_S) : f112_L := .c (f112_p 117) 0 :: .j (fun σ => G_c3 (cut f112_A.conds 3 σ)) :: f112_F_c3 k G_c8 G_c10
theorem f112_f_r3 (k : Nat) : f112_a k (f112_Q_r3 k) = f112_a k (f112_F_r3 k (f112_C_c3 k) (f112_C_c8 k) (f112_C_c10 k)) := (ap_cons _ (Eq.trans (ap_condj (C := (f112_C_c3 k)) (fun _ => rfl)) (ap_cons _ (f112_f_c3 k))))
noncomputable def f112_F_r2 (k : Nat) (G_r3 G_c3 G_c8 G_c10 : f112_S) : f112_L := .i (.tmp 29) (fun σ => f112_a k (.c (f112_p 116) 0 :: .j G_r3 :: f112_F_r3 k G_c3 G_c8 G_c10) .nx σ) (fun σ => f112_a k (.c (f112_p 59) 0 :: .j (fun σ => G_c3 (cut f112_A.conds 3 σ)) :: f112_F_c3 k G_c8 G_c10) .nx σ) :: f112_F_c3 k G_c8 G_c10
theorem f112_f_r2 (k : Nat) : f112_a k (f112_Q_r2 k) = f112_a k (f112_F_r2 k (f112_C_r3 k) (f112_C_c3 k) (f112_C_c8 k) (f112_C_c10 k)) := (Eq.trans (ap_cn (.tmp 29) 3) (Eq.trans (ap_i (Eq.trans ap_sq (ap_cons _ (Eq.trans (ap_pass (C := (f112_C_r3 k)) (fun _ => rfl)) (ap_cons _ (f112_f_r3 k))))) (ap_cons _ (Eq.trans (ap_condj (C := (f112_C_c3 k)) (fun _ => rfl)) (ap_cons _ (f112_f_c3 k))))) (ap_cons _ (f112_f_c3 k))))
def f112_entry_B (k : Nat) (g_r2 : f112_t_r2) (a0 : Td36) (a1 : Int) (a2 : Int) (a3 : Int) (a4 : Int) : Option (Bool × Unit) := (if 0 ≤ a2 then (if a2 < (a0.2.1.length : Int) then (if ¬ ((((((a0.2.1.getD (a2).toNat (0, (0, (0, (false, false))))).2).2).2).1) = true) then (g_r2 ((a0.2.1.getD (a2).toNat (0, (0, (0, (false, false))))).1) (((a0.2.1.getD (a2).toNat (0, (0, (0, (false, false))))).2).1) ((((a0.2.1.getD (a2).toNat (0, (0, (0, (false, false))))).2).2).1) (decide ((((((a0.2.1.getD (a2).toNat (0, (0, (0, (false, false))))).2).2).2).1) = true)) (decide ((((((a0.2.1.getD (a2).toNat (0, (0, (0, (false, false))))).2).2).2).2) = true)) a0 a1 true a3 a4) else (g_r2 ((a0.2.1.getD (a2).toNat (0, (0, (0, (false, false))))).1) (((a0.2.1.getD (a2).toNat (0, (0, (0, (false, false))))).2).1) ((((a0.2.1.getD (a2).toNat (0, (0, (0, (false, false))))).2).2).1) (decide ((((((a0.2.1.getD (a2).toNat (0, (0, (0, (false, false))))).2).2).2).1) = true)) (decide ((((((a0.2.1.getD (a2).toNat (0, (0, (0, (false, false))))).2).2).2).2) = true)) a0 a1 (decide (¬ (a3 = ((a0.2.1.getD (a2).toNat (0, (0, (0, (false, false))))).1)))) a3 a4)) else none) else none)
def f112_r2_B (k : Nat) (g_r3 : f112_t_r3) (g_c3 : f112_t_c3) (y11_0 : Int) (y11_1 : Int) (y11_2 : Int) (y11_3 : Bool) (y11_4 : Bool) (x0 : (((List (Int × Int)) × ((List (Int × (Int × (Int × Int)))) × (List (Int × Int)))) × ((List (Int × (Int × (Int × (Bool × Bool))))) × (List (List Int))))) (x1 : Int) (x29 : Bool) (x3 : Int) (x4 : Int) : Option (Bool × Unit) := (if x29 = true then (if ¬ (y11_3 = true) then (g_r3 true) else (g_r3 (decide (x3 < y11_0)))) else (g_c3 y11_0 y11_1 y11_2 (decide (y11_3 = true)) (decide (y11_4 = true)) x0 x1 x4))
def f112_r3_B (k : Nat) (x10 : Bool) : Option (Bool × Unit) := some (decide (x10 = true), ())
def f112_c3_B (k : Nat) (g_c8 : f112_t_c8) (y11_0 : Int) (y11_1 : Int) (y11_2 : Int) (y11_3 : Bool) (y11_4 : Bool) (x0 : (((List (Int × Int)) × ((List (Int × (Int × (Int × Int)))) × (List (Int × Int)))) × ((List (Int × (Int × (Int × (Bool × Bool))))) × (List (List Int))))) (x1 : Int) (x4 : Int) : Option (Bool × Unit) := (if ¬ (x4 = y11_1) then some (decide (x4 < y11_1), ()) else (if 0 ≤ x1 then ((f61 k x0 x1).bind fun r1 => (g_c8 y11_0 y11_1 y11_2 (decide (y11_3 = true)) (decide (y11_4 = true)) ([] : List Int) x0 r1.1)) else (g_c8 y11_0 y11_1 y11_2 (decide (y11_3 = true)) (decide (y11_4 = true)) ([] : List Int) x0 ([] : List Int))))
def f112_c8_B (k : Nat) (g_c10 : f112_t_c10) (y11_0 : Int) (y11_1 : Int) (y11_2 : Int) (y11_3 : Bool) (y11_4 : Bool) (y48 : (List Int)) (x0 : (((List (Int × Int)) × ((List (Int × (Int × (Int × Int)))) × (List (Int × Int)))) × ((List (Int × (Int × (Int × (Bool × Bool))))) × (List (List Int))))) (x12 : (List Int)) : Option (Bool × Unit) := (if 0 ≤ y11_2 then ((f61 k x0 y11_2).bind fun r1 => (g_c10 x12 r1.1)) else (g_c10 x12 y48))
def f112_c10_B (k : Nat) (x12 : (List Int)) (x13 : (List Int)) : Option (Bool × Unit) := ((f81 k x12 x13).bind fun r1 => some (decide (r1.1 < 0), ()))
theorem f112_r3_P (k : Nat) (G_c3 G_c8 G_c10 : f112_S) : f112_o_r3 (fun σ => f112_a k (f112_F_r3 k G_c3 G_c8 G_c10) .nx σ) = f112_r3_B k := by kernel_rfl
def f112_r3 (k : Nat) : f112_t_r3 := f112_r3_B k
theorem f112_r3_E (k : Nat) : f112_o_r3 (f112_C_r3 k) = f112_r3 k :=
  Eq.trans (congrArg f112_o_r3 (ap_fn (f112_f_r3 k))) ((f112_r3_P k (f112_C_c3 k) (f112_C_c8 k) (f112_C_c10 k)).trans (by rfl))
theorem f112_c10_P (k : Nat) : f112_o_c10 (fun σ => f112_a k (f112_F_c10 k) .nx σ) = f112_c10_B k := by kernel_rfl
def f112_c10 (k : Nat) : f112_t_c10 := f112_c10_B k
theorem f112_c10_E (k : Nat) : f112_o_c10 (f112_C_c10 k) = f112_c10 k :=
  Eq.trans (congrArg f112_o_c10 (ap_fn (f112_f_c10 k))) ((f112_c10_P k).trans (by rfl))
theorem f112_c8_P (k : Nat) (G_c10 : f112_S) : f112_o_c8 (fun σ => f112_a k (f112_F_c8 k G_c10) .nx σ) = f112_c8_B k (f112_o_c10 G_c10) := by kernel_rfl
def f112_c8 (k : Nat) : f112_t_c8 := f112_c8_B k (f112_c10 k)
theorem f112_c8_E (k : Nat) : f112_o_c8 (f112_C_c8 k) = f112_c8 k :=
  Eq.trans (congrArg f112_o_c8 (ap_fn (f112_f_c8 k))) ((f112_c8_P k (f112_C_c10 k)).trans (by rw [f112_c10_E k] <;> rfl))
theorem f112_c3_P (k : Nat) (G_c8 G_c10 : f112_S) : f112_o_c3 (fun σ => f112_a k (f112_F_c3 k G_c8 G_c10) .nx σ) = f112_c3_B k (f112_o_c8 G_c8) := by kernel_rfl
def f112_c3 (k : Nat) : f112_t_c3 := f112_c3_B k (f112_c8 k)
theorem f112_c3_E (k : Nat) : f112_o_c3 (f112_C_c3 k) = f112_c3 k :=
  Eq.trans (congrArg f112_o_c3 (ap_fn (f112_f_c3 k))) ((f112_c3_P k (f112_C_c8 k) (f112_C_c10 k)).trans (by rw [f112_c8_E k] <;> rfl))
theorem f112_r2_P (k : Nat) (G_r3 G_c3 G_c8 G_c10 : f112_S) : f112_o_r2 (fun σ => f112_a k (f112_F_r2 k G_r3 G_c3 G_c8 G_c10) .nx σ) = f112_r2_B k (f112_o_r3 G_r3) (f112_o_c3 G_c3) := by kernel_rfl
def f112_r2 (k : Nat) : f112_t_r2 := f112_r2_B k (f112_r3 k) (f112_c3 k)
theorem f112_r2_E (k : Nat) : f112_o_r2 (f112_C_r2 k) = f112_r2 k :=
  Eq.trans (congrArg f112_o_r2 (ap_fn (f112_f_r2 k))) ((f112_r2_P k (f112_C_r3 k) (f112_C_c3 k) (f112_C_c8 k) (f112_C_c10 k)).trans (by rw [f112_r3_E k, f112_c3_E k] <;> rfl))
theorem f112_entry_P (k : Nat) (G_r2 G_r3 G_c3 G_c8 G_c10 : f112_S) (xs : DL f112_sig) : f112_a k (.c (f112_p 2) 0 :: .c (f112_p 6) 0 :: .c (f112_p 28) 0 :: .j G_r2 :: f112_F_r2 k G_r3 G_c3 G_c8 G_c10) .nx (σ0 65 208 f112_sig xs) = f112_entry_B k (f112_o_r2 G_r2) xs.1 xs.2.1 xs.2.2.1 xs.2.2.2.1 xs.2.2.2.2.1 := by kernel_rfl
def f112 (k : Nat) (a0 : Td36) (a1 : Int) (a2 : Int) (a3 : Int) (a4 : Int) : Option (Bool × Unit) := f112_entry_B k (f112_r2 k) a0 a1 a2 a3 a4
theorem f112_fe (k : Nat) : f112_a k [.c (f112_p 1) 0] = f112_a k (.c (f112_p 2) 0 :: .c (f112_p 6) 0 :: .c (f112_p 28) 0 :: .j (f112_C_r2 k) :: f112_F_r2 k (f112_C_r3 k) (f112_C_c3 k) (f112_C_c8 k) (f112_C_c10 k)) := (Eq.trans ap_sq (ap_cons _ (Eq.trans ap_sq (ap_cons _ (Eq.trans ap_sq (Eq.trans ap_sq (ap_cons _ (Eq.trans (ap_pass (C := (f112_C_r2 k)) (fun _ => rfl)) (ap_cons _ (f112_f_r2 k))))))))))
theorem f112_eq (k : Nat) (xs : DL f112_sig) : den T f112_Y (f112_E k) f112_A k f112_c 0 (σ0 65 208 f112_sig xs) (Kfin T f112_rs f112_ts) = f112 k xs.1 xs.2.1 xs.2.2.1 xs.2.2.2.1 xs.2.2.2.2.1 :=
  Eq.trans (Eq.trans den_sb (ap_at (f112_fe k) _)) ((f112_entry_P k (f112_C_r2 k) (f112_C_r3 k) (f112_C_c3 k) (f112_C_c8 k) (f112_C_c10 k) xs).trans (by rw [f112_r2_E k] <;> rfl))
noncomputable def f112_con (k : Nat) : Con := ⟨f112_sig, f112_rs, fun xs => f112 k xs.1 xs.2.1 xs.2.2.1 xs.2.2.2.1 xs.2.2.2.2.1⟩
theorem f112_ok (k : Nat) : PureOK Try.prog 112 f112_sig f112_rs (fun xs => f112 k xs.1 xs.2.1 xs.2.2.1 xs.2.2.2.1 xs.2.2.2.2.1) :=
  (pure_of_den (k := k) (A := f112_A) (T := T) (Y := f112_Y) (E := f112_E k) (M := 208) (ts := f112_ts) T_ok ⟨f61_ok k, f81_ok k, trivial⟩ ⟨f61_ent, f81_ent, trivial⟩ mixed (f := 112) (fn := Try.f112) (c := f112_c) (by kernel_rfl) (by kernel_rfl) (by kernel_rfl) (by decide) (by kernel_rfl)).congr fun xs => (f112_eq k xs).symm
theorem f112_ent : Ent Try.prog 112 := fun args w => by kernel_rfl
/-! ### (*terrier/route.search).offer: function 82 -/
noncomputable def f82_c : Code := Try.f82.body.getD .skip
noncomputable abbrev f82_p (n : Nat) : Code := sb f82_c n
abbrev f82_sig : List PT := [(false, (.int .i64)), (false, (.int .i64))]
abbrev f82_rs : List RT := []
abbrev f82_ts : List RV := []
abbrev f82_ls : List LO := [.box [.d Tq9, .o, .d Tq22], .row Tq26]
abbrev f82_S := St → Option (LOD f82_ls × RDL f82_rs)
abbrev f82_L := List (Fr (LOD f82_ls × RDL f82_rs))
def f82_Y : Tys := []
noncomputable def f82_E (k : Nat) : Env := [(112, .c (f112_con k))]
def f82_A : Ann := { conds := [(2, { slots := [(0, .id), (1, .id), (2, .id), (6, .id), (7, .id)], keys := [(0, [.val false Tq2, .val false Tq6, .val false Tq2, .id, .val false Tq1]), (1, [])] }), (4, { slots := [(0, .id)], keys := [(0, [.val false Tq2, .val false Tq6, .val false Tq2, .id, .val false Tq1]), (1, [])] })], regs := [(3, { slots := [(0, .id), (1, .id), (2, .id), (6, .id), (7, .id), (54, .bool)], keys := [(0, [.val false Tq2, .val false Tq6, .val false Tq2, .id, .val false Tq1]), (1, [])] })] }
noncomputable abbrev f82_a (k : Nat) (F : f82_L) : Kont (LOD f82_ls × RDL f82_rs) := ap T f82_Y (f82_E k) f82_A k (KfinB T true f82_ls f82_rs f82_ts) F
def f82_s_c2 (y0_0 : (List (Int × Int))) (y0_1 : (List (Int × (Int × (Int × Int))))) (y0_2 : (List (Int × Int))) (y0_4 : (List (List Int))) (y1 : (List (Int × (Int × (Int × (Bool × Bool)))))) (x1 : Int) (x2 : Int) (x6 : Int) (x7 : Int) : St := mkS 65 210 [(0, aP 0), (1, aI x1), (2, aI x2), (6, aI x6), (7, aI x7)] [(0, .box [cV Tq2 y0_0, cV Tq6 y0_1, cV Tq2 y0_2, .own 1, cV Tq1 y0_4]), (1, .vec Tq26 y1)]
abbrev f82_t_c2 := (List (Int × Int)) → (List (Int × (Int × (Int × Int)))) → (List (Int × Int)) → (List (List Int)) → (List (Int × (Int × (Int × (Bool × Bool))))) → Int → Int → Int → Int → Option (((Td12 × Td27 × Unit) × (List (Int × Td29)) × Unit) × (Unit))
abbrev f82_o_c2 (R : f82_S) : f82_t_c2 := (fun y0_0 y0_1 y0_2 y0_4 y1 x1 x2 x6 x7 => R (f82_s_c2 y0_0 y0_1 y0_2 y0_4 y1 x1 x2 x6 x7))
noncomputable def f82_Q_c2 (k : Nat) : f82_L := [.c (f82_p 7) 0]
noncomputable def f82_C_c2 (k : Nat) : f82_S := fun σ => f82_a k (f82_Q_c2 k) .nx σ
def f82_s_r3 (y0_0 : (List (Int × Int))) (y0_1 : (List (Int × (Int × (Int × Int))))) (y0_2 : (List (Int × Int))) (y0_4 : (List (List Int))) (y1 : (List (Int × (Int × (Int × (Bool × Bool)))))) (x1 : Int) (x2 : Int) (x54 : Bool) (x6 : Int) (x7 : Int) : St := mkS 65 210 [(0, aP 0), (1, aI x1), (2, aI x2), (6, aI x6), (7, aI x7), (54, aB x54)] [(0, .box [cV Tq2 y0_0, cV Tq6 y0_1, cV Tq2 y0_2, .own 1, cV Tq1 y0_4]), (1, .vec Tq26 y1)]
abbrev f82_t_r3 := (List (Int × Int)) → (List (Int × (Int × (Int × Int)))) → (List (Int × Int)) → (List (List Int)) → (List (Int × (Int × (Int × (Bool × Bool))))) → Int → Int → Bool → Int → Int → Option (((Td12 × Td27 × Unit) × (List (Int × Td29)) × Unit) × (Unit))
abbrev f82_o_r3 (R : f82_S) : f82_t_r3 := (fun y0_0 y0_1 y0_2 y0_4 y1 x1 x2 x54 x6 x7 => R (f82_s_r3 y0_0 y0_1 y0_2 y0_4 y1 x1 x2 x54 x6 x7))
noncomputable def f82_Q_r3 (k : Nat) : f82_L := [.c (f82_p 15) 0]
noncomputable def f82_C_r3 (k : Nat) : f82_S := fun σ => f82_a k (f82_Q_r3 k) .nx σ
def f82_s_c4 (y0_0 : (List (Int × Int))) (y0_1 : (List (Int × (Int × (Int × Int))))) (y0_2 : (List (Int × Int))) (y0_4 : (List (List Int))) (y1 : (List (Int × (Int × (Int × (Bool × Bool)))))) : St := mkS 65 210 [(0, aP 0)] [(0, .box [cV Tq2 y0_0, cV Tq6 y0_1, cV Tq2 y0_2, .own 1, cV Tq1 y0_4]), (1, .vec Tq26 y1)]
abbrev f82_t_c4 := (List (Int × Int)) → (List (Int × (Int × (Int × Int)))) → (List (Int × Int)) → (List (List Int)) → (List (Int × (Int × (Int × (Bool × Bool))))) → Option (((Td12 × Td27 × Unit) × (List (Int × Td29)) × Unit) × (Unit))
abbrev f82_o_c4 (R : f82_S) : f82_t_c4 := (fun y0_0 y0_1 y0_2 y0_4 y1 => R (f82_s_c4 y0_0 y0_1 y0_2 y0_4 y1))
noncomputable def f82_Q_c4 (k : Nat) : f82_L := []
noncomputable def f82_C_c4 (k : Nat) : f82_S := fun σ => f82_a k (f82_Q_c4 k) .nx σ
noncomputable def f82_F_c4 (k : Nat) : f82_L := []
theorem f82_f_c4 (k : Nat) : f82_a k (f82_Q_c4 k) = f82_a k (f82_F_c4 k) := rfl
noncomputable def f82_F_r3 (k : Nat) (G_c4 : f82_S) : f82_L := .c (f82_p 15) 0 :: .j G_c4 :: f82_F_c4 k
theorem f82_f_r3 (k : Nat) : f82_a k (f82_Q_r3 k) = f82_a k (f82_F_r3 k (f82_C_c4 k)) := (ap_cons _ (Eq.trans (ap_pass (C := (f82_C_c4 k)) (fun _ => rfl)) (ap_cons _ (f82_f_c4 k))))
noncomputable def f82_F_c2 (k : Nat) (G_r3 G_c4 : f82_S) : f82_L := .c (f82_p 14) 0 :: .j G_r3 :: f82_F_r3 k G_c4
theorem f82_f_c2 (k : Nat) : f82_a k (f82_Q_c2 k) = f82_a k (f82_F_c2 k (f82_C_r3 k) (f82_C_c4 k)) := (Eq.trans ap_sq (ap_cons _ (Eq.trans (ap_pass (C := (f82_C_r3 k)) (fun _ => rfl)) (ap_cons _ (f82_f_r3 k)))))
def f82_entry_B (k : Nat) (g_c2 : f82_t_c2) (l0 : Td12) (l1 : Td27) (l2 : Td34) (a0 : Int) (a1 : Int) : Option (((Td12 × Td27 × Unit) × (List (Int × Td29)) × Unit) × (Unit)) := (if 0 ≤ a1 then (if a1 < (l0.2.1.length : Int) then (if 0 ≤ a0 then (if 0 ≤ a0 then (if a0 < (l2.length : Int) then (if 0 ≤ a0 then (if a0 < (l2.length : Int) then (g_c2 l0.1 l0.2.1 l0.2.2 l1 l2 a0 a1 (w64 (((((l0.2.1.getD (a1).toNat (0, (0, (0, 0)))).2).2).1) + ((l2.getD ((a0).toNat) (0, (0, (0, (false, false))))).1))) (w64 (1 + (((l2.getD ((a0).toNat) (0, (0, (0, (false, false))))).2).1)))) else none) else none) else none) else none) else (g_c2 l0.1 l0.2.1 l0.2.2 l1 l2 a0 a1 ((((l0.2.1.getD (a1).toNat (0, (0, (0, 0)))).2).2).1) 1)) else none) else none)
def f82_c2_B (k : Nat) (g_r3 : f82_t_r3) (y0_0 : (List (Int × Int))) (y0_1 : (List (Int × (Int × (Int × Int))))) (y0_2 : (List (Int × Int))) (y0_4 : (List (List Int))) (y1 : (List (Int × (Int × (Int × (Bool × Bool)))))) (x1 : Int) (x2 : Int) (x6 : Int) (x7 : Int) : Option (((Td12 × Td27 × Unit) × (List (Int × Td29)) × Unit) × (Unit)) := (if 0 ≤ x2 then (if x2 < (y1.length : Int) then (if ¬ ((((((y1.getD ((x2).toNat) (0, (0, (0, (false, false))))).2).2).2).2) = true) then ((f112 k ((y0_0, (y0_1, y0_2)), (y1, y0_4)) x1 x2 x6 x7).bind fun r1 => (g_r3 y0_0 y0_1 y0_2 y0_4 y1 x1 x2 (decide (r1.1 = true)) x6 x7)) else (g_r3 y0_0 y0_1 y0_2 y0_4 y1 x1 x2 false x6 x7)) else none) else none)
def f82_r3_B (k : Nat) (g_c4 : f82_t_c4) (y0_0 : (List (Int × Int))) (y0_1 : (List (Int × (Int × (Int × Int))))) (y0_2 : (List (Int × Int))) (y0_4 : (List (List Int))) (y1 : (List (Int × (Int × (Int × (Bool × Bool)))))) (x1 : Int) (x2 : Int) (x54 : Bool) (x6 : Int) (x7 : Int) : Option (((Td12 × Td27 × Unit) × (List (Int × Td29)) × Unit) × (Unit)) := (if x54 = true then (if 0 ≤ x2 then (if x2 < (y1.length : Int) then (g_c4 y0_0 y0_1 y0_2 y0_4 (y1.set ((x2).toNat) (x6, (x7, (x1, (true, false)))))) else none) else none) else (g_c4 y0_0 y0_1 y0_2 y0_4 y1))
def f82_c4_B (k : Nat) (y0_0 : (List (Int × Int))) (y0_1 : (List (Int × (Int × (Int × Int))))) (y0_2 : (List (Int × Int))) (y0_4 : (List (List Int))) (y1 : (List (Int × (Int × (Int × (Bool × Bool)))))) : Option (((Td12 × Td27 × Unit) × (List (Int × Td29)) × Unit) × (Unit)) := some ((((y0_0, (y0_1, y0_2)), y0_4, ()), (y1, ())), (()))
theorem f82_c4_P (k : Nat) : f82_o_c4 (fun σ => f82_a k (f82_F_c4 k) .nx σ) = f82_c4_B k := by kernel_rfl
def f82_c4 (k : Nat) : f82_t_c4 := f82_c4_B k
theorem f82_c4_E (k : Nat) : f82_o_c4 (f82_C_c4 k) = f82_c4 k :=
  Eq.trans (congrArg f82_o_c4 (ap_fn (f82_f_c4 k))) ((f82_c4_P k).trans (by rfl))
theorem f82_r3_P (k : Nat) (G_c4 : f82_S) : f82_o_r3 (fun σ => f82_a k (f82_F_r3 k G_c4) .nx σ) = f82_r3_B k (f82_o_c4 G_c4) := by kernel_rfl
def f82_r3 (k : Nat) : f82_t_r3 := f82_r3_B k (f82_c4 k)
theorem f82_r3_E (k : Nat) : f82_o_r3 (f82_C_r3 k) = f82_r3 k :=
  Eq.trans (congrArg f82_o_r3 (ap_fn (f82_f_r3 k))) ((f82_r3_P k (f82_C_c4 k)).trans (by rw [f82_c4_E k] <;> rfl))
theorem f82_c2_P (k : Nat) (G_r3 G_c4 : f82_S) : f82_o_c2 (fun σ => f82_a k (f82_F_c2 k G_r3 G_c4) .nx σ) = f82_c2_B k (f82_o_r3 G_r3) := by kernel_rfl
def f82_c2 (k : Nat) : f82_t_c2 := f82_c2_B k (f82_r3 k)
theorem f82_c2_E (k : Nat) : f82_o_c2 (f82_C_c2 k) = f82_c2 k :=
  Eq.trans (congrArg f82_o_c2 (ap_fn (f82_f_c2 k))) ((f82_c2_P k (f82_C_r3 k) (f82_C_c4 k)).trans (by rw [f82_r3_E k] <;> rfl))
theorem f82_entry_P (k : Nat) (G_c2 G_r3 G_c4 : f82_S) (x : LOD f82_ls) (xs : DL f82_sig) : f82_a k (.c (f82_p 2) 0 :: .c (f82_p 12) 0 :: .c (f82_p 13) 0 :: .j G_c2 :: f82_F_c2 k G_r3 G_c4) .nx (σ0B 65 210 0 f82_ls x f82_sig xs) = f82_entry_B k (f82_o_c2 G_c2) x.1.1 x.1.2.1 x.2.1 xs.1 xs.2.1 := by kernel_rfl
def f82 (k : Nat) (l0 : Td12) (l1 : Td27) (l2 : Td34) (a0 : Int) (a1 : Int) : Option (((Td12 × Td27 × Unit) × (List (Int × Td29)) × Unit) × (Unit)) := f82_entry_B k (f82_c2 k) l0 l1 l2 a0 a1
theorem f82_fe (k : Nat) : f82_a k [.c (f82_p 1) 0] = f82_a k (.c (f82_p 2) 0 :: .c (f82_p 12) 0 :: .c (f82_p 13) 0 :: .j (f82_C_c2 k) :: f82_F_c2 k (f82_C_r3 k) (f82_C_c4 k)) := (Eq.trans ap_sq (ap_cons _ (Eq.trans ap_sq (Eq.trans ap_sq (ap_cons _ (ap_cons _ (Eq.trans (ap_pass (C := (f82_C_c2 k)) (fun _ => rfl)) (ap_cons _ (f82_f_c2 k)))))))))
theorem f82_eq (k : Nat) (x : LOD f82_ls) (xs : DL f82_sig) : den T f82_Y (f82_E k) f82_A k f82_c 0 (σ0B 65 210 0 f82_ls x f82_sig xs) (KfinB T true f82_ls f82_rs f82_ts) = f82 k x.1.1 x.1.2.1 x.2.1 xs.1 xs.2.1 :=
  Eq.trans (Eq.trans den_sb (ap_at (f82_fe k) _)) ((f82_entry_P k (f82_C_c2 k) (f82_C_r3 k) (f82_C_c4 k) x xs).trans (by rw [f82_c2_E k] <;> rfl))
noncomputable def f82_con (k : Nat) : BCon := ⟨0, true, f82_ls, f82_sig, f82_rs, fun x xs => f82 k x.1.1 x.1.2.1 x.2.1 xs.1 xs.2.1⟩
theorem f82_ok (k : Nat) : BoxOK Try.prog 82 0 true f82_ls f82_sig f82_rs (fun x xs => f82 k x.1.1 x.1.2.1 x.2.1 xs.1 xs.2.1) :=
  (box_of_den (k := k) (A := f82_A) (T := T) (Y := f82_Y) (E := f82_E k) (M := 210) (ts := f82_ts) T_ok ⟨f112_ok k, trivial⟩ ⟨f112_ent, trivial⟩ mixed (f := 82) (fn := Try.f82) (c := f82_c) (by kernel_rfl) (by kernel_rfl) (by kernel_rfl) (by decide) (by kernel_rfl) (by decide)).congr fun x xs => (f82_eq k x xs).symm
theorem f82_ent : Ent Try.prog 82 := fun args w => by kernel_rfl
/-! ### (*terrier/route.search).before: function 60 -/
noncomputable def f60_c : Code := Try.f60.body.getD .skip
noncomputable abbrev f60_p (n : Nat) : Code := sb f60_c n
abbrev f60_sig : List PT := [(false, (.ptr Tq33)), (false, (.int .i64)), (false, (.int .i64))]
abbrev f60_rs : List RT := [.d false .bool]
abbrev f60_ts : List RV := [.tmp 6]
abbrev f60_S := St → Option (RDL f60_rs)
abbrev f60_L := List (Fr (RDL f60_rs))
def f60_Y : Tys := []
noncomputable def f60_E (k : Nat) : Env := [(61, .c (f61_con k)), (81, .c (f81_con k))]
def f60_A : Ann := {}
noncomputable abbrev f60_a (k : Nat) (F : f60_L) : Kont (RDL f60_rs) := ap T f60_Y (f60_E k) f60_A k (Kfin T f60_rs f60_ts) F
def f60_entry_B (k : Nat) (a0 : Td36) (a1 : Int) (a2 : Int) : Option (Bool × Unit) := (if 0 ≤ a1 then (if a1 < (a0.2.1.length : Int) then (if 0 ≤ a2 then (if a2 < (a0.2.1.length : Int) then (if ¬ (((a0.2.1.getD (a1).toNat (0, (0, (0, (false, false))))).1) = ((a0.2.1.getD (a2).toNat (0, (0, (0, (false, false))))).1)) then some (decide (((a0.2.1.getD (a1).toNat (0, (0, (0, (false, false))))).1) < ((a0.2.1.getD (a2).toNat (0, (0, (0, (false, false))))).1)), ()) else (if ¬ ((((a0.2.1.getD (a1).toNat (0, (0, (0, (false, false))))).2).1) = (((a0.2.1.getD (a2).toNat (0, (0, (0, (false, false))))).2).1)) then some (decide ((((a0.2.1.getD (a1).toNat (0, (0, (0, (false, false))))).2).1) < (((a0.2.1.getD (a2).toNat (0, (0, (0, (false, false))))).2).1)), ()) else ((f61 k a0 a1).bind fun r1 => ((f61 k a0 a2).bind fun r2 => ((f81 k r1.1 r2.1).bind fun r3 => some (decide (r3.1 < 0), ())))))) else none) else none) else none) else none)
theorem f60_entry_P (k : Nat) (xs : DL f60_sig) : f60_a k (.c (f60_p 1) 0 :: []) .nx (σ0 51 160 f60_sig xs) = f60_entry_B k xs.1 xs.2.1 xs.2.2.1 := by kernel_rfl
def f60 (k : Nat) (a0 : Td36) (a1 : Int) (a2 : Int) : Option (Bool × Unit) := f60_entry_B k a0 a1 a2
theorem f60_eq (k : Nat) (xs : DL f60_sig) : den T f60_Y (f60_E k) f60_A k f60_c 0 (σ0 51 160 f60_sig xs) (Kfin T f60_rs f60_ts) = f60 k xs.1 xs.2.1 xs.2.2.1 :=
  Eq.trans (Eq.trans den_sb (ap_at (ap_cons _ rfl) _)) ((f60_entry_P k xs).trans (by rfl))
noncomputable def f60_con (k : Nat) : Con := ⟨f60_sig, f60_rs, fun xs => f60 k xs.1 xs.2.1 xs.2.2.1⟩
theorem f60_ok (k : Nat) : PureOK Try.prog 60 f60_sig f60_rs (fun xs => f60 k xs.1 xs.2.1 xs.2.2.1) :=
  (pure_of_den (k := k) (A := f60_A) (T := T) (Y := f60_Y) (E := f60_E k) (M := 160) (ts := f60_ts) T_ok ⟨f61_ok k, f81_ok k, trivial⟩ ⟨f61_ent, f81_ent, trivial⟩ mixed (f := 60) (fn := Try.f60) (c := f60_c) (by kernel_rfl) (by kernel_rfl) (by kernel_rfl) (by decide) (by kernel_rfl)).congr fun xs => (f60_eq k xs).symm
theorem f60_ent : Ent Try.prog 60 := fun args w => by kernel_rfl
/-! ### (*terrier/route.search).least: function 83 -/
noncomputable def f83_c : Code := Try.f83.body.getD .skip
noncomputable abbrev f83_p (n : Nat) : Code := sb f83_c n
abbrev f83_sig : List PT := [(false, (.ptr Tq33))]
abbrev f83_rs : List RT := [.d false (.int .i64)]
abbrev f83_ts : List RV := [.tmp 2]
abbrev f83_S := St → Option (RDL f83_rs)
abbrev f83_L := List (Fr (RDL f83_rs))
def f83_Y : Tys := []
noncomputable def f83_E (k : Nat) : Env := [(60, .c (f60_con k))]
def f83_A : Ann := { loops := [(0, { slots := [(0, .id), (3, .id), (9, .val false Tq26), (10, .id), (11, .id)] })], regs := [(5, { slots := [(0, .id), (3, .id), (4, .id), (9, .val false Tq26), (10, .id), (11, .id), (22, .bool)] }), (6, { slots := [(0, .id), (3, .id), (4, .id), (9, .val false Tq26), (10, .id), (11, .id), (30, .bool)] })], blks := [(1, { slots := [(0, .id), (3, .id), (9, .val false Tq26), (10, .id), (11, .id)] })], conds := [(7, { slots := [(0, .id), (3, .id), (9, .val false Tq26), (10, .id), (11, .id)] })] }
noncomputable abbrev f83_a (k : Nat) (F : f83_L) : Kont (RDL f83_rs) := ap T f83_Y (f83_E k) f83_A k (Kfin T f83_rs f83_ts) F
def f83_s_l0 (x0 : (((List (Int × Int)) × ((List (Int × (Int × (Int × Int)))) × (List (Int × Int)))) × ((List (Int × (Int × (Int × (Bool × Bool))))) × (List (List Int))))) (x10 : Int) (x11 : Int) (x3 : Int) (x9 : (List (Int × (Int × (Int × (Bool × Bool)))))) : St := mkS 34 112 [(0, .cp (.one (.fptr Tq33 x0 0))), (3, aI x3), (9, aV Tq26 x9), (10, aI x10), (11, aI x11)] []
abbrev f83_t_l0 := (((List (Int × Int)) × ((List (Int × (Int × (Int × Int)))) × (List (Int × Int)))) × ((List (Int × (Int × (Int × (Bool × Bool))))) × (List (List Int)))) → Int → Int → Int → (List (Int × (Int × (Int × (Bool × Bool))))) → Option (Int × Unit)
abbrev f83_o_l0 (R : f83_S) : f83_t_l0 := (fun x0 x10 x11 x3 x9 => R (f83_s_l0 x0 x10 x11 x3 x9))
noncomputable def f83_Q_l0 (k : Nat) (R_l0 : f83_S) : f83_L := [.c (f83_p 116) 0, .j (fun σ => R_l0 (cut f83_A.loops 0 σ)), .blk 0, .c (f83_p 15) 0]
noncomputable def f83_C_l0 (k : Nat) (n : Nat) (σ : St) : Option (RDL f83_rs) := loopK (fun σ K => den T f83_Y (f83_E k) f83_A k (f83_p 116) 0 σ K) (cut f83_A.loops 0) (f83_a k [.blk 0, .c (f83_p 15) 0]) n σ
def f83_s_r5 (x0 : (((List (Int × Int)) × ((List (Int × (Int × (Int × Int)))) × (List (Int × Int)))) × ((List (Int × (Int × (Int × (Bool × Bool))))) × (List (List Int))))) (x10 : Int) (x11 : Int) (x22 : Bool) (x3 : Int) (x9 : (List (Int × (Int × (Int × (Bool × Bool)))))) : St := mkS 34 112 [(0, .cp (.one (.fptr Tq33 x0 0))), (3, aI x3), (4, aI x11), (9, aV Tq26 x9), (10, aI x10), (11, aI x11), (22, aB x22)] []
abbrev f83_t_r5 := (((List (Int × Int)) × ((List (Int × (Int × (Int × Int)))) × (List (Int × Int)))) × ((List (Int × (Int × (Int × (Bool × Bool))))) × (List (List Int)))) → Int → Int → Bool → Int → (List (Int × (Int × (Int × (Bool × Bool))))) → Option (Int × Unit)
abbrev f83_o_r5 (R : f83_S) : f83_t_r5 := (fun x0 x10 x11 x22 x3 x9 => R (f83_s_r5 x0 x10 x11 x22 x3 x9))
noncomputable def f83_Q_r5 (k : Nat) (R_l0 : f83_S) : f83_L := [.c (f83_p 14949) 1, .c (f83_p 7475) 1, .blk 1, .c (f83_p 935) 0, .j (fun σ => R_l0 (cut f83_A.loops 0 σ)), .blk 0, .c (f83_p 15) 0]
noncomputable def f83_C_r5 (k : Nat) (R_l0 : f83_S) : f83_S := fun σ => f83_a k (f83_Q_r5 k R_l0) .nx σ
def f83_s_b1 (x0 : (((List (Int × Int)) × ((List (Int × (Int × (Int × Int)))) × (List (Int × Int)))) × ((List (Int × (Int × (Int × (Bool × Bool))))) × (List (List Int))))) (x10 : Int) (x11 : Int) (x3 : Int) (x9 : (List (Int × (Int × (Int × (Bool × Bool)))))) : St := mkS 34 112 [(0, .cp (.one (.fptr Tq33 x0 0))), (3, aI x3), (9, aV Tq26 x9), (10, aI x10), (11, aI x11)] []
abbrev f83_t_b1 := (((List (Int × Int)) × ((List (Int × (Int × (Int × Int)))) × (List (Int × Int)))) × ((List (Int × (Int × (Int × (Bool × Bool))))) × (List (List Int)))) → Int → Int → Int → (List (Int × (Int × (Int × (Bool × Bool))))) → Option (Int × Unit)
abbrev f83_o_b1 (R : f83_S) : f83_t_b1 := (fun x0 x10 x11 x3 x9 => R (f83_s_b1 x0 x10 x11 x3 x9))
noncomputable def f83_Q_b1 (k : Nat) (R_l0 : f83_S) : f83_L := [.c (f83_p 935) 0, .j (fun σ => R_l0 (cut f83_A.loops 0 σ)), .blk 0, .c (f83_p 15) 0]
noncomputable def f83_C_b1 (k : Nat) (R_l0 : f83_S) : f83_S := fun σ => f83_a k (f83_Q_b1 k R_l0) .nx σ
def f83_s_r6 (x0 : (((List (Int × Int)) × ((List (Int × (Int × (Int × Int)))) × (List (Int × Int)))) × ((List (Int × (Int × (Int × (Bool × Bool))))) × (List (List Int))))) (x10 : Int) (x11 : Int) (x3 : Int) (x30 : Bool) (x9 : (List (Int × (Int × (Int × (Bool × Bool)))))) : St := mkS 34 112 [(0, .cp (.one (.fptr Tq33 x0 0))), (3, aI x3), (4, aI x11), (9, aV Tq26 x9), (10, aI x10), (11, aI x11), (30, aB x30)] []
abbrev f83_t_r6 := (((List (Int × Int)) × ((List (Int × (Int × (Int × Int)))) × (List (Int × Int)))) × ((List (Int × (Int × (Int × (Bool × Bool))))) × (List (List Int)))) → Int → Int → Int → Bool → (List (Int × (Int × (Int × (Bool × Bool))))) → Option (Int × Unit)
abbrev f83_o_r6 (R : f83_S) : f83_t_r6 := (fun x0 x10 x11 x3 x30 x9 => R (f83_s_r6 x0 x10 x11 x3 x30 x9))
noncomputable def f83_Q_r6 (k : Nat) (R_l0 : f83_S) : f83_L := [.c (f83_p 14951) 1, .blk 1, .c (f83_p 935) 0, .j (fun σ => R_l0 (cut f83_A.loops 0 σ)), .blk 0, .c (f83_p 15) 0]
noncomputable def f83_C_r6 (k : Nat) (R_l0 : f83_S) : f83_S := fun σ => f83_a k (f83_Q_r6 k R_l0) .nx σ
def f83_s_c7 (x0 : (((List (Int × Int)) × ((List (Int × (Int × (Int × Int)))) × (List (Int × Int)))) × ((List (Int × (Int × (Int × (Bool × Bool))))) × (List (List Int))))) (x10 : Int) (x11 : Int) (x3 : Int) (x9 : (List (Int × (Int × (Int × (Bool × Bool)))))) : St := mkS 34 112 [(0, .cp (.one (.fptr Tq33 x0 0))), (3, aI x3), (9, aV Tq26 x9), (10, aI x10), (11, aI x11)] []
abbrev f83_t_c7 := (((List (Int × Int)) × ((List (Int × (Int × (Int × Int)))) × (List (Int × Int)))) × ((List (Int × (Int × (Int × (Bool × Bool))))) × (List (List Int)))) → Int → Int → Int → (List (Int × (Int × (Int × (Bool × Bool))))) → Option (Int × Unit)
abbrev f83_o_c7 (R : f83_S) : f83_t_c7 := (fun x0 x10 x11 x3 x9 => R (f83_s_c7 x0 x10 x11 x3 x9))
noncomputable def f83_Q_c7 (k : Nat) (R_l0 : f83_S) : f83_L := [.blk 1, .c (f83_p 935) 0, .j (fun σ => R_l0 (cut f83_A.loops 0 σ)), .blk 0, .c (f83_p 15) 0]
noncomputable def f83_C_c7 (k : Nat) (R_l0 : f83_S) : f83_S := fun σ => f83_a k (f83_Q_c7 k R_l0) .nx σ
noncomputable def f83_F_b1 (k : Nat) (G_l0 : f83_S) : f83_L := .c (f83_p 935) 0 :: .j (fun σ => G_l0 (cut f83_A.loops 0 σ)) :: .blk 0 :: .c (f83_p 15) 0 :: []
theorem f83_f_b1 (k : Nat) (R_l0 : f83_S) : f83_a k (f83_Q_b1 k R_l0) = f83_a k (f83_F_b1 k R_l0) := (ap_cons _ (ap_cons _ (ap_cons _ (ap_cons _ rfl))))
noncomputable def f83_F_c7 (k : Nat) (G_l0 G_b1 : f83_S) : f83_L := .b 1 (fun σ => G_b1 (cut f83_A.blks 1 σ)) :: f83_F_b1 k G_l0
theorem f83_f_c7 (k : Nat) (R_l0 : f83_S) : f83_a k (f83_Q_c7 k R_l0) = f83_a k (f83_F_c7 k R_l0 (f83_C_b1 k R_l0)) := (Eq.trans (ap_blkb (C := (f83_C_b1 k R_l0)) (fun _ => rfl)) (ap_cons _ (f83_f_b1 k R_l0)))
noncomputable def f83_F_r6 (k : Nat) (G_l0 G_b1 G_c7 : f83_S) : f83_L := .c (f83_p 14951) 1 :: .j G_c7 :: f83_F_c7 k G_l0 G_b1
theorem f83_f_r6 (k : Nat) (R_l0 : f83_S) : f83_a k (f83_Q_r6 k R_l0) = f83_a k (f83_F_r6 k R_l0 (f83_C_b1 k R_l0) (f83_C_c7 k R_l0)) := (ap_cons _ (Eq.trans (ap_pass (C := (f83_C_c7 k R_l0)) (fun _ => rfl)) (ap_cons _ (f83_f_c7 k R_l0))))
noncomputable def f83_F_r5 (k : Nat) (G_l0 G_b1 G_r6 G_c7 : f83_S) : f83_L := .c (f83_p 14949) 1 :: .c (f83_p 14950) 1 :: .j G_r6 :: f83_F_r6 k G_l0 G_b1 G_c7
theorem f83_f_r5 (k : Nat) (R_l0 : f83_S) : f83_a k (f83_Q_r5 k R_l0) = f83_a k (f83_F_r5 k R_l0 (f83_C_b1 k R_l0) (f83_C_r6 k R_l0) (f83_C_c7 k R_l0)) := (ap_cons _ (Eq.trans ap_sq (ap_cons _ (Eq.trans (ap_pass (C := (f83_C_r6 k R_l0)) (fun _ => rfl)) (ap_cons _ (f83_f_r6 k R_l0))))))
noncomputable def f83_F_l0 (k : Nat) (G_l0 G_r5 G_b1 G_r6 G_c7 : f83_S) : f83_L := .c (f83_p 232) 0 :: .c (f83_p 466) 0 :: .j (fun σ => f83_a k (.c (f83_p 3736) 1 :: .c (f83_p 14948) 1 :: .j G_r5 :: f83_F_r5 k G_l0 G_b1 G_r6 G_c7) .nx σ) :: f83_F_b1 k G_l0
theorem f83_f_l0 (k : Nat) (R_l0 : f83_S) : f83_a k (f83_Q_l0 k R_l0) = f83_a k (f83_F_l0 k R_l0 (f83_C_r5 k R_l0) (f83_C_b1 k R_l0) (f83_C_r6 k R_l0) (f83_C_c7 k R_l0)) := (Eq.trans ap_sq (ap_cons _ (Eq.trans ap_sq (ap_cons _ (Eq.trans ap_sq (Eq.trans (ap_bl 1) (Eq.trans (ap_j (Eq.trans ap_sq (ap_cons _ (Eq.trans ap_sq (Eq.trans ap_sq (ap_cons _ (Eq.trans (ap_pass (C := (f83_C_r5 k R_l0)) (fun _ => rfl)) (ap_cons _ (f83_f_r5 k R_l0))))))))) (ap_cons _ (f83_f_b1 k R_l0)))))))))
def f83_entry_B (k : Nat) (g_l0 : f83_t_l0) (a0 : Td36) : Option (Int × Unit) := (g_l0 a0 (a0.2.1.length : Int) 0 (-1) a0.2.1)
def f83_l0_B (k : Nat) (g_r5 : f83_t_r5) (x0 : (((List (Int × Int)) × ((List (Int × (Int × (Int × Int)))) × (List (Int × Int)))) × ((List (Int × (Int × (Int × (Bool × Bool))))) × (List (List Int))))) (x10 : Int) (x11 : Int) (x3 : Int) (x9 : (List (Int × (Int × (Int × (Bool × Bool)))))) : Option (Int × Unit) := (if x11 < x10 then (if 0 ≤ x11 then (if x11 < (x9.length : Int) then (if ¬ ((((((x9.getD (x11).toNat (0, (0, (0, (false, false))))).2).2).2).1) = true) then (g_r5 x0 x10 x11 true x3 x9) else (g_r5 x0 x10 x11 (decide ((((((x9.getD (x11).toNat (0, (0, (0, (false, false))))).2).2).2).2) = true)) x3 x9)) else none) else none) else some (x3, ()))
def f83_r5_B (k : Nat) (g_b1 : f83_t_b1) (g_r6 : f83_t_r6) (x0 : (((List (Int × Int)) × ((List (Int × (Int × (Int × Int)))) × (List (Int × Int)))) × ((List (Int × (Int × (Int × (Bool × Bool))))) × (List (List Int))))) (x10 : Int) (x11 : Int) (x22 : Bool) (x3 : Int) (x9 : (List (Int × (Int × (Int × (Bool × Bool)))))) : Option (Int × Unit) := (if x22 = true then (g_b1 x0 x10 x11 x3 x9) else (if x3 < 0 then (g_r6 x0 x10 x11 x3 true x9) else ((f60 k x0 x11 x3).bind fun r1 => (g_r6 x0 x10 x11 x3 (decide (r1.1 = true)) x9))))
def f83_b1_B (k : Nat) (g_l0 : f83_t_l0) (x0 : (((List (Int × Int)) × ((List (Int × (Int × (Int × Int)))) × (List (Int × Int)))) × ((List (Int × (Int × (Int × (Bool × Bool))))) × (List (List Int))))) (x10 : Int) (x11 : Int) (x3 : Int) (x9 : (List (Int × (Int × (Int × (Bool × Bool)))))) : Option (Int × Unit) := (g_l0 x0 x10 (w64 (x11 + 1)) x3 x9)
def f83_r6_B (k : Nat) (g_c7 : f83_t_c7) (x0 : (((List (Int × Int)) × ((List (Int × (Int × (Int × Int)))) × (List (Int × Int)))) × ((List (Int × (Int × (Int × (Bool × Bool))))) × (List (List Int))))) (x10 : Int) (x11 : Int) (x3 : Int) (x30 : Bool) (x9 : (List (Int × (Int × (Int × (Bool × Bool)))))) : Option (Int × Unit) := (if x30 = true then (g_c7 x0 x10 x11 x11 x9) else (g_c7 x0 x10 x11 x3 x9))
def f83_c7_B (k : Nat) (g_b1 : f83_t_b1) (x0 : (((List (Int × Int)) × ((List (Int × (Int × (Int × Int)))) × (List (Int × Int)))) × ((List (Int × (Int × (Int × (Bool × Bool))))) × (List (List Int))))) (x10 : Int) (x11 : Int) (x3 : Int) (x9 : (List (Int × (Int × (Int × (Bool × Bool)))))) : Option (Int × Unit) := (g_b1 x0 x10 x11 x3 x9)
theorem f83_b1_P (k : Nat) (G_l0 : f83_S) : f83_o_b1 (fun σ => f83_a k (f83_F_b1 k G_l0) .nx σ) = f83_b1_B k (f83_o_l0 G_l0) := by kernel_rfl
def f83_b1 (k : Nat) (r_l0 : f83_t_l0) : f83_t_b1 := f83_b1_B k r_l0
theorem f83_b1_E (k : Nat) (R_l0 : f83_S) : f83_o_b1 (f83_C_b1 k R_l0) = f83_b1 k (f83_o_l0 R_l0) :=
  Eq.trans (congrArg f83_o_b1 (ap_fn (f83_f_b1 k R_l0))) ((f83_b1_P k R_l0).trans (by rfl))
theorem f83_c7_P (k : Nat) (G_l0 G_b1 : f83_S) : f83_o_c7 (fun σ => f83_a k (f83_F_c7 k G_l0 G_b1) .nx σ) = f83_c7_B k (f83_o_b1 G_b1) := by kernel_rfl
def f83_c7 (k : Nat) (r_l0 : f83_t_l0) : f83_t_c7 := f83_c7_B k (f83_b1 k r_l0)
theorem f83_c7_E (k : Nat) (R_l0 : f83_S) : f83_o_c7 (f83_C_c7 k R_l0) = f83_c7 k (f83_o_l0 R_l0) :=
  Eq.trans (congrArg f83_o_c7 (ap_fn (f83_f_c7 k R_l0))) ((f83_c7_P k R_l0 (f83_C_b1 k R_l0)).trans (by rw [f83_b1_E k R_l0] <;> rfl))
theorem f83_r6_P (k : Nat) (G_l0 G_b1 G_c7 : f83_S) : f83_o_r6 (fun σ => f83_a k (f83_F_r6 k G_l0 G_b1 G_c7) .nx σ) = f83_r6_B k (f83_o_c7 G_c7) := by kernel_rfl
def f83_r6 (k : Nat) (r_l0 : f83_t_l0) : f83_t_r6 := f83_r6_B k (f83_c7 k r_l0)
theorem f83_r6_E (k : Nat) (R_l0 : f83_S) : f83_o_r6 (f83_C_r6 k R_l0) = f83_r6 k (f83_o_l0 R_l0) :=
  Eq.trans (congrArg f83_o_r6 (ap_fn (f83_f_r6 k R_l0))) ((f83_r6_P k R_l0 (f83_C_b1 k R_l0) (f83_C_c7 k R_l0)).trans (by rw [f83_c7_E k R_l0] <;> rfl))
theorem f83_r5_P (k : Nat) (G_l0 G_b1 G_r6 G_c7 : f83_S) : f83_o_r5 (fun σ => f83_a k (f83_F_r5 k G_l0 G_b1 G_r6 G_c7) .nx σ) = f83_r5_B k (f83_o_b1 G_b1) (f83_o_r6 G_r6) := by kernel_rfl
def f83_r5 (k : Nat) (r_l0 : f83_t_l0) : f83_t_r5 := f83_r5_B k (f83_b1 k r_l0) (f83_r6 k r_l0)
theorem f83_r5_E (k : Nat) (R_l0 : f83_S) : f83_o_r5 (f83_C_r5 k R_l0) = f83_r5 k (f83_o_l0 R_l0) :=
  Eq.trans (congrArg f83_o_r5 (ap_fn (f83_f_r5 k R_l0))) ((f83_r5_P k R_l0 (f83_C_b1 k R_l0) (f83_C_r6 k R_l0) (f83_C_c7 k R_l0)).trans (by rw [f83_b1_E k R_l0, f83_r6_E k R_l0] <;> rfl))
theorem f83_l0_P (k : Nat) (G_l0 G_r5 G_b1 G_r6 G_c7 : f83_S) : f83_o_l0 (fun σ => f83_a k (f83_F_l0 k G_l0 G_r5 G_b1 G_r6 G_c7) .nx σ) = f83_l0_B k (f83_o_r5 G_r5) := by kernel_rfl
def f83_l0 (k : Nat) : Nat → f83_t_l0
  | 0 => fun _ _ _ _ _ => none
  | n + 1 => f83_l0_B k (f83_r5 k (f83_l0 k n))
theorem f83_l0_E (k : Nat) : ∀ n, f83_o_l0 (f83_C_l0 k n) = f83_l0 k n
  | 0 => rfl
  | n + 1 =>
    Eq.trans (congrArg f83_o_l0 (Eq.trans (b := fun σ => f83_a k (f83_Q_l0 k (f83_C_l0 k n)) .nx σ) (by kernel_rfl) (ap_fn (f83_f_l0 k (f83_C_l0 k n))))) ((f83_l0_P k (f83_C_l0 k n) (f83_C_r5 k (f83_C_l0 k n)) (f83_C_b1 k (f83_C_l0 k n)) (f83_C_r6 k (f83_C_l0 k n)) (f83_C_c7 k (f83_C_l0 k n))).trans (by rw [f83_r5_E k (f83_C_l0 k n), f83_l0_E k n] <;> rfl))
theorem f83_entry_P (k : Nat) (G_l0 : f83_S) (xs : DL f83_sig) : f83_a k (.c (f83_p 2) 0 :: .c (f83_p 6) 0 :: .c (f83_p 28) 0 :: .j (fun σ => f83_a k (.j (fun σ => G_l0 (cut f83_A.loops 0 σ)) :: .blk 0 :: .c (f83_p 15) 0 :: []) .nx σ) :: .c (f83_p 15) 0 :: []) .nx (σ0 34 112 f83_sig xs) = f83_entry_B k (f83_o_l0 G_l0) xs.1 := by kernel_rfl
def f83 (k : Nat) (a0 : Td36) : Option (Int × Unit) := f83_entry_B k (f83_l0 k k) a0
theorem f83_fe (k : Nat) : f83_a k [.c (f83_p 1) 0] = f83_a k (.c (f83_p 2) 0 :: .c (f83_p 6) 0 :: .c (f83_p 28) 0 :: .j (fun σ => f83_a k (.j (fun σ => (f83_C_l0 k k) (cut f83_A.loops 0 σ)) :: .blk 0 :: .c (f83_p 15) 0 :: []) .nx σ) :: .c (f83_p 15) 0 :: []) := (Eq.trans ap_sq (ap_cons _ (Eq.trans ap_sq (ap_cons _ (Eq.trans ap_sq (Eq.trans ap_sq (ap_cons _ (Eq.trans (ap_bl 0) (Eq.trans (ap_j (Eq.trans (ap_lp (C := (f83_C_l0 k)) (fun _ _ => rfl)) (ap_cons _ (ap_cons _ (ap_cons _ rfl))))) (ap_cons _ (ap_cons _ rfl)))))))))))
theorem f83_eq (k : Nat) (xs : DL f83_sig) : den T f83_Y (f83_E k) f83_A k f83_c 0 (σ0 34 112 f83_sig xs) (Kfin T f83_rs f83_ts) = f83 k xs.1 :=
  Eq.trans (Eq.trans den_sb (ap_at (f83_fe k) _)) ((f83_entry_P k (f83_C_l0 k k) xs).trans (by rw [f83_l0_E k k] <;> rfl))
noncomputable def f83_con (k : Nat) : Con := ⟨f83_sig, f83_rs, fun xs => f83 k xs.1⟩
theorem f83_ok (k : Nat) : PureOK Try.prog 83 f83_sig f83_rs (fun xs => f83 k xs.1) :=
  (pure_of_den (k := k) (A := f83_A) (T := T) (Y := f83_Y) (E := f83_E k) (M := 112) (ts := f83_ts) T_ok ⟨f60_ok k, trivial⟩ ⟨f60_ent, trivial⟩ mixed (f := 83) (fn := Try.f83) (c := f83_c) (by kernel_rfl) (by kernel_rfl) (by kernel_rfl) (by decide) (by kernel_rfl)).congr fun xs => (f83_eq k xs).symm
theorem f83_ent : Ent Try.prog 83 := fun args w => by kernel_rfl
/-! ### (*terrier/route.search).run: function 59 -/
noncomputable def f59_c : Code := Try.f59.body.getD .skip
noncomputable abbrev f59_p (n : Nat) : Code := sb f59_c n
abbrev f59_sig : List PT := [(false, (.int .i64))]
abbrev f59_rs : List RT := []
abbrev f59_ts : List RV := []
abbrev f59_ls : List LO := [.box [.d Tq9, .o, .d Tq22], .row Tq26]
abbrev f59_S := St → Option (LOD f59_ls × RDL f59_rs)
abbrev f59_L := List (Fr (LOD f59_ls × RDL f59_rs))
def f59_Y : Tys := []
noncomputable def f59_E (k : Nat) : Env := [(21, .c (f21_con k)), (82, .b (f82_con k)), (83, .c (f83_con k))]
def f59_A : Ann := { loops := [(0, { slots := [(0, .id), (14, .id), (15, .id), (16, .id)], keys := [(0, [.val false Tq2, .val false Tq6, .val false Tq2, .id, .val false Tq1]), (1, []), (14, [])] }), (2, { slots := [(0, .id), (6, .id)], keys := [(0, [.val false Tq2, .val false Tq6, .val false Tq2, .id, .val false Tq1]), (1, [])] }), (4, { slots := [(0, .id), (6, .id), (43, .val false (.int .i64)), (44, .id), (45, .id)], keys := [(0, [.val false Tq2, .val false Tq6, .val false Tq2, .id, .val false Tq1]), (1, [])] })] }
noncomputable abbrev f59_a (k : Nat) (F : f59_L) : Kont (LOD f59_ls × RDL f59_rs) := ap T f59_Y (f59_E k) f59_A k (KfinB T true f59_ls f59_rs f59_ts) F
def f59_s_l0 (y0_0 : (List (Int × Int))) (y0_1 : (List (Int × (Int × (Int × Int))))) (y0_2 : (List (Int × Int))) (y0_4 : (List (List Int))) (y1 : (List (Int × (Int × (Int × (Bool × Bool)))))) (y14 : (List Int)) (x15 : Int) (x16 : Int) : St := mkS 54 162 [(0, aP 0), (14, aO 14), (15, aI x15), (16, aI x16)] [(0, .box [cV Tq2 y0_0, cV Tq6 y0_1, cV Tq2 y0_2, .own 1, cV Tq1 y0_4]), (1, .vec Tq26 y1), (14, .vec (.int .i64) y14)]
abbrev f59_t_l0 := (List (Int × Int)) → (List (Int × (Int × (Int × Int)))) → (List (Int × Int)) → (List (List Int)) → (List (Int × (Int × (Int × (Bool × Bool))))) → (List Int) → Int → Int → Option (((Td12 × Td27 × Unit) × (List (Int × Td29)) × Unit) × (Unit))
abbrev f59_o_l0 (R : f59_S) : f59_t_l0 := (fun y0_0 y0_1 y0_2 y0_4 y1 y14 x15 x16 => R (f59_s_l0 y0_0 y0_1 y0_2 y0_4 y1 y14 x15 x16))
noncomputable def f59_Q_l0 (k : Nat) (R_l0 : f59_S) : f59_L := [.c (f59_p 20) 0, .j (fun σ => R_l0 (cut f59_A.loops 0 σ)), .blk 0, .c (f59_p 3) 0]
noncomputable def f59_C_l0 (k : Nat) (n : Nat) (σ : St) : Option (LOD f59_ls × RDL f59_rs) := loopK (fun σ K => den T f59_Y (f59_E k) f59_A k (f59_p 20) 0 σ K) (cut f59_A.loops 0) (f59_a k [.blk 0, .c (f59_p 3) 0]) n σ
def f59_s_l2 (y0_0 : (List (Int × Int))) (y0_1 : (List (Int × (Int × (Int × Int))))) (y0_2 : (List (Int × Int))) (y0_4 : (List (List Int))) (y1 : (List (Int × (Int × (Int × (Bool × Bool)))))) (x6 : Int) : St := mkS 54 162 [(0, aP 0), (6, aI x6)] [(0, .box [cV Tq2 y0_0, cV Tq6 y0_1, cV Tq2 y0_2, .own 1, cV Tq1 y0_4]), (1, .vec Tq26 y1)]
abbrev f59_t_l2 := (List (Int × Int)) → (List (Int × (Int × (Int × Int)))) → (List (Int × Int)) → (List (List Int)) → (List (Int × (Int × (Int × (Bool × Bool))))) → Int → Option (((Td12 × Td27 × Unit) × (List (Int × Td29)) × Unit) × (Unit))
abbrev f59_o_l2 (R : f59_S) : f59_t_l2 := (fun y0_0 y0_1 y0_2 y0_4 y1 x6 => R (f59_s_l2 y0_0 y0_1 y0_2 y0_4 y1 x6))
noncomputable def f59_Q_l2 (k : Nat) (R_l2 : f59_S) : f59_L := [.c (f59_p 28) 2, .j (fun σ => R_l2 (cut f59_A.loops 2 σ)), .blk 2]
noncomputable def f59_C_l2 (k : Nat) (n : Nat) (σ : St) : Option (LOD f59_ls × RDL f59_rs) := loopK (fun σ K => den T f59_Y (f59_E k) f59_A k (f59_p 28) 2 σ K) (cut f59_A.loops 2) (f59_a k [.blk 2]) n σ
def f59_s_l4 (y0_0 : (List (Int × Int))) (y0_1 : (List (Int × (Int × (Int × Int))))) (y0_2 : (List (Int × Int))) (y0_4 : (List (List Int))) (y1 : (List (Int × (Int × (Int × (Bool × Bool)))))) (x43 : (List Int)) (x44 : Int) (x45 : Int) (x6 : Int) : St := mkS 54 162 [(0, aP 0), (6, aI x6), (43, aV (.int .i64) x43), (44, aI x44), (45, aI x45)] [(0, .box [cV Tq2 y0_0, cV Tq6 y0_1, cV Tq2 y0_2, .own 1, cV Tq1 y0_4]), (1, .vec Tq26 y1)]
abbrev f59_t_l4 := (List (Int × Int)) → (List (Int × (Int × (Int × Int)))) → (List (Int × Int)) → (List (List Int)) → (List (Int × (Int × (Int × (Bool × Bool))))) → (List Int) → Int → Int → Int → Option (((Td12 × Td27 × Unit) × (List (Int × Td29)) × Unit) × (Unit))
abbrev f59_o_l4 (R : f59_S) : f59_t_l4 := (fun y0_0 y0_1 y0_2 y0_4 y1 x43 x44 x45 x6 => R (f59_s_l4 y0_0 y0_1 y0_2 y0_4 y1 x43 x44 x45 x6))
noncomputable def f59_Q_l4 (k : Nat) (R_l2 R_l4 : f59_S) : f59_L := [.c (f59_p 3660) 4, .j (fun σ => R_l4 (cut f59_A.loops 4 σ)), .blk 4, .blk 3, .c (f59_p 115) 2, .j (fun σ => R_l2 (cut f59_A.loops 2 σ)), .blk 2]
noncomputable def f59_C_l4 (k : Nat) (R_l2 : f59_S) (n : Nat) (σ : St) : Option (LOD f59_ls × RDL f59_rs) := loopK (fun σ K => den T f59_Y (f59_E k) f59_A k (f59_p 3660) 4 σ K) (cut f59_A.loops 4) (f59_a k [.blk 4, .blk 3, .c (f59_p 115) 2, .j (fun σ => R_l2 (cut f59_A.loops 2 σ)), .blk 2]) n σ
noncomputable def f59_F_l0 (k : Nat) (G_l0 G_l2 : f59_S) : f59_L := .c (f59_p 20) 0 :: .j (fun σ => G_l0 (cut f59_A.loops 0 σ)) :: .blk 0 :: .c (f59_p 6) 0 :: .j (fun σ => f59_a k (.j (fun σ => G_l2 (cut f59_A.loops 2 σ)) :: .blk 2 :: []) .nx σ) :: []
theorem f59_f_l0 (k : Nat) (R_l0 : f59_S) : f59_a k (f59_Q_l0 k R_l0) = f59_a k (f59_F_l0 k R_l0 (f59_C_l2 k k)) := (ap_cons _ (ap_cons _ (ap_cons _ (Eq.trans ap_sq (ap_cons _ (Eq.trans (ap_bl 2) (Eq.trans (ap_j (Eq.trans (ap_lp (C := (f59_C_l2 k)) (fun _ _ => rfl)) (ap_cons _ (ap_cons _ rfl)))) (ap_cons _ rfl))))))))
noncomputable def f59_F_l2 (k : Nat) (G_l2 G_l4 : f59_S) : f59_L := .c (f59_p 56) 2 :: .j (fun σ => f59_a k (.c (f59_p 456) 3 :: .c (f59_p 914) 3 :: .j (fun σ => f59_a k (.j (fun σ => G_l4 (cut f59_A.loops 4 σ)) :: .blk 4 :: .blk 3 :: .c (f59_p 115) 2 :: .j (fun σ => G_l2 (cut f59_A.loops 2 σ)) :: .blk 2 :: []) .nx σ) :: .blk 3 :: .c (f59_p 115) 2 :: .j (fun σ => G_l2 (cut f59_A.loops 2 σ)) :: .blk 2 :: []) .nx σ) :: .c (f59_p 115) 2 :: .j (fun σ => G_l2 (cut f59_A.loops 2 σ)) :: .blk 2 :: []
theorem f59_f_l2 (k : Nat) (R_l2 : f59_S) : f59_a k (f59_Q_l2 k R_l2) = f59_a k (f59_F_l2 k R_l2 (f59_C_l4 k R_l2 k)) := (Eq.trans ap_sq (ap_cons _ (Eq.trans ap_sq (Eq.trans (ap_bl 3) (Eq.trans (ap_j (Eq.trans ap_sq (ap_cons _ (Eq.trans ap_sq (ap_cons _ (Eq.trans (ap_bl 4) (Eq.trans (ap_j (Eq.trans (ap_lp (C := (f59_C_l4 k R_l2)) (fun _ _ => rfl)) (ap_cons _ (ap_cons _ (ap_cons _ (ap_cons _ (ap_cons _ (ap_cons _ rfl)))))))) (ap_cons _ (ap_cons _ (ap_cons _ (ap_cons _ (ap_cons _ rfl)))))))))))) (ap_cons _ (ap_cons _ (ap_cons _ (ap_cons _ rfl)))))))))
noncomputable def f59_F_l4 (k : Nat) (G_l2 G_l4 : f59_S) : f59_L := .c (f59_p 3660) 4 :: .j (fun σ => G_l4 (cut f59_A.loops 4 σ)) :: .blk 4 :: .blk 3 :: .c (f59_p 115) 2 :: .j (fun σ => G_l2 (cut f59_A.loops 2 σ)) :: .blk 2 :: []
theorem f59_f_l4 (k : Nat) (R_l2 R_l4 : f59_S) : f59_a k (f59_Q_l4 k R_l2 R_l4) = f59_a k (f59_F_l4 k R_l2 R_l4) := (ap_cons _ (ap_cons _ (ap_cons _ (ap_cons _ (ap_cons _ (ap_cons _ (ap_cons _ rfl)))))))
def f59_entry_B (k : Nat) (g_l0 : f59_t_l0) (l0 : Td12) (l1 : Td27) (l2 : Td34) (a0 : Int) : Option (((Td12 × Td27 × Unit) × (List (Int × Td29)) × Unit) × (Unit)) := ((f21 k (l0.1, (l0.2.1, l0.2.2)) a0).bind fun r1 => (g_l0 l0.1 l0.2.1 l0.2.2 l1 l2 r1.1 (r1.1.length : Int) 0))
def f59_l0_B (k : Nat) (g_l0 : f59_t_l0) (g_l2 : f59_t_l2) (y0_0 : (List (Int × Int))) (y0_1 : (List (Int × (Int × (Int × Int))))) (y0_2 : (List (Int × Int))) (y0_4 : (List (List Int))) (y1 : (List (Int × (Int × (Int × (Bool × Bool)))))) (y14 : (List Int)) (x15 : Int) (x16 : Int) : Option (((Td12 × Td27 × Unit) × (List (Int × Td29)) × Unit) × (Unit)) := (if x16 < x15 then (if 0 ≤ x16 then (if x16 < (y14.length : Int) then ((f82 k (y0_0, (y0_1, y0_2)) y0_4 y1 (-1) (y14.getD ((x16).toNat) 0)).bind fun r1 => (g_l0 r1.1.1.1.1 r1.1.1.1.2.1 r1.1.1.1.2.2 r1.1.1.2.1 r1.1.2.1 y14 x15 (w64 (x16 + 1)))) else none) else none) else ((f83 k ((y0_0, (y0_1, y0_2)), (y1, y0_4))).bind fun r2 => (g_l2 y0_0 y0_1 y0_2 y0_4 y1 r2.1)))
def f59_l2_B (k : Nat) (g_l4 : f59_t_l4) (y0_0 : (List (Int × Int))) (y0_1 : (List (Int × (Int × (Int × Int))))) (y0_2 : (List (Int × Int))) (y0_4 : (List (List Int))) (y1 : (List (Int × (Int × (Int × (Bool × Bool)))))) (x6 : Int) : Option (((Td12 × Td27 × Unit) × (List (Int × Td29)) × Unit) × (Unit)) := (if 0 ≤ x6 then (if 0 ≤ x6 then (if x6 < (y1.length : Int) then (if 0 ≤ x6 then (if x6 < (y0_4.length : Int) then (g_l4 y0_0 y0_1 y0_2 y0_4 (y1.set ((x6).toNat) ((y1.getD ((x6).toNat) (0, (0, (0, (false, false))))).1, (((y1.getD ((x6).toNat) (0, (0, (0, (false, false))))).2).1, ((((y1.getD ((x6).toNat) (0, (0, (0, (false, false))))).2).2).1, (decide ((((((y1.getD ((x6).toNat) (0, (0, (0, (false, false))))).2).2).2).1) = true), true))))) (y0_4.getD (x6).toNat []) ((y0_4.getD (x6).toNat []).length : Int) 0 x6) else none) else none) else none) else none) else some ((((y0_0, (y0_1, y0_2)), y0_4, ()), (y1, ())), (())))
def f59_l4_B (k : Nat) (g_l2 : f59_t_l2) (g_l4 : f59_t_l4) (y0_0 : (List (Int × Int))) (y0_1 : (List (Int × (Int × (Int × Int))))) (y0_2 : (List (Int × Int))) (y0_4 : (List (List Int))) (y1 : (List (Int × (Int × (Int × (Bool × Bool)))))) (x43 : (List Int)) (x44 : Int) (x45 : Int) (x6 : Int) : Option (((Td12 × Td27 × Unit) × (List (Int × Td29)) × Unit) × (Unit)) := (if x45 < x44 then (if 0 ≤ x45 then (if x45 < (x43.length : Int) then ((f82 k (y0_0, (y0_1, y0_2)) y0_4 y1 x6 (x43.getD (x45).toNat 0)).bind fun r1 => (g_l4 r1.1.1.1.1 r1.1.1.1.2.1 r1.1.1.1.2.2 r1.1.1.2.1 r1.1.2.1 x43 x44 (w64 (x45 + 1)) x6)) else none) else none) else ((f83 k ((y0_0, (y0_1, y0_2)), (y1, y0_4))).bind fun r2 => (g_l2 y0_0 y0_1 y0_2 y0_4 y1 r2.1)))
theorem f59_l4_P (k : Nat) (G_l2 G_l4 : f59_S) : f59_o_l4 (fun σ => f59_a k (f59_F_l4 k G_l2 G_l4) .nx σ) = f59_l4_B k (f59_o_l2 G_l2) (f59_o_l4 G_l4) := by kernel_rfl
def f59_l4 (k : Nat) (r_l2 : f59_t_l2) : Nat → f59_t_l4
  | 0 => fun _ _ _ _ _ _ _ _ _ => none
  | n + 1 => f59_l4_B k r_l2 (f59_l4 k r_l2 n)
theorem f59_l4_E (k : Nat) (R_l2 : f59_S) : ∀ n, f59_o_l4 (f59_C_l4 k R_l2 n) = f59_l4 k (f59_o_l2 R_l2) n
  | 0 => rfl
  | n + 1 =>
    Eq.trans (congrArg f59_o_l4 (Eq.trans (b := fun σ => f59_a k (f59_Q_l4 k R_l2 (f59_C_l4 k R_l2 n)) .nx σ) (by kernel_rfl) (ap_fn (f59_f_l4 k R_l2 (f59_C_l4 k R_l2 n))))) ((f59_l4_P k R_l2 (f59_C_l4 k R_l2 n)).trans (by rw [f59_l4_E k R_l2 n] <;> rfl))
theorem f59_l2_P (k : Nat) (G_l2 G_l4 : f59_S) : f59_o_l2 (fun σ => f59_a k (f59_F_l2 k G_l2 G_l4) .nx σ) = f59_l2_B k (f59_o_l4 G_l4) := by kernel_rfl
def f59_l2 (k : Nat) : Nat → f59_t_l2
  | 0 => fun _ _ _ _ _ _ => none
  | n + 1 => f59_l2_B k (f59_l4 k (f59_l2 k n) k)
theorem f59_l2_E (k : Nat) : ∀ n, f59_o_l2 (f59_C_l2 k n) = f59_l2 k n
  | 0 => rfl
  | n + 1 =>
    Eq.trans (congrArg f59_o_l2 (Eq.trans (b := fun σ => f59_a k (f59_Q_l2 k (f59_C_l2 k n)) .nx σ) (by kernel_rfl) (ap_fn (f59_f_l2 k (f59_C_l2 k n))))) ((f59_l2_P k (f59_C_l2 k n) (f59_C_l4 k (f59_C_l2 k n) k)).trans (by rw [f59_l4_E k (f59_C_l2 k n) k, f59_l2_E k n] <;> rfl))
theorem f59_l0_P (k : Nat) (G_l0 G_l2 : f59_S) : f59_o_l0 (fun σ => f59_a k (f59_F_l0 k G_l0 G_l2) .nx σ) = f59_l0_B k (f59_o_l0 G_l0) (f59_o_l2 G_l2) := by kernel_rfl
def f59_l0 (k : Nat) : Nat → f59_t_l0
  | 0 => fun _ _ _ _ _ _ _ _ => none
  | n + 1 => f59_l0_B k (f59_l0 k n) (f59_l2 k k)
theorem f59_l0_E (k : Nat) : ∀ n, f59_o_l0 (f59_C_l0 k n) = f59_l0 k n
  | 0 => rfl
  | n + 1 =>
    Eq.trans (congrArg f59_o_l0 (Eq.trans (b := fun σ => f59_a k (f59_Q_l0 k (f59_C_l0 k n)) .nx σ) (by kernel_rfl) (ap_fn (f59_f_l0 k (f59_C_l0 k n))))) ((f59_l0_P k (f59_C_l0 k n) (f59_C_l2 k k)).trans (by rw [f59_l2_E k k, f59_l0_E k n] <;> rfl))
theorem f59_entry_P (k : Nat) (G_l0 G_l2 : f59_S) (x : LOD f59_ls) (xs : DL f59_sig) : f59_a k (.c (f59_p 4) 0 :: .j (fun σ => f59_a k (.j (fun σ => G_l0 (cut f59_A.loops 0 σ)) :: .blk 0 :: .c (f59_p 6) 0 :: .j (fun σ => f59_a k (.j (fun σ => G_l2 (cut f59_A.loops 2 σ)) :: .blk 2 :: []) .nx σ) :: []) .nx σ) :: .c (f59_p 6) 0 :: .j (fun σ => f59_a k (.j (fun σ => G_l2 (cut f59_A.loops 2 σ)) :: .blk 2 :: []) .nx σ) :: []) .nx (σ0B 54 162 0 f59_ls x f59_sig xs) = f59_entry_B k (f59_o_l0 G_l0) x.1.1 x.1.2.1 x.2.1 xs.1 := by kernel_rfl
def f59 (k : Nat) (l0 : Td12) (l1 : Td27) (l2 : Td34) (a0 : Int) : Option (((Td12 × Td27 × Unit) × (List (Int × Td29)) × Unit) × (Unit)) := f59_entry_B k (f59_l0 k k) l0 l1 l2 a0
theorem f59_fe (k : Nat) : f59_a k [.c (f59_p 1) 0] = f59_a k (.c (f59_p 4) 0 :: .j (fun σ => f59_a k (.j (fun σ => (f59_C_l0 k k) (cut f59_A.loops 0 σ)) :: .blk 0 :: .c (f59_p 6) 0 :: .j (fun σ => f59_a k (.j (fun σ => (f59_C_l2 k k) (cut f59_A.loops 2 σ)) :: .blk 2 :: []) .nx σ) :: []) .nx σ) :: .c (f59_p 6) 0 :: .j (fun σ => f59_a k (.j (fun σ => (f59_C_l2 k k) (cut f59_A.loops 2 σ)) :: .blk 2 :: []) .nx σ) :: []) := (Eq.trans ap_sq (Eq.trans ap_sq (ap_cons _ (Eq.trans (ap_bl 0) (Eq.trans (ap_j (Eq.trans (ap_lp (C := (f59_C_l0 k)) (fun _ _ => rfl)) (ap_cons _ (ap_cons _ (Eq.trans ap_sq (ap_cons _ (Eq.trans (ap_bl 2) (Eq.trans (ap_j (Eq.trans (ap_lp (C := (f59_C_l2 k)) (fun _ _ => rfl)) (ap_cons _ (ap_cons _ rfl)))) (ap_cons _ rfl))))))))) (ap_cons _ (Eq.trans ap_sq (ap_cons _ (Eq.trans (ap_bl 2) (Eq.trans (ap_j (Eq.trans (ap_lp (C := (f59_C_l2 k)) (fun _ _ => rfl)) (ap_cons _ (ap_cons _ rfl)))) (ap_cons _ rfl)))))))))))
theorem f59_eq (k : Nat) (x : LOD f59_ls) (xs : DL f59_sig) : den T f59_Y (f59_E k) f59_A k f59_c 0 (σ0B 54 162 0 f59_ls x f59_sig xs) (KfinB T true f59_ls f59_rs f59_ts) = f59 k x.1.1 x.1.2.1 x.2.1 xs.1 :=
  Eq.trans (Eq.trans den_sb (ap_at (f59_fe k) _)) ((f59_entry_P k (f59_C_l0 k k) (f59_C_l2 k k) x xs).trans (by rw [f59_l0_E k k] <;> rfl))
noncomputable def f59_con (k : Nat) : BCon := ⟨0, true, f59_ls, f59_sig, f59_rs, fun x xs => f59 k x.1.1 x.1.2.1 x.2.1 xs.1⟩
theorem f59_ok (k : Nat) : BoxOK Try.prog 59 0 true f59_ls f59_sig f59_rs (fun x xs => f59 k x.1.1 x.1.2.1 x.2.1 xs.1) :=
  (box_of_den (k := k) (A := f59_A) (T := T) (Y := f59_Y) (E := f59_E k) (M := 162) (ts := f59_ts) T_ok ⟨f21_ok k, f82_ok k, f83_ok k, trivial⟩ ⟨f21_ent, f82_ent, f83_ent, trivial⟩ mixed (f := 59) (fn := Try.f59) (c := f59_c) (by kernel_rfl) (by kernel_rfl) (by kernel_rfl) (by decide) (by kernel_rfl) (by decide)).congr fun x xs => (f59_eq k x xs).symm
theorem f59_ent : Ent Try.prog 59 := fun args w => by kernel_rfl
/-! ### terrier/route.Ends: function 29 -/
noncomputable def f29_c : Code := Try.f29.body.getD .skip
noncomputable abbrev f29_p (n : Nat) : Code := sb f29_c n
abbrev f29_sig : List PT := [(true, Tq9), (false, (.int .i64))]
abbrev f29_rs : List RT := [.new (.int .i64)]
abbrev f29_ts : List RV := [.tmp 4]
abbrev f29_S := St → Option (RDL f29_rs)
abbrev f29_L := List (Fr (RDL f29_rs))
def f29_Y : Tys := [(3, (.int .i64))]
noncomputable def f29_E (k : Nat) : Env := [(57, .c (f57_con k)), (58, .c (f58_con k)), (59, .b (f59_con k))]
def f29_A : Ann := { loops := [(0, { slots := [(6, .id), (26, .id), (27, .id), (28, .id)], keys := [(22, []), (60, [])] })], conds := [(11, { slots := [(6, .id), (26, .id), (27, .id), (28, .id)], keys := [(22, []), (60, [])] })] }
noncomputable abbrev f29_a (k : Nat) (F : f29_L) : Kont (RDL f29_rs) := ap T f29_Y (f29_E k) f29_A k (Kfin T f29_rs f29_ts) F
def f29_s_l0 (y22 : (List Int)) (y60 : (List (Int × (Int × (Int × (Bool × Bool)))))) (x27 : Int) (x28 : Int) : St := mkS 45 144 [(6, aO 22), (26, aO 60), (27, aI x27), (28, aI x28)] [(22, .vec (.int .i64) y22), (60, .vec Tq26 y60)]
abbrev f29_t_l0 := (List Int) → (List (Int × (Int × (Int × (Bool × Bool))))) → Int → Int → Option ((List Int) × Unit)
abbrev f29_o_l0 (R : f29_S) : f29_t_l0 := (fun y22 y60 x27 x28 => R (f29_s_l0 y22 y60 x27 x28))
noncomputable def f29_Q_l0 (k : Nat) (R_l0 : f29_S) : f29_L := [.c (f29_p 1012) 0, .j (fun σ => R_l0 (cut f29_A.loops 0 σ)), .blk 0, .c (f29_p 127) 0]
noncomputable def f29_C_l0 (k : Nat) (n : Nat) (σ : St) : Option (RDL f29_rs) := loopK (fun σ K => den T f29_Y (f29_E k) f29_A k (f29_p 1012) 0 σ K) (cut f29_A.loops 0) (f29_a k [.blk 0, .c (f29_p 127) 0]) n σ
def f29_s_c11 (y22 : (List Int)) (y60 : (List (Int × (Int × (Int × (Bool × Bool)))))) (x27 : Int) (x28 : Int) : St := mkS 45 144 [(6, aO 22), (26, aO 60), (27, aI x27), (28, aI x28)] [(22, .vec (.int .i64) y22), (60, .vec Tq26 y60)]
abbrev f29_t_c11 := (List Int) → (List (Int × (Int × (Int × (Bool × Bool))))) → Int → Int → Option ((List Int) × Unit)
abbrev f29_o_c11 (R : f29_S) : f29_t_c11 := (fun y22 y60 x27 x28 => R (f29_s_c11 y22 y60 x27 x28))
noncomputable def f29_Q_c11 (k : Nat) (R_l0 : f29_S) : f29_L := [.blk 1, .c (f29_p 8103) 0, .j (fun σ => R_l0 (cut f29_A.loops 0 σ)), .blk 0, .c (f29_p 127) 0]
noncomputable def f29_C_c11 (k : Nat) (R_l0 : f29_S) : f29_S := fun σ => f29_a k (f29_Q_c11 k R_l0) .nx σ
noncomputable def f29_F_c11 (k : Nat) (G_l0 : f29_S) : f29_L := .blk 1 :: .c (f29_p 8103) 0 :: .j (fun σ => G_l0 (cut f29_A.loops 0 σ)) :: .blk 0 :: .c (f29_p 127) 0 :: []
theorem f29_f_c11 (k : Nat) (R_l0 : f29_S) : f29_a k (f29_Q_c11 k R_l0) = f29_a k (f29_F_c11 k R_l0) := (ap_cons _ (ap_cons _ (ap_cons _ (ap_cons _ (ap_cons _ rfl)))))
noncomputable def f29_F_l0 (k : Nat) (G_l0 G_c11 : f29_S) : f29_L := .c (f29_p 2024) 0 :: .c (f29_p 4050) 0 :: .j (fun σ => f29_a k (.c (f29_p 32408) 1 :: .c (f29_p 64818) 1 :: .c (f29_p 129638) 1 :: .c (f29_p 129639) 1 :: .j G_c11 :: f29_F_c11 k G_l0) .nx σ) :: .c (f29_p 8103) 0 :: .j (fun σ => G_l0 (cut f29_A.loops 0 σ)) :: .blk 0 :: .c (f29_p 127) 0 :: []
theorem f29_f_l0 (k : Nat) (R_l0 : f29_S) : f29_a k (f29_Q_l0 k R_l0) = f29_a k (f29_F_l0 k R_l0 (f29_C_c11 k R_l0)) := (Eq.trans ap_sq (ap_cons _ (Eq.trans ap_sq (ap_cons _ (Eq.trans ap_sq (Eq.trans (ap_bl 1) (Eq.trans (ap_j (Eq.trans ap_sq (ap_cons _ (Eq.trans ap_sq (ap_cons _ (Eq.trans ap_sq (ap_cons _ (ap_cons _ (Eq.trans (ap_pass (C := (f29_C_c11 k R_l0)) (fun _ => rfl)) (ap_cons _ (f29_f_c11 k R_l0))))))))))) (ap_cons _ (ap_cons _ (ap_cons _ (ap_cons _ (ap_cons _ rfl))))))))))))
def f29_entry_B (k : Nat) (g_l0 : f29_t_l0) (a0 : Td12) (a1 : Int) : Option ((List Int) × Unit) := ((f57 k (a0.1, (a0.2.1, a0.2.2)) ([a1])).bind fun r1 => (if ¬ (r1.1 = 0) then some ([], ()) else ((f58 k (a0.1, (a0.2.1, a0.2.2))).bind fun r2 => ((f59 k (r2.1.1.1.1, (r2.1.1.1.2.1, r2.1.1.1.2.2)) r2.1.1.2.1 r2.1.2.1 a1).bind fun r3 => (if 0 ≤ (a0.2.1.length : Int) then (if (a0.2.1.length : Int) ≤ 1073741824 then (g_l0 (List.replicate ((a0.2.1.length : Int)).toNat (0 : Int)) r3.1.2.1 (r3.1.2.1.length : Int) 0) else none) else none)))))
def f29_l0_B (k : Nat) (g_c11 : f29_t_c11) (y22 : (List Int)) (y60 : (List (Int × (Int × (Int × (Bool × Bool)))))) (x27 : Int) (x28 : Int) : Option ((List Int) × Unit) := (if x28 < x27 then (if 0 ≤ x28 then (if x28 < (y60.length : Int) then (if 0 ≤ x28 then (if x28 < (y22.length : Int) then (if (((((y60.getD ((x28).toNat) (0, (0, (0, (false, false))))).2).2).2).1) = true then (if 0 ≤ x28 then (if x28 < ((y22.set ((x28).toNat) (-1)).length : Int) then (g_c11 ((y22.set ((x28).toNat) (-1)).set ((x28).toNat) ((y60.getD ((x28).toNat) (0, (0, (0, (false, false))))).1)) y60 x27 x28) else none) else none) else (g_c11 (y22.set ((x28).toNat) (-1)) y60 x27 x28)) else none) else none) else none) else none) else some (y22, ()))
def f29_c11_B (k : Nat) (g_l0 : f29_t_l0) (y22 : (List Int)) (y60 : (List (Int × (Int × (Int × (Bool × Bool)))))) (x27 : Int) (x28 : Int) : Option ((List Int) × Unit) := (g_l0 y22 y60 x27 (w64 (x28 + 1)))
theorem f29_c11_P (k : Nat) (G_l0 : f29_S) : f29_o_c11 (fun σ => f29_a k (f29_F_c11 k G_l0) .nx σ) = f29_c11_B k (f29_o_l0 G_l0) := by kernel_rfl
def f29_c11 (k : Nat) (r_l0 : f29_t_l0) : f29_t_c11 := f29_c11_B k r_l0
theorem f29_c11_E (k : Nat) (R_l0 : f29_S) : f29_o_c11 (f29_C_c11 k R_l0) = f29_c11 k (f29_o_l0 R_l0) :=
  Eq.trans (congrArg f29_o_c11 (ap_fn (f29_f_c11 k R_l0))) ((f29_c11_P k R_l0).trans (by rfl))
theorem f29_l0_P (k : Nat) (G_l0 G_c11 : f29_S) : f29_o_l0 (fun σ => f29_a k (f29_F_l0 k G_l0 G_c11) .nx σ) = f29_l0_B k (f29_o_c11 G_c11) := by kernel_rfl
def f29_l0 (k : Nat) : Nat → f29_t_l0
  | 0 => fun _ _ _ _ => none
  | n + 1 => f29_l0_B k (f29_c11 k (f29_l0 k n))
theorem f29_l0_E (k : Nat) : ∀ n, f29_o_l0 (f29_C_l0 k n) = f29_l0 k n
  | 0 => rfl
  | n + 1 =>
    Eq.trans (congrArg f29_o_l0 (Eq.trans (b := fun σ => f29_a k (f29_Q_l0 k (f29_C_l0 k n)) .nx σ) (by kernel_rfl) (ap_fn (f29_f_l0 k (f29_C_l0 k n))))) ((f29_l0_P k (f29_C_l0 k n) (f29_C_c11 k (f29_C_l0 k n))).trans (by rw [f29_c11_E k (f29_C_l0 k n), f29_l0_E k n] <;> rfl))
theorem f29_entry_P (k : Nat) (G_l0 : f29_S) (xs : DL f29_sig) : f29_a k (.c (f29_p 2) 0 :: .c (f29_p 6) 0 :: .c (f29_p 14) 0 :: .c (f29_p 30) 0 :: .c (f29_p 62) 0 :: .c (f29_p 252) 0 :: .j (fun σ => f29_a k (.j (fun σ => G_l0 (cut f29_A.loops 0 σ)) :: .blk 0 :: .c (f29_p 127) 0 :: []) .nx σ) :: .c (f29_p 127) 0 :: []) .nx (σ0 45 144 f29_sig xs) = f29_entry_B k (f29_o_l0 G_l0) xs.1 xs.2.1 := by kernel_rfl
def f29 (k : Nat) (a0 : Td12) (a1 : Int) : Option ((List Int) × Unit) := f29_entry_B k (f29_l0 k k) a0 a1
theorem f29_fe (k : Nat) : f29_a k [.c (f29_p 1) 0] = f29_a k (.c (f29_p 2) 0 :: .c (f29_p 6) 0 :: .c (f29_p 14) 0 :: .c (f29_p 30) 0 :: .c (f29_p 62) 0 :: .c (f29_p 252) 0 :: .j (fun σ => f29_a k (.j (fun σ => (f29_C_l0 k k) (cut f29_A.loops 0 σ)) :: .blk 0 :: .c (f29_p 127) 0 :: []) .nx σ) :: .c (f29_p 127) 0 :: []) := (Eq.trans ap_sq (ap_cons _ (Eq.trans ap_sq (ap_cons _ (Eq.trans ap_sq (ap_cons _ (Eq.trans ap_sq (ap_cons _ (Eq.trans ap_sq (ap_cons _ (Eq.trans ap_sq (Eq.trans ap_sq (ap_cons _ (Eq.trans (ap_bl 0) (Eq.trans (ap_j (Eq.trans (ap_lp (C := (f29_C_l0 k)) (fun _ _ => rfl)) (ap_cons _ (ap_cons _ (ap_cons _ rfl))))) (ap_cons _ (ap_cons _ rfl)))))))))))))))))
theorem f29_eq (k : Nat) (xs : DL f29_sig) : den T f29_Y (f29_E k) f29_A k f29_c 0 (σ0 45 144 f29_sig xs) (Kfin T f29_rs f29_ts) = f29 k xs.1 xs.2.1 :=
  Eq.trans (Eq.trans den_sb (ap_at (f29_fe k) _)) ((f29_entry_P k (f29_C_l0 k k) xs).trans (by rw [f29_l0_E k k] <;> rfl))
noncomputable def f29_con (k : Nat) : Con := ⟨f29_sig, f29_rs, fun xs => f29 k xs.1 xs.2.1⟩
theorem f29_ok (k : Nat) : PureOK Try.prog 29 f29_sig f29_rs (fun xs => f29 k xs.1 xs.2.1) :=
  (pure_of_den (k := k) (A := f29_A) (T := T) (Y := f29_Y) (E := f29_E k) (M := 144) (ts := f29_ts) T_ok ⟨f57_ok k, f58_ok k, f59_ok k, trivial⟩ ⟨f57_ent, f58_ent, f59_ent, trivial⟩ mixed (f := 29) (fn := Try.f29) (c := f29_c) (by kernel_rfl) (by kernel_rfl) (by kernel_rfl) (by decide) (by kernel_rfl)).congr fun xs => (f29_eq k xs).symm
theorem f29_ent : Ent Try.prog 29 := fun args w => by kernel_rfl
/-! ### terrier/route.Costs: function 28 -/
noncomputable def f28_c : Code := Try.f28.body.getD .skip
noncomputable abbrev f28_p (n : Nat) : Code := sb f28_c n
abbrev f28_sig : List PT := [(true, Tq9), (false, (.int .i64))]
abbrev f28_rs : List RT := [.new (.int .i64)]
abbrev f28_ts : List RV := [.tmp 4]
abbrev f28_S := St → Option (RDL f28_rs)
abbrev f28_L := List (Fr (RDL f28_rs))
def f28_Y : Tys := [(3, (.int .i64))]
noncomputable def f28_E (k : Nat) : Env := [(29, .c (f29_con k)), (54, .c (f54_con k)), (57, .c (f57_con k))]
def f28_A : Ann := { loops := [(0, { slots := [(1, .id), (2, .id), (5, .id), (21, .id), (22, .id), (23, .id)], keys := [(2, [.val false Tq2, .val false Tq6, .val false Tq2]), (18, []), (21, [])] })], regs := [(8, { slots := [(1, .id), (2, .id), (5, .id), (7, .id), (8, .id), (21, .id), (22, .id), (23, .id), (50, .bool)], keys := [(2, [.val false Tq2, .val false Tq6, .val false Tq2]), (18, []), (21, [])] })], conds := [(9, { slots := [(1, .id), (2, .id), (5, .id), (21, .id), (22, .id), (23, .id)], keys := [(2, [.val false Tq2, .val false Tq6, .val false Tq2]), (18, []), (21, [])] })] }
noncomputable abbrev f28_a (k : Nat) (F : f28_L) : Kont (RDL f28_rs) := ap T f28_Y (f28_E k) f28_A k (Kfin T f28_rs f28_ts) F
def f28_s_l0 (y18 : (List Int)) (y2_0 : (List (Int × Int))) (y2_1 : (List (Int × (Int × (Int × Int))))) (y2_2 : (List (Int × Int))) (y21 : (List Int)) (x1 : Int) (x22 : Int) (x23 : Int) : St := mkS 60 192 [(1, aI x1), (2, aP 2), (5, aO 18), (21, aO 21), (22, aI x22), (23, aI x23)] [(2, .box [cV Tq2 y2_0, cV Tq6 y2_1, cV Tq2 y2_2]), (18, .vec (.int .i64) y18), (21, .vec (.int .i64) y21)]
abbrev f28_t_l0 := (List Int) → (List (Int × Int)) → (List (Int × (Int × (Int × Int)))) → (List (Int × Int)) → (List Int) → Int → Int → Int → Option ((List Int) × Unit)
abbrev f28_o_l0 (R : f28_S) : f28_t_l0 := (fun y18 y2_0 y2_1 y2_2 y21 x1 x22 x23 => R (f28_s_l0 y18 y2_0 y2_1 y2_2 y21 x1 x22 x23))
noncomputable def f28_Q_l0 (k : Nat) (R_l0 : f28_S) : f28_L := [.c (f28_p 244) 0, .j (fun σ => R_l0 (cut f28_A.loops 0 σ)), .blk 0, .c (f28_p 31) 0]
noncomputable def f28_C_l0 (k : Nat) (n : Nat) (σ : St) : Option (RDL f28_rs) := loopK (fun σ K => den T f28_Y (f28_E k) f28_A k (f28_p 244) 0 σ K) (cut f28_A.loops 0) (f28_a k [.blk 0, .c (f28_p 31) 0]) n σ
def f28_s_r8 (y18 : (List Int)) (y2_0 : (List (Int × Int))) (y2_1 : (List (Int × (Int × (Int × Int))))) (y2_2 : (List (Int × Int))) (y21 : (List Int)) (x1 : Int) (x22 : Int) (x23 : Int) (x50 : Bool) (x7 : Int) (x8 : Int) : St := mkS 60 192 [(1, aI x1), (2, aP 2), (5, aO 18), (7, aI x7), (8, aI x8), (21, aO 21), (22, aI x22), (23, aI x23), (50, aB x50)] [(2, .box [cV Tq2 y2_0, cV Tq6 y2_1, cV Tq2 y2_2]), (18, .vec (.int .i64) y18), (21, .vec (.int .i64) y21)]
abbrev f28_t_r8 := (List Int) → (List (Int × Int)) → (List (Int × (Int × (Int × Int)))) → (List (Int × Int)) → (List Int) → Int → Int → Int → Bool → Int → Int → Option ((List Int) × Unit)
abbrev f28_o_r8 (R : f28_S) : f28_t_r8 := (fun y18 y2_0 y2_1 y2_2 y21 x1 x22 x23 x50 x7 x8 => R (f28_s_r8 y18 y2_0 y2_1 y2_2 y21 x1 x22 x23 x50 x7 x8))
noncomputable def f28_Q_r8 (k : Nat) (R_l0 : f28_S) : f28_L := [.c (f28_p 31335) 1, .blk 1, .c (f28_p 1959) 0, .j (fun σ => R_l0 (cut f28_A.loops 0 σ)), .blk 0, .c (f28_p 31) 0]
noncomputable def f28_C_r8 (k : Nat) (R_l0 : f28_S) : f28_S := fun σ => f28_a k (f28_Q_r8 k R_l0) .nx σ
def f28_s_c9 (y18 : (List Int)) (y2_0 : (List (Int × Int))) (y2_1 : (List (Int × (Int × (Int × Int))))) (y2_2 : (List (Int × Int))) (y21 : (List Int)) (x1 : Int) (x22 : Int) (x23 : Int) : St := mkS 60 192 [(1, aI x1), (2, aP 2), (5, aO 18), (21, aO 21), (22, aI x22), (23, aI x23)] [(2, .box [cV Tq2 y2_0, cV Tq6 y2_1, cV Tq2 y2_2]), (18, .vec (.int .i64) y18), (21, .vec (.int .i64) y21)]
abbrev f28_t_c9 := (List Int) → (List (Int × Int)) → (List (Int × (Int × (Int × Int)))) → (List (Int × Int)) → (List Int) → Int → Int → Int → Option ((List Int) × Unit)
abbrev f28_o_c9 (R : f28_S) : f28_t_c9 := (fun y18 y2_0 y2_1 y2_2 y21 x1 x22 x23 => R (f28_s_c9 y18 y2_0 y2_1 y2_2 y21 x1 x22 x23))
noncomputable def f28_Q_c9 (k : Nat) (R_l0 : f28_S) : f28_L := [.blk 1, .c (f28_p 1959) 0, .j (fun σ => R_l0 (cut f28_A.loops 0 σ)), .blk 0, .c (f28_p 31) 0]
noncomputable def f28_C_c9 (k : Nat) (R_l0 : f28_S) : f28_S := fun σ => f28_a k (f28_Q_c9 k R_l0) .nx σ
noncomputable def f28_F_c9 (k : Nat) (G_l0 : f28_S) : f28_L := .blk 1 :: .c (f28_p 1959) 0 :: .j (fun σ => G_l0 (cut f28_A.loops 0 σ)) :: .blk 0 :: .c (f28_p 31) 0 :: []
theorem f28_f_c9 (k : Nat) (R_l0 : f28_S) : f28_a k (f28_Q_c9 k R_l0) = f28_a k (f28_F_c9 k R_l0) := (ap_cons _ (ap_cons _ (ap_cons _ (ap_cons _ (ap_cons _ rfl)))))
noncomputable def f28_F_r8 (k : Nat) (G_l0 G_c9 : f28_S) : f28_L := .c (f28_p 31335) 1 :: .j G_c9 :: f28_F_c9 k G_l0
theorem f28_f_r8 (k : Nat) (R_l0 : f28_S) : f28_a k (f28_Q_r8 k R_l0) = f28_a k (f28_F_r8 k R_l0 (f28_C_c9 k R_l0)) := (ap_cons _ (Eq.trans (ap_pass (C := (f28_C_c9 k R_l0)) (fun _ => rfl)) (ap_cons _ (f28_f_c9 k R_l0))))
noncomputable def f28_F_l0 (k : Nat) (G_l0 G_r8 G_c9 : f28_S) : f28_L := .c (f28_p 488) 0 :: .c (f28_p 978) 0 :: .j (fun σ => f28_a k (.c (f28_p 7832) 1 :: .c (f28_p 15666) 1 :: .c (f28_p 31334) 1 :: .j G_r8 :: f28_F_r8 k G_l0 G_c9) .nx σ) :: .c (f28_p 1959) 0 :: .j (fun σ => G_l0 (cut f28_A.loops 0 σ)) :: .blk 0 :: .c (f28_p 31) 0 :: []
theorem f28_f_l0 (k : Nat) (R_l0 : f28_S) : f28_a k (f28_Q_l0 k R_l0) = f28_a k (f28_F_l0 k R_l0 (f28_C_r8 k R_l0) (f28_C_c9 k R_l0)) := (Eq.trans ap_sq (ap_cons _ (Eq.trans ap_sq (ap_cons _ (Eq.trans ap_sq (Eq.trans (ap_bl 1) (Eq.trans (ap_j (Eq.trans ap_sq (ap_cons _ (Eq.trans ap_sq (ap_cons _ (Eq.trans ap_sq (ap_cons _ (Eq.trans (ap_pass (C := (f28_C_r8 k R_l0)) (fun _ => rfl)) (ap_cons _ (f28_f_r8 k R_l0)))))))))) (ap_cons _ (ap_cons _ (ap_cons _ (ap_cons _ (ap_cons _ rfl))))))))))))
def f28_entry_B (k : Nat) (g_l0 : f28_t_l0) (a0 : Td12) (a1 : Int) : Option ((List Int) × Unit) := ((f57 k (a0.1, (a0.2.1, a0.2.2)) ([a1])).bind fun r1 => (if ¬ (r1.1 = 0) then some ([], ()) else ((f54 k ([(-1)]) (a0.1.length : Int)).bind fun r2 => ((f29 k (a0.1, (a0.2.1, a0.2.2)) a1).bind fun r3 => (g_l0 r2.1 a0.1 a0.2.1 a0.2.2 r3.1 a1 (r3.1.length : Int) 0)))))
def f28_l0_B (k : Nat) (g_r8 : f28_t_r8) (y18 : (List Int)) (y2_0 : (List (Int × Int))) (y2_1 : (List (Int × (Int × (Int × Int))))) (y2_2 : (List (Int × Int))) (y21 : (List Int)) (x1 : Int) (x22 : Int) (x23 : Int) : Option ((List Int) × Unit) := (if x23 < x22 then (if 0 ≤ x23 then (if x23 < (y21.length : Int) then (if 0 ≤ x23 then (if x23 < (y2_1.length : Int) then (if 0 ≤ (y21.getD ((x23).toNat) 0) then (if 0 ≤ (((y2_1.getD (x23).toNat (0, (0, (0, 0)))).2).1) then (if (((y2_1.getD (x23).toNat (0, (0, (0, 0)))).2).1) < (y18.length : Int) then (if (y18.getD ((((y2_1.getD (x23).toNat (0, (0, (0, 0)))).2).1).toNat) 0) < 0 then (g_r8 y18 y2_0 y2_1 y2_2 y21 x1 x22 x23 true (y21.getD ((x23).toNat) 0) (((y2_1.getD (x23).toNat (0, (0, (0, 0)))).2).1)) else (if 0 ≤ (((y2_1.getD (x23).toNat (0, (0, (0, 0)))).2).1) then (if (((y2_1.getD (x23).toNat (0, (0, (0, 0)))).2).1) < (y18.length : Int) then (g_r8 y18 y2_0 y2_1 y2_2 y21 x1 x22 x23 (decide ((y21.getD ((x23).toNat) 0) < (y18.getD ((((y2_1.getD (x23).toNat (0, (0, (0, 0)))).2).1).toNat) 0))) (y21.getD ((x23).toNat) 0) (((y2_1.getD (x23).toNat (0, (0, (0, 0)))).2).1)) else none) else none)) else none) else none) else (g_r8 y18 y2_0 y2_1 y2_2 y21 x1 x22 x23 false (y21.getD ((x23).toNat) 0) (((y2_1.getD (x23).toNat (0, (0, (0, 0)))).2).1))) else none) else none) else none) else none) else (if 0 ≤ x1 then (if x1 < (y18.length : Int) then some ((y18.set ((x1).toNat) 0), ()) else none) else none))
def f28_r8_B (k : Nat) (g_c9 : f28_t_c9) (y18 : (List Int)) (y2_0 : (List (Int × Int))) (y2_1 : (List (Int × (Int × (Int × Int))))) (y2_2 : (List (Int × Int))) (y21 : (List Int)) (x1 : Int) (x22 : Int) (x23 : Int) (x50 : Bool) (x7 : Int) (x8 : Int) : Option ((List Int) × Unit) := (if x50 = true then (if 0 ≤ x8 then (if x8 < (y18.length : Int) then (g_c9 (y18.set ((x8).toNat) x7) y2_0 y2_1 y2_2 y21 x1 x22 x23) else none) else none) else (g_c9 y18 y2_0 y2_1 y2_2 y21 x1 x22 x23))
def f28_c9_B (k : Nat) (g_l0 : f28_t_l0) (y18 : (List Int)) (y2_0 : (List (Int × Int))) (y2_1 : (List (Int × (Int × (Int × Int))))) (y2_2 : (List (Int × Int))) (y21 : (List Int)) (x1 : Int) (x22 : Int) (x23 : Int) : Option ((List Int) × Unit) := (g_l0 y18 y2_0 y2_1 y2_2 y21 x1 x22 (w64 (x23 + 1)))
theorem f28_c9_P (k : Nat) (G_l0 : f28_S) : f28_o_c9 (fun σ => f28_a k (f28_F_c9 k G_l0) .nx σ) = f28_c9_B k (f28_o_l0 G_l0) := by kernel_rfl
def f28_c9 (k : Nat) (r_l0 : f28_t_l0) : f28_t_c9 := f28_c9_B k r_l0
theorem f28_c9_E (k : Nat) (R_l0 : f28_S) : f28_o_c9 (f28_C_c9 k R_l0) = f28_c9 k (f28_o_l0 R_l0) :=
  Eq.trans (congrArg f28_o_c9 (ap_fn (f28_f_c9 k R_l0))) ((f28_c9_P k R_l0).trans (by rfl))
theorem f28_r8_P (k : Nat) (G_l0 G_c9 : f28_S) : f28_o_r8 (fun σ => f28_a k (f28_F_r8 k G_l0 G_c9) .nx σ) = f28_r8_B k (f28_o_c9 G_c9) := by kernel_rfl
def f28_r8 (k : Nat) (r_l0 : f28_t_l0) : f28_t_r8 := f28_r8_B k (f28_c9 k r_l0)
theorem f28_r8_E (k : Nat) (R_l0 : f28_S) : f28_o_r8 (f28_C_r8 k R_l0) = f28_r8 k (f28_o_l0 R_l0) :=
  Eq.trans (congrArg f28_o_r8 (ap_fn (f28_f_r8 k R_l0))) ((f28_r8_P k R_l0 (f28_C_c9 k R_l0)).trans (by rw [f28_c9_E k R_l0] <;> rfl))
theorem f28_l0_P (k : Nat) (G_l0 G_r8 G_c9 : f28_S) : f28_o_l0 (fun σ => f28_a k (f28_F_l0 k G_l0 G_r8 G_c9) .nx σ) = f28_l0_B k (f28_o_r8 G_r8) := by kernel_rfl
def f28_l0 (k : Nat) : Nat → f28_t_l0
  | 0 => fun _ _ _ _ _ _ _ _ => none
  | n + 1 => f28_l0_B k (f28_r8 k (f28_l0 k n))
theorem f28_l0_E (k : Nat) : ∀ n, f28_o_l0 (f28_C_l0 k n) = f28_l0 k n
  | 0 => rfl
  | n + 1 =>
    Eq.trans (congrArg f28_o_l0 (Eq.trans (b := fun σ => f28_a k (f28_Q_l0 k (f28_C_l0 k n)) .nx σ) (by kernel_rfl) (ap_fn (f28_f_l0 k (f28_C_l0 k n))))) ((f28_l0_P k (f28_C_l0 k n) (f28_C_r8 k (f28_C_l0 k n)) (f28_C_c9 k (f28_C_l0 k n))).trans (by rw [f28_r8_E k (f28_C_l0 k n), f28_l0_E k n] <;> rfl))
theorem f28_entry_P (k : Nat) (G_l0 : f28_S) (xs : DL f28_sig) : f28_a k (.c (f28_p 2) 0 :: .c (f28_p 6) 0 :: .c (f28_p 14) 0 :: .c (f28_p 60) 0 :: .j (fun σ => f28_a k (.j (fun σ => G_l0 (cut f28_A.loops 0 σ)) :: .blk 0 :: .c (f28_p 31) 0 :: []) .nx σ) :: .c (f28_p 31) 0 :: []) .nx (σ0 60 192 f28_sig xs) = f28_entry_B k (f28_o_l0 G_l0) xs.1 xs.2.1 := by kernel_rfl
def f28 (k : Nat) (a0 : Td12) (a1 : Int) : Option ((List Int) × Unit) := f28_entry_B k (f28_l0 k k) a0 a1
theorem f28_fe (k : Nat) : f28_a k [.c (f28_p 1) 0] = f28_a k (.c (f28_p 2) 0 :: .c (f28_p 6) 0 :: .c (f28_p 14) 0 :: .c (f28_p 60) 0 :: .j (fun σ => f28_a k (.j (fun σ => (f28_C_l0 k k) (cut f28_A.loops 0 σ)) :: .blk 0 :: .c (f28_p 31) 0 :: []) .nx σ) :: .c (f28_p 31) 0 :: []) := (Eq.trans ap_sq (ap_cons _ (Eq.trans ap_sq (ap_cons _ (Eq.trans ap_sq (ap_cons _ (Eq.trans ap_sq (Eq.trans ap_sq (ap_cons _ (Eq.trans (ap_bl 0) (Eq.trans (ap_j (Eq.trans (ap_lp (C := (f28_C_l0 k)) (fun _ _ => rfl)) (ap_cons _ (ap_cons _ (ap_cons _ rfl))))) (ap_cons _ (ap_cons _ rfl)))))))))))))
theorem f28_eq (k : Nat) (xs : DL f28_sig) : den T f28_Y (f28_E k) f28_A k f28_c 0 (σ0 60 192 f28_sig xs) (Kfin T f28_rs f28_ts) = f28 k xs.1 xs.2.1 :=
  Eq.trans (Eq.trans den_sb (ap_at (f28_fe k) _)) ((f28_entry_P k (f28_C_l0 k k) xs).trans (by rw [f28_l0_E k k] <;> rfl))
noncomputable def f28_con (k : Nat) : Con := ⟨f28_sig, f28_rs, fun xs => f28 k xs.1 xs.2.1⟩
theorem f28_ok (k : Nat) : PureOK Try.prog 28 f28_sig f28_rs (fun xs => f28 k xs.1 xs.2.1) :=
  (pure_of_den (k := k) (A := f28_A) (T := T) (Y := f28_Y) (E := f28_E k) (M := 192) (ts := f28_ts) T_ok ⟨f29_ok k, f54_ok k, f57_ok k, trivial⟩ ⟨f29_ent, f54_ent, f57_ent, trivial⟩ mixed (f := 28) (fn := Try.f28) (c := f28_c) (by kernel_rfl) (by kernel_rfl) (by kernel_rfl) (by decide) (by kernel_rfl)).congr fun xs => (f28_eq k xs).symm
theorem f28_ent : Ent Try.prog 28 := fun args w => by kernel_rfl
/-! ### terrier/terrkeep4.TimedEven: function 5 -/
noncomputable def f5_c : Code := Try.f5.body.getD .skip
noncomputable abbrev f5_p (n : Nat) : Code := sb f5_c n
abbrev f5_sig : List PT := [(false, Tq1), (false, (.int .i64))]
abbrev f5_rs : List RT := [.d false .bool]
abbrev f5_ts : List RV := [.tmp 4]
abbrev f5_S := St → Option (RDL f5_rs)
abbrev f5_L := List (Fr (RDL f5_rs))
def f5_Y : Tys := [(48, Tq3)]
noncomputable def f5_E (k : Nat) : Env := [(15, .c (f15_con k)), (23, .c (f23_con k)), (25, .c (f25_con k)), (26, .c (f26_con k)), (27, .c (f27_con k)), (28, .c (f28_con k))]
def f5_A : Ann := { loops := [(0, { mat := [(6, 36, Tq3)], slots := [(1, .id), (5, .id), (6, .id), (19, .val false Tq6), (20, .id), (21, .id)], keys := [(5, [.val false Tq2, .val false Tq6, .val false Tq2]), (36, [])] }), (2, { slots := [(11, .id), (12, .id), (14, .id), (71, .id), (72, .id)], keys := [(44, []), (48, [])] })], regs := [(14, { slots := [(11, .id), (12, .id), (14, .id), (69, .bool)], keys := [(44, []), (48, [])] }), (19, { slots := [(11, .id), (12, .id), (14, .id), (71, .id), (72, .id), (106, .bool)], keys := [(44, []), (48, [])] })] }
noncomputable abbrev f5_a (k : Nat) (F : f5_L) : Kont (RDL f5_rs) := ap T f5_Y (f5_E k) f5_A k (Kfin T f5_rs f5_ts) F
def f5_s_l0 (y36 : (List (List (Int × Int)))) (y5_0 : (List (Int × Int))) (y5_1 : (List (Int × (Int × (Int × Int))))) (y5_2 : (List (Int × Int))) (x1 : Int) (x20 : Int) (x21 : Int) : St := mkS 108 336 [(1, aI x1), (5, aP 5), (6, aO 36), (19, aV Tq6 y5_1), (20, aI x20), (21, aI x21)] [(5, .box [cV Tq2 y5_0, cV Tq6 y5_1, cV Tq2 y5_2]), (36, .vec Tq3 y36)]
abbrev f5_t_l0 := (List (List (Int × Int))) → (List (Int × Int)) → (List (Int × (Int × (Int × Int)))) → (List (Int × Int)) → Int → Int → Int → Option (Bool × Unit)
abbrev f5_o_l0 (R : f5_S) : f5_t_l0 := (fun y36 y5_0 y5_1 y5_2 x1 x20 x21 => R (f5_s_l0 y36 y5_0 y5_1 y5_2 x1 x20 x21))
noncomputable def f5_Q_l0 (k : Nat) (R_l0 : f5_S) : f5_L := [.c (f5_p 244) 0, .j (fun σ => R_l0 (cut f5_A.loops 0 σ)), .blk 0, .c (f5_p 31) 0]
noncomputable def f5_C_l0 (k : Nat) (n : Nat) (σ : St) : Option (RDL f5_rs) := loopK (fun σ K => den T f5_Y (f5_E k) f5_A k (f5_p 244) 0 σ K) (cut f5_A.loops 0) (f5_a k [.blk 0, .c (f5_p 31) 0]) n σ
def f5_s_r14 (y44 : (List Int)) (y48 : (List Int)) (x11 : Int) (x69 : Bool) : St := mkS 108 336 [(11, aI x11), (12, aO 44), (14, aO 48), (69, aB x69)] [(44, .vec (.int .i64) y44), (48, .vec (.int .i64) y48)]
abbrev f5_t_r14 := (List Int) → (List Int) → Int → Bool → Option (Bool × Unit)
abbrev f5_o_r14 (R : f5_S) : f5_t_r14 := (fun y44 y48 x11 x69 => R (f5_s_r14 y44 y48 x11 x69))
noncomputable def f5_Q_r14 (k : Nat) : f5_L := [.c (f5_p 1021) 0, .c (f5_p 511) 0]
noncomputable def f5_C_r14 (k : Nat) : f5_S := fun σ => f5_a k (f5_Q_r14 k) .nx σ
def f5_s_l2 (y44 : (List Int)) (y48 : (List Int)) (x11 : Int) (x71 : Int) (x72 : Int) : St := mkS 108 336 [(11, aI x11), (12, aO 44), (14, aO 48), (71, aI x71), (72, aI x72)] [(44, .vec (.int .i64) y44), (48, .vec (.int .i64) y48)]
abbrev f5_t_l2 := (List Int) → (List Int) → Int → Int → Int → Option (Bool × Unit)
abbrev f5_o_l2 (R : f5_S) : f5_t_l2 := (fun y44 y48 x11 x71 x72 => R (f5_s_l2 y44 y48 x11 x71 x72))
noncomputable def f5_Q_l2 (k : Nat) (R_l2 : f5_S) : f5_L := [.c (f5_p 8180) 2, .j (fun σ => R_l2 (cut f5_A.loops 2 σ)), .blk 2, .c (f5_p 1023) 0]
noncomputable def f5_C_l2 (k : Nat) (n : Nat) (σ : St) : Option (RDL f5_rs) := loopK (fun σ K => den T f5_Y (f5_E k) f5_A k (f5_p 8180) 2 σ K) (cut f5_A.loops 2) (f5_a k [.blk 2, .c (f5_p 1023) 0]) n σ
def f5_s_r19 (y44 : (List Int)) (y48 : (List Int)) (x106 : Bool) (x11 : Int) (x71 : Int) (x72 : Int) : St := mkS 108 336 [(11, aI x11), (12, aO 44), (14, aO 48), (71, aI x71), (72, aI x72), (106, aB x106)] [(44, .vec (.int .i64) y44), (48, .vec (.int .i64) y48)]
abbrev f5_t_r19 := (List Int) → (List Int) → Bool → Int → Int → Int → Option (Bool × Unit)
abbrev f5_o_r19 (R : f5_S) : f5_t_r19 := (fun y44 y48 x106 x11 x71 x72 => R (f5_s_r19 y44 y48 x106 x11 x71 x72))
noncomputable def f5_Q_r19 (k : Nat) (R_l2 : f5_S) : f5_L := [.c (f5_p 523571) 3, .blk 3, .c (f5_p 65447) 2, .j (fun σ => R_l2 (cut f5_A.loops 2 σ)), .blk 2, .c (f5_p 1023) 0]
noncomputable def f5_C_r19 (k : Nat) (R_l2 : f5_S) : f5_S := fun σ => f5_a k (f5_Q_r19 k R_l2) .nx σ
noncomputable def f5_F_r14 (k : Nat) (G_l2 : f5_S) : f5_L := .c (f5_p 1021) 0 :: .c (f5_p 2044) 0 :: .j (fun σ => f5_a k (.j (fun σ => G_l2 (cut f5_A.loops 2 σ)) :: .blk 2 :: .c (f5_p 1023) 0 :: []) .nx σ) :: .c (f5_p 1023) 0 :: []
theorem f5_f_r14 (k : Nat) : f5_a k (f5_Q_r14 k) = f5_a k (f5_F_r14 k (f5_C_l2 k k)) := (ap_cons _ (Eq.trans ap_sq (Eq.trans ap_sq (ap_cons _ (Eq.trans (ap_bl 2) (Eq.trans (ap_j (Eq.trans (ap_lp (C := (f5_C_l2 k)) (fun _ _ => rfl)) (ap_cons _ (ap_cons _ (ap_cons _ rfl))))) (ap_cons _ (ap_cons _ rfl))))))))
noncomputable def f5_F_l0 (k : Nat) (G_l0 G_r14 G_l2 : f5_S) : f5_L := .c (f5_p 244) 0 :: .j (fun σ => G_l0 (cut f5_A.loops 0 σ)) :: .blk 0 :: .c (f5_p 62) 0 :: .c (f5_p 126) 0 :: .c (f5_p 254) 0 :: .c (f5_p 1020) 0 :: .j G_r14 :: f5_F_r14 k G_l2
theorem f5_f_l0 (k : Nat) (R_l0 : f5_S) : f5_a k (f5_Q_l0 k R_l0) = f5_a k (f5_F_l0 k R_l0 (f5_C_r14 k) (f5_C_l2 k k)) := (ap_cons _ (ap_cons _ (ap_cons _ (Eq.trans ap_sq (ap_cons _ (Eq.trans ap_sq (ap_cons _ (Eq.trans ap_sq (ap_cons _ (Eq.trans ap_sq (Eq.trans ap_sq (ap_cons _ (Eq.trans (ap_pass (C := (f5_C_r14 k)) (fun _ => rfl)) (ap_cons _ (f5_f_r14 k)))))))))))))))
noncomputable def f5_F_r19 (k : Nat) (G_l2 : f5_S) : f5_L := .c (f5_p 523571) 3 :: .blk 3 :: .c (f5_p 65447) 2 :: .j (fun σ => G_l2 (cut f5_A.loops 2 σ)) :: .blk 2 :: .c (f5_p 1023) 0 :: []
theorem f5_f_r19 (k : Nat) (R_l2 : f5_S) : f5_a k (f5_Q_r19 k R_l2) = f5_a k (f5_F_r19 k R_l2) := (ap_cons _ (ap_cons _ (ap_cons _ (ap_cons _ (ap_cons _ (ap_cons _ rfl))))))
noncomputable def f5_F_l2 (k : Nat) (G_l2 G_r19 : f5_S) : f5_L := .c (f5_p 16360) 2 :: .c (f5_p 32722) 2 :: .j (fun σ => f5_a k (.c (f5_p 261784) 3 :: .c (f5_p 523570) 3 :: .j G_r19 :: f5_F_r19 k G_l2) .nx σ) :: .c (f5_p 65447) 2 :: .j (fun σ => G_l2 (cut f5_A.loops 2 σ)) :: .blk 2 :: .c (f5_p 1023) 0 :: []
theorem f5_f_l2 (k : Nat) (R_l2 : f5_S) : f5_a k (f5_Q_l2 k R_l2) = f5_a k (f5_F_l2 k R_l2 (f5_C_r19 k R_l2)) := (Eq.trans ap_sq (ap_cons _ (Eq.trans ap_sq (ap_cons _ (Eq.trans ap_sq (Eq.trans (ap_bl 3) (Eq.trans (ap_j (Eq.trans ap_sq (ap_cons _ (Eq.trans ap_sq (ap_cons _ (Eq.trans (ap_pass (C := (f5_C_r19 k R_l2)) (fun _ => rfl)) (ap_cons _ (f5_f_r19 k R_l2)))))))) (ap_cons _ (ap_cons _ (ap_cons _ (ap_cons _ (ap_cons _ rfl))))))))))))
def f5_entry_B (k : Nat) (g_l0 : f5_t_l0) (a0 : (List Int)) (a1 : Int) : Option (Bool × Unit) := ((f23 k a0).bind fun r1 => (g_l0 ([] : List (List (Int × Int))) r1.1.1 r1.1.2.1 r1.1.2.2 a1 (r1.1.2.1.length : Int) 0))
def f5_l0_B (k : Nat) (g_l0 : f5_t_l0) (g_r14 : f5_t_r14) (y36 : (List (List (Int × Int)))) (y5_0 : (List (Int × Int))) (y5_1 : (List (Int × (Int × (Int × Int))))) (y5_2 : (List (Int × Int))) (x1 : Int) (x20 : Int) (x21 : Int) : Option (Bool × Unit) := (if x21 < x20 then (if 0 ≤ x21 then (if x21 < (y5_1.length : Int) then ((f27 k ((((y5_1.getD (x21).toNat (0, (0, (0, 0)))).2).2).1)).bind fun r1 => (if ¬ (r1.2.1 = 0) then some (false, ()) else (if (y36.length + 1) * 24 ≤ 140737488355328 then (g_l0 (y36 ++ [r1.1]) y5_0 y5_1 y5_2 x1 x20 (w64 (x21 + 1))) else none))) else none) else none) else ((f15 k x1 1000).bind fun r2 => ((f25 k (y5_0, (y5_1, y5_2)) y36 0 r2.1).bind fun r3 => ((f28 k (y5_0, (y5_1, y5_2)) 0).bind fun r4 => ((f26 k ).bind fun r5 => (if ¬ (r5.1 = true) then (g_r14 r3.1 r4.1 r2.1 true) else (if ¬ (r3.2.1 = 0) then (g_r14 r3.1 r4.1 r2.1 true) else (if ¬ ((r3.1.length : Int) = (y5_0.length : Int)) then (g_r14 r3.1 r4.1 r2.1 true) else (g_r14 r3.1 r4.1 r2.1 (decide (¬ ((r4.1.length : Int) = (r3.1.length : Int)))))))))))))
def f5_r14_B (k : Nat) (g_l2 : f5_t_l2) (y44 : (List Int)) (y48 : (List Int)) (x11 : Int) (x69 : Bool) : Option (Bool × Unit) := (if x69 = true then some (false, ()) else (g_l2 y44 y48 x11 (y44.length : Int) 0))
def f5_l2_B (k : Nat) (g_r19 : f5_t_r19) (y44 : (List Int)) (y48 : (List Int)) (x11 : Int) (x71 : Int) (x72 : Int) : Option (Bool × Unit) := (if x72 < x71 then (if 0 ≤ x72 then (if x72 < (y48.length : Int) then (if (y48.getD ((x72).toNat) 0) < 0 then (if 0 ≤ x72 then (if x72 < (y44.length : Int) then (if ¬ ((y44.getD ((x72).toNat) 0) = (-1)) then (g_r19 y44 y48 true x11 x71 x72) else (if 0 ≤ x72 then (if x72 < (y48.length : Int) then (if 0 ≤ (y48.getD ((x72).toNat) 0) then (if 0 ≤ x72 then (if x72 < (y44.length : Int) then (if 0 ≤ x72 then (if x72 < (y48.length : Int) then (g_r19 y44 y48 (decide (¬ ((y44.getD ((x72).toNat) 0) = (w64 (x11 + (y48.getD ((x72).toNat) 0)))))) x11 x71 x72) else none) else none) else none) else none) else (g_r19 y44 y48 false x11 x71 x72)) else none) else none)) else none) else none) else (if 0 ≤ x72 then (if x72 < (y48.length : Int) then (if 0 ≤ (y48.getD ((x72).toNat) 0) then (if 0 ≤ x72 then (if x72 < (y44.length : Int) then (if 0 ≤ x72 then (if x72 < (y48.length : Int) then (g_r19 y44 y48 (decide (¬ ((y44.getD ((x72).toNat) 0) = (w64 (x11 + (y48.getD ((x72).toNat) 0)))))) x11 x71 x72) else none) else none) else none) else none) else (g_r19 y44 y48 false x11 x71 x72)) else none) else none)) else none) else none) else some (true, ()))
def f5_r19_B (k : Nat) (g_l2 : f5_t_l2) (y44 : (List Int)) (y48 : (List Int)) (x106 : Bool) (x11 : Int) (x71 : Int) (x72 : Int) : Option (Bool × Unit) := (if x106 = true then some (false, ()) else (g_l2 y44 y48 x11 x71 (w64 (x72 + 1))))
theorem f5_r19_P (k : Nat) (G_l2 : f5_S) : f5_o_r19 (fun σ => f5_a k (f5_F_r19 k G_l2) .nx σ) = f5_r19_B k (f5_o_l2 G_l2) := by kernel_rfl
def f5_r19 (k : Nat) (r_l2 : f5_t_l2) : f5_t_r19 := f5_r19_B k r_l2
theorem f5_r19_E (k : Nat) (R_l2 : f5_S) : f5_o_r19 (f5_C_r19 k R_l2) = f5_r19 k (f5_o_l2 R_l2) :=
  Eq.trans (congrArg f5_o_r19 (ap_fn (f5_f_r19 k R_l2))) ((f5_r19_P k R_l2).trans (by rfl))
theorem f5_l2_P (k : Nat) (G_l2 G_r19 : f5_S) : f5_o_l2 (fun σ => f5_a k (f5_F_l2 k G_l2 G_r19) .nx σ) = f5_l2_B k (f5_o_r19 G_r19) := by kernel_rfl
def f5_l2 (k : Nat) : Nat → f5_t_l2
  | 0 => fun _ _ _ _ _ => none
  | n + 1 => f5_l2_B k (f5_r19 k (f5_l2 k n))
theorem f5_l2_E (k : Nat) : ∀ n, f5_o_l2 (f5_C_l2 k n) = f5_l2 k n
  | 0 => rfl
  | n + 1 =>
    Eq.trans (congrArg f5_o_l2 (Eq.trans (b := fun σ => f5_a k (f5_Q_l2 k (f5_C_l2 k n)) .nx σ) (by kernel_rfl) (ap_fn (f5_f_l2 k (f5_C_l2 k n))))) ((f5_l2_P k (f5_C_l2 k n) (f5_C_r19 k (f5_C_l2 k n))).trans (by rw [f5_r19_E k (f5_C_l2 k n), f5_l2_E k n] <;> rfl))
theorem f5_r14_P (k : Nat) (G_l2 : f5_S) : f5_o_r14 (fun σ => f5_a k (f5_F_r14 k G_l2) .nx σ) = f5_r14_B k (f5_o_l2 G_l2) := by kernel_rfl
def f5_r14 (k : Nat) : f5_t_r14 := f5_r14_B k (f5_l2 k k)
theorem f5_r14_E (k : Nat) : f5_o_r14 (f5_C_r14 k) = f5_r14 k :=
  Eq.trans (congrArg f5_o_r14 (ap_fn (f5_f_r14 k))) ((f5_r14_P k (f5_C_l2 k k)).trans (by rw [f5_l2_E k k] <;> rfl))
theorem f5_l0_P (k : Nat) (G_l0 G_r14 G_l2 : f5_S) : f5_o_l0 (fun σ => f5_a k (f5_F_l0 k G_l0 G_r14 G_l2) .nx σ) = f5_l0_B k (f5_o_l0 G_l0) (f5_o_r14 G_r14) := by kernel_rfl
def f5_l0 (k : Nat) : Nat → f5_t_l0
  | 0 => fun _ _ _ _ _ _ _ => none
  | n + 1 => f5_l0_B k (f5_l0 k n) (f5_r14 k)
theorem f5_l0_E (k : Nat) : ∀ n, f5_o_l0 (f5_C_l0 k n) = f5_l0 k n
  | 0 => rfl
  | n + 1 =>
    Eq.trans (congrArg f5_o_l0 (Eq.trans (b := fun σ => f5_a k (f5_Q_l0 k (f5_C_l0 k n)) .nx σ) (by kernel_rfl) (ap_fn (f5_f_l0 k (f5_C_l0 k n))))) ((f5_l0_P k (f5_C_l0 k n) (f5_C_r14 k) (f5_C_l2 k k)).trans (by rw [f5_r14_E k, f5_l0_E k n] <;> rfl))
theorem f5_entry_P (k : Nat) (G_l0 G_r14 G_l2 : f5_S) (xs : DL f5_sig) : f5_a k (.c (f5_p 2) 0 :: .c (f5_p 6) 0 :: .c (f5_p 14) 0 :: .c (f5_p 60) 0 :: .j (fun σ => f5_a k (.j (fun σ => G_l0 (cut f5_A.loops 0 σ)) :: .blk 0 :: .c (f5_p 62) 0 :: .c (f5_p 126) 0 :: .c (f5_p 254) 0 :: .c (f5_p 1020) 0 :: .j G_r14 :: f5_F_r14 k G_l2) .nx σ) :: .c (f5_p 62) 0 :: .c (f5_p 126) 0 :: .c (f5_p 254) 0 :: .c (f5_p 1020) 0 :: .j G_r14 :: f5_F_r14 k G_l2) .nx (σ0 108 336 f5_sig xs) = f5_entry_B k (f5_o_l0 G_l0) xs.1 xs.2.1 := by kernel_rfl
def f5 (k : Nat) (a0 : (List Int)) (a1 : Int) : Option (Bool × Unit) := f5_entry_B k (f5_l0 k k) a0 a1
theorem f5_fe (k : Nat) : f5_a k [.c (f5_p 1) 0] = f5_a k (.c (f5_p 2) 0 :: .c (f5_p 6) 0 :: .c (f5_p 14) 0 :: .c (f5_p 60) 0 :: .j (fun σ => f5_a k (.j (fun σ => (f5_C_l0 k k) (cut f5_A.loops 0 σ)) :: .blk 0 :: .c (f5_p 62) 0 :: .c (f5_p 126) 0 :: .c (f5_p 254) 0 :: .c (f5_p 1020) 0 :: .j (f5_C_r14 k) :: f5_F_r14 k (f5_C_l2 k k)) .nx σ) :: .c (f5_p 62) 0 :: .c (f5_p 126) 0 :: .c (f5_p 254) 0 :: .c (f5_p 1020) 0 :: .j (f5_C_r14 k) :: f5_F_r14 k (f5_C_l2 k k)) := (Eq.trans ap_sq (ap_cons _ (Eq.trans ap_sq (ap_cons _ (Eq.trans ap_sq (ap_cons _ (Eq.trans ap_sq (Eq.trans ap_sq (ap_cons _ (Eq.trans (ap_bl 0) (Eq.trans (ap_j (Eq.trans (ap_lp (C := (f5_C_l0 k)) (fun _ _ => rfl)) (ap_cons _ (ap_cons _ (Eq.trans ap_sq (ap_cons _ (Eq.trans ap_sq (ap_cons _ (Eq.trans ap_sq (ap_cons _ (Eq.trans ap_sq (Eq.trans ap_sq (ap_cons _ (Eq.trans (ap_pass (C := (f5_C_r14 k)) (fun _ => rfl)) (ap_cons _ (f5_f_r14 k)))))))))))))))) (ap_cons _ (Eq.trans ap_sq (ap_cons _ (Eq.trans ap_sq (ap_cons _ (Eq.trans ap_sq (ap_cons _ (Eq.trans ap_sq (Eq.trans ap_sq (ap_cons _ (Eq.trans (ap_pass (C := (f5_C_r14 k)) (fun _ => rfl)) (ap_cons _ (f5_f_r14 k))))))))))))))))))))))))
theorem f5_eq (k : Nat) (xs : DL f5_sig) : den T f5_Y (f5_E k) f5_A k f5_c 0 (σ0 108 336 f5_sig xs) (Kfin T f5_rs f5_ts) = f5 k xs.1 xs.2.1 :=
  Eq.trans (Eq.trans den_sb (ap_at (f5_fe k) _)) ((f5_entry_P k (f5_C_l0 k k) (f5_C_r14 k) (f5_C_l2 k k) xs).trans (by rw [f5_l0_E k k] <;> rfl))
noncomputable def f5_con (k : Nat) : Con := ⟨f5_sig, f5_rs, fun xs => f5 k xs.1 xs.2.1⟩
theorem f5_ok (k : Nat) : PureOK Try.prog 5 f5_sig f5_rs (fun xs => f5 k xs.1 xs.2.1) :=
  (pure_of_den (k := k) (A := f5_A) (T := T) (Y := f5_Y) (E := f5_E k) (M := 336) (ts := f5_ts) T_ok ⟨f15_ok k, f23_ok k, f25_ok k, f26_ok k, f27_ok k, f28_ok k, trivial⟩ ⟨f15_ent, f23_ent, f25_ent, f26_ent, f27_ent, f28_ent, trivial⟩ mixed (f := 5) (fn := Try.f5) (c := f5_c) (by kernel_rfl) (by kernel_rfl) (by kernel_rfl) (by decide) (by kernel_rfl)).congr fun xs => (f5_eq k xs).symm
theorem f5_ent : Ent Try.prog 5 := fun args w => by kernel_rfl
def Pure_TimedEven : Prop := ∀ xs : DL f5_sig, wfs f5_sig xs → ∃ k, f5 k xs.1 xs.2.1 = some (true, ())
end Go.Proofs.Ytoebjlimpnmaoaa.Rw
