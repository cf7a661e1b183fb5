/- What the functions that the law TimedWaits reaches come to, part 2. No condition. -/
import Derived.Test.YtoebjlimpnmaoaaRwTimedWaitsa
namespace Go.Proofs.Ytoebjlimpnmaoaa.Rw
open Go.Rx Go.Proofs
set_option linter.unusedVariables false
set_option maxRecDepth 100000
/-! ### terrier/timed.follows: function 110 -/
noncomputable def f110_c : Code := Try.f110.body.getD .skip
noncomputable abbrev f110_p (n : Nat) : Code := sb f110_c n
abbrev f110_sig : List PT := [(true, Tq17), (true, Tq14), (true, Tq14)]
abbrev f110_rs : List RT := [.d false .bool]
abbrev f110_ts : List RV := [.tmp 6]
abbrev f110_S := St → Option (RDL f110_rs)
abbrev f110_L := List (Fr (RDL f110_rs))
def f110_Y : Tys := []
noncomputable def f110_E (k : Nat) : Env := []
def f110_A : Ann := { conds := [(3, { slots := [(4, .id), (5, .id), (7, .id)], keys := [(4, []), (5, [])] })], regs := [(4, { slots := [(6, .bool)] })] }
noncomputable abbrev f110_a (k : Nat) (F : f110_L) : Kont (RDL f110_rs) := ap T f110_Y (f110_E k) f110_A k (Kfin T f110_rs f110_ts) F
def f110_s_c3 (y4_0 : Int) (y4_1 : Int) (y4_2 : Int) (y4_3 : Int) (y4_4 : Int) (y5_0 : Int) (y5_1 : Int) (y5_2 : Int) (y5_3 : Int) (y5_4 : Int) (x7 : Int) : St := mkS 29 96 [(4, aP 4), (5, aP 5), (7, aI x7)] [(4, .box [cI y4_0, cI y4_1, cI y4_2, cI y4_3, cI y4_4]), (5, .box [cI y5_0, cI y5_1, cI y5_2, cI y5_3, cI y5_4])]
abbrev f110_t_c3 := Int → Int → Int → Int → Int → Int → Int → Int → Int → Int → Int → Option (Bool × Unit)
abbrev f110_o_c3 (R : f110_S) : f110_t_c3 := (fun y4_0 y4_1 y4_2 y4_3 y4_4 y5_0 y5_1 y5_2 y5_3 y5_4 x7 => R (f110_s_c3 y4_0 y4_1 y4_2 y4_3 y4_4 y5_0 y5_1 y5_2 y5_3 y5_4 x7))
noncomputable def f110_Q_c3 (k : Nat) : f110_L := [.c (f110_p 15) 0]
noncomputable def f110_C_c3 (k : Nat) : f110_S := fun σ => f110_a k (f110_Q_c3 k) .nx σ
def f110_s_r4 (x6 : Bool) : St := mkS 29 96 [(6, aB x6)] []
abbrev f110_t_r4 := Bool → Option (Bool × Unit)
abbrev f110_o_r4 (R : f110_S) : f110_t_r4 := (fun x6 => R (f110_s_r4 x6))
noncomputable def f110_Q_r4 (k : Nat) : f110_L := [.c (f110_p 31) 0]
noncomputable def f110_C_r4 (k : Nat) : f110_S := fun σ => f110_a k (f110_Q_r4 k) .nx σ
noncomputable def f110_F_r4 (k : Nat) : f110_L := .c (f110_p 31) 0 :: []
theorem f110_f_r4 (k : Nat) : f110_a k (f110_Q_r4 k) = f110_a k (f110_F_r4 k) := (ap_cons _ rfl)
noncomputable def f110_F_c3 (k : Nat) (G_r4 : f110_S) : f110_L := .c (f110_p 30) 0 :: .j G_r4 :: f110_F_r4 k
theorem f110_f_c3 (k : Nat) : f110_a k (f110_Q_c3 k) = f110_a k (f110_F_c3 k (f110_C_r4 k)) := (Eq.trans ap_sq (ap_cons _ (Eq.trans (ap_pass (C := (f110_C_r4 k)) (fun _ => rfl)) (ap_cons _ (f110_f_r4 k)))))
def f110_entry_B (k : Nat) (g_c3 : f110_t_c3) (a0 : (Int × Td19)) (a1 : Td18) (a2 : Td18) : Option (Bool × Unit) := (if a1.2.2.2.2 = a2.2.2.2.2 then (g_c3 a1.1 a1.2.1 a1.2.2.1 a1.2.2.2.1 a1.2.2.2.2 a2.1 a2.2.1 a2.2.2.1 a2.2.2.2.1 a2.2.2.2.2 0) else (g_c3 a1.1 a1.2.1 a1.2.2.1 a1.2.2.2.1 a1.2.2.2.2 a2.1 a2.2.1 a2.2.2.1 a2.2.2.2.1 a2.2.2.2.2 a0.2.1))
def f110_c3_B (k : Nat) (g_r4 : f110_t_r4) (y4_0 : Int) (y4_1 : Int) (y4_2 : Int) (y4_3 : Int) (y4_4 : Int) (y5_0 : Int) (y5_1 : Int) (y5_2 : Int) (y5_3 : Int) (y5_4 : Int) (x7 : Int) : Option (Bool × Unit) := (if y4_1 = y5_0 then (g_r4 (decide (x7 ≤ (w64 (y5_2 - y4_3))))) else (g_r4 false))
def f110_r4_B (k : Nat) (x6 : Bool) : Option (Bool × Unit) := some (decide (x6 = true), ())
theorem f110_r4_P (k : Nat) : f110_o_r4 (fun σ => f110_a k (f110_F_r4 k) .nx σ) = f110_r4_B k := by kernel_rfl
def f110_r4 (k : Nat) : f110_t_r4 := f110_r4_B k
theorem f110_r4_E (k : Nat) : f110_o_r4 (f110_C_r4 k) = f110_r4 k :=
  Eq.trans (congrArg f110_o_r4 (ap_fn (f110_f_r4 k))) ((f110_r4_P k).trans (by rfl))
theorem f110_c3_P (k : Nat) (G_r4 : f110_S) : f110_o_c3 (fun σ => f110_a k (f110_F_c3 k G_r4) .nx σ) = f110_c3_B k (f110_o_r4 G_r4) := by kernel_rfl
def f110_c3 (k : Nat) : f110_t_c3 := f110_c3_B k (f110_r4 k)
theorem f110_c3_E (k : Nat) : f110_o_c3 (f110_C_c3 k) = f110_c3 k :=
  Eq.trans (congrArg f110_o_c3 (ap_fn (f110_f_c3 k))) ((f110_c3_P k (f110_C_r4 k)).trans (by rw [f110_r4_E k] <;> rfl))
theorem f110_entry_P (k : Nat) (G_c3 G_r4 : f110_S) (xs : DL f110_sig) : f110_a k (.c (f110_p 2) 0 :: .c (f110_p 6) 0 :: .c (f110_p 28) 0 :: .c (f110_p 29) 0 :: .j G_c3 :: f110_F_c3 k G_r4) .nx (σ0 29 96 f110_sig xs) = f110_entry_B k (f110_o_c3 G_c3) xs.1 xs.2.1 xs.2.2.1 := by kernel_rfl
def f110 (k : Nat) (a0 : (Int × Td19)) (a1 : Td18) (a2 : Td18) : Option (Bool × Unit) := f110_entry_B k (f110_c3 k) a0 a1 a2
theorem f110_fe (k : Nat) : f110_a k [.c (f110_p 1) 0] = f110_a k (.c (f110_p 2) 0 :: .c (f110_p 6) 0 :: .c (f110_p 28) 0 :: .c (f110_p 29) 0 :: .j (f110_C_c3 k) :: f110_F_c3 k (f110_C_r4 k)) := (Eq.trans ap_sq (ap_cons _ (Eq.trans ap_sq (ap_cons _ (Eq.trans ap_sq (Eq.trans ap_sq (ap_cons _ (ap_cons _ (Eq.trans (ap_pass (C := (f110_C_c3 k)) (fun _ => rfl)) (ap_cons _ (f110_f_c3 k)))))))))))
theorem f110_eq (k : Nat) (xs : DL f110_sig) : den T f110_Y (f110_E k) f110_A k f110_c 0 (σ0 29 96 f110_sig xs) (Kfin T f110_rs f110_ts) = f110 k xs.1 xs.2.1 xs.2.2.1 :=
  Eq.trans (Eq.trans den_sb (ap_at (f110_fe k) _)) ((f110_entry_P k (f110_C_c3 k) (f110_C_r4 k) xs).trans (by rw [f110_c3_E k] <;> rfl))
noncomputable def f110_con (k : Nat) : Con := ⟨f110_sig, f110_rs, fun xs => f110 k xs.1 xs.2.1 xs.2.2.1⟩
theorem f110_ok (k : Nat) : PureOK Try.prog 110 f110_sig f110_rs (fun xs => f110 k xs.1 xs.2.1 xs.2.2.1) :=
  (pure_of_den (k := k) (A := f110_A) (T := T) (Y := f110_Y) (E := f110_E k) (M := 96) (ts := f110_ts) T_ok trivial trivial mixed (f := 110) (fn := Try.f110) (c := f110_c) (by kernel_rfl) (by kernel_rfl) (by kernel_rfl) (by decide) (by kernel_rfl)).congr fun xs => (f110_eq k xs).symm
theorem f110_ent : Ent Try.prog 110 := fun args w => by kernel_rfl
/-! ### terrier/timed.best: function 80 -/
noncomputable def f80_c : Code := Try.f80.body.getD .skip
noncomputable abbrev f80_p (n : Nat) : Code := sb f80_c n
abbrev f80_sig : List PT := [(true, Tq17), (false, (.int .i64)), (false, (.int .i64))]
abbrev f80_rs : List RT := [.new Tq20]
abbrev f80_ts : List RV := [.tmp 6]
abbrev f80_S := St → Option (RDL f80_rs)
abbrev f80_L := List (Fr (RDL f80_rs))
def f80_Y : Tys := [(3, (.int .i64)), (22, Tq20)]
noncomputable def f80_E (k : Nat) : Env := [(35, .c (f35u_con k)), (81, .c (f81_con k)), (110, .c (f110_con k))]
def f80_A : Ann := { loops := [(0, { slots := [(1, .id), (2, .id), (3, .id), (7, .id), (17, .val false Tq14), (18, .id), (19, .id)], keys := [(3, [.id, .id, .val false Tq14]), (15, [])] }), (2, { slots := [(1, .id), (2, .id), (3, .id), (7, .id), (8, .id), (9, .id), (17, .val false Tq14), (18, .id), (19, .id), (39, .id), (40, .id)], keys := [(3, [.id, .id, .val false Tq14]), (9, []), (15, [])] })], regs := [(5, { slots := [(1, .id), (2, .id), (3, .id), (7, .id), (8, .id), (9, .id), (17, .val false Tq14), (18, .id), (19, .id), (33, .bool)], keys := [(3, [.id, .id, .val false Tq14]), (9, []), (15, [])] }), (10, { slots := [(1, .id), (2, .id), (3, .id), (7, .id), (8, .id), (9, .id), (10, .id), (17, .val false Tq14), (18, .id), (19, .id), (39, .id), (40, .id), (58, .bool)], keys := [(3, [.id, .id, .val false Tq14]), (9, []), (15, [])] }), (12, { slots := [(1, .id), (2, .id), (3, .id), (7, .id), (8, .id), (9, .id), (11, .id), (17, .val false Tq14), (18, .id), (19, .id), (39, .id), (40, .id), (100, .bool)], keys := [(3, [.id, .id, .val false Tq14]), (9, []), (15, []), (63, [])] })], blks := [(1, { slots := [(1, .id), (2, .id), (3, .id), (7, .id), (17, .val false Tq14), (18, .id), (19, .id)], keys := [(3, [.id, .id, .val false Tq14]), (15, [])] }), (3, { slots := [(1, .id), (2, .id), (3, .id), (7, .id), (8, .id), (9, .id), (17, .val false Tq14), (18, .id), (19, .id), (39, .id), (40, .id)], keys := [(3, [.id, .id, .val false Tq14]), (9, []), (15, [])] })], conds := [(13, { slots := [(1, .id), (2, .id), (3, .id), (7, .id), (8, .id), (9, .id), (17, .val false Tq14), (18, .id), (19, .id), (39, .id), (40, .id)], keys := [(3, [.id, .id, .val false Tq14]), (9, []), (15, [])] })] }
noncomputable abbrev f80_a (k : Nat) (F : f80_L) : Kont (RDL f80_rs) := ap T f80_Y (f80_E k) f80_A k (Kfin T f80_rs f80_ts) F
def f80_s_l0 (y15 : (List (Option (List Int)))) (y3_0 : Int) (y3_1 : Int) (y3_2 : (List (Int × (Int × (Int × (Int × Int)))))) (x1 : Int) (x18 : Int) (x19 : Int) (x2 : Int) : St := mkS 108 336 [(1, aI x1), (2, aI x2), (3, aP 3), (7, aO 15), (17, aV Tq14 y3_2), (18, aI x18), (19, aI x19)] [(3, .box [cI y3_0, cI y3_1, cV Tq14 y3_2]), (15, .vec Tq20 y15)]
abbrev f80_t_l0 := (List (Option (List Int))) → Int → Int → (List (Int × (Int × (Int × (Int × Int))))) → Int → Int → Int → Int → Option ((List Td21) × Unit)
abbrev f80_o_l0 (R : f80_S) : f80_t_l0 := (fun y15 y3_0 y3_1 y3_2 x1 x18 x19 x2 => R (f80_s_l0 y15 y3_0 y3_1 y3_2 x1 x18 x19 x2))
noncomputable def f80_Q_l0 (k : Nat) (R_l0 : f80_S) : f80_L := [.c (f80_p 116) 0, .j (fun σ => R_l0 (cut f80_A.loops 0 σ)), .blk 0, .c (f80_p 15) 0]
noncomputable def f80_C_l0 (k : Nat) (n : Nat) (σ : St) : Option (RDL f80_rs) := loopK (fun σ K => den T f80_Y (f80_E k) f80_A k (f80_p 116) 0 σ K) (cut f80_A.loops 0) (f80_a k [.blk 0, .c (f80_p 15) 0]) n σ
def f80_s_r5 (y15 : (List (Option (List Int)))) (y3_0 : Int) (y3_1 : Int) (y3_2 : (List (Int × (Int × (Int × (Int × Int)))))) (y9_0 : Int) (y9_1 : Int) (y9_2 : Int) (y9_3 : Int) (y9_4 : Int) (x1 : Int) (x18 : Int) (x19 : Int) (x2 : Int) (x33 : Bool) : St := mkS 108 336 [(1, aI x1), (2, aI x2), (3, aP 3), (7, aO 15), (8, aI x19), (9, aP 9), (17, aV Tq14 y3_2), (18, aI x18), (19, aI x19), (33, aB x33)] [(3, .box [cI y3_0, cI y3_1, cV Tq14 y3_2]), (9, .box [cI y9_0, cI y9_1, cI y9_2, cI y9_3, cI y9_4]), (15, .vec Tq20 y15)]
abbrev f80_t_r5 := (List (Option (List Int))) → Int → Int → (List (Int × (Int × (Int × (Int × Int))))) → Int → Int → Int → Int → Int → Int → Int → Int → Int → Bool → Option ((List Td21) × Unit)
abbrev f80_o_r5 (R : f80_S) : f80_t_r5 := (fun y15 y3_0 y3_1 y3_2 y9_0 y9_1 y9_2 y9_3 y9_4 x1 x18 x19 x2 x33 => R (f80_s_r5 y15 y3_0 y3_1 y3_2 y9_0 y9_1 y9_2 y9_3 y9_4 x1 x18 x19 x2 x33))
noncomputable def f80_Q_r5 (k : Nat) (R_l0 : f80_S) : f80_L := [.c (f80_p 14949) 1, .c (f80_p 7475) 1, .blk 1, .c (f80_p 935) 0, .j (fun σ => R_l0 (cut f80_A.loops 0 σ)), .blk 0, .c (f80_p 15) 0]
noncomputable def f80_C_r5 (k : Nat) (R_l0 : f80_S) : f80_S := fun σ => f80_a k (f80_Q_r5 k R_l0) .nx σ
def f80_s_b1 (y15 : (List (Option (List Int)))) (y3_0 : Int) (y3_1 : Int) (y3_2 : (List (Int × (Int × (Int × (Int × Int)))))) (x1 : Int) (x18 : Int) (x19 : Int) (x2 : Int) : St := mkS 108 336 [(1, aI x1), (2, aI x2), (3, aP 3), (7, aO 15), (17, aV Tq14 y3_2), (18, aI x18), (19, aI x19)] [(3, .box [cI y3_0, cI y3_1, cV Tq14 y3_2]), (15, .vec Tq20 y15)]
abbrev f80_t_b1 := (List (Option (List Int))) → Int → Int → (List (Int × (Int × (Int × (Int × Int))))) → Int → Int → Int → Int → Option ((List Td21) × Unit)
abbrev f80_o_b1 (R : f80_S) : f80_t_b1 := (fun y15 y3_0 y3_1 y3_2 x1 x18 x19 x2 => R (f80_s_b1 y15 y3_0 y3_1 y3_2 x1 x18 x19 x2))
noncomputable def f80_Q_b1 (k : Nat) (R_l0 : f80_S) : f80_L := [.c (f80_p 935) 0, .j (fun σ => R_l0 (cut f80_A.loops 0 σ)), .blk 0, .c (f80_p 15) 0]
noncomputable def f80_C_b1 (k : Nat) (R_l0 : f80_S) : f80_S := fun σ => f80_a k (f80_Q_b1 k R_l0) .nx σ
def f80_s_l2 (y15 : (List (Option (List Int)))) (y3_0 : Int) (y3_1 : Int) (y3_2 : (List (Int × (Int × (Int × (Int × Int)))))) (y9_0 : Int) (y9_1 : Int) (y9_2 : Int) (y9_3 : Int) (y9_4 : Int) (x1 : Int) (x18 : Int) (x19 : Int) (x2 : Int) (x40 : Int) : St := mkS 108 336 [(1, aI x1), (2, aI x2), (3, aP 3), (7, aO 15), (8, aI x19), (9, aP 9), (17, aV Tq14 y3_2), (18, aI x18), (19, aI x19), (39, aI x19), (40, aI x40)] [(3, .box [cI y3_0, cI y3_1, cV Tq14 y3_2]), (9, .box [cI y9_0, cI y9_1, cI y9_2, cI y9_3, cI y9_4]), (15, .vec Tq20 y15)]
abbrev f80_t_l2 := (List (Option (List Int))) → Int → Int → (List (Int × (Int × (Int × (Int × Int))))) → Int → Int → Int → Int → Int → Int → Int → Int → Int → Int → Option ((List Td21) × Unit)
abbrev f80_o_l2 (R : f80_S) : f80_t_l2 := (fun y15 y3_0 y3_1 y3_2 y9_0 y9_1 y9_2 y9_3 y9_4 x1 x18 x19 x2 x40 => R (f80_s_l2 y15 y3_0 y3_1 y3_2 y9_0 y9_1 y9_2 y9_3 y9_4 x1 x18 x19 x2 x40))
noncomputable def f80_Q_l2 (k : Nat) (R_l0 R_l2 : f80_S) : f80_L := [.c (f80_p 59804) 2, .j (fun σ => R_l2 (cut f80_A.loops 2 σ)), .blk 2, .blk 1, .c (f80_p 935) 0, .j (fun σ => R_l0 (cut f80_A.loops 0 σ)), .blk 0, .c (f80_p 15) 0]
noncomputable def f80_C_l2 (k : Nat) (R_l0 : f80_S) (n : Nat) (σ : St) : Option (RDL f80_rs) := loopK (fun σ K => den T f80_Y (f80_E k) f80_A k (f80_p 59804) 2 σ K) (cut f80_A.loops 2) (f80_a k [.blk 2, .blk 1, .c (f80_p 935) 0, .j (fun σ => R_l0 (cut f80_A.loops 0 σ)), .blk 0, .c (f80_p 15) 0]) n σ
def f80_s_r10 (y15 : (List (Option (List Int)))) (y3_0 : Int) (y3_1 : Int) (y3_2 : (List (Int × (Int × (Int × (Int × Int)))))) (y9_0 : Int) (y9_1 : Int) (y9_2 : Int) (y9_3 : Int) (y9_4 : Int) (x1 : Int) (x10 : Int) (x18 : Int) (x19 : Int) (x2 : Int) (x58 : Bool) : St := mkS 108 336 [(1, aI x1), (2, aI x2), (3, aP 3), (7, aO 15), (8, aI x19), (9, aP 9), (10, aI x10), (17, aV Tq14 y3_2), (18, aI x18), (19, aI x19), (39, aI x19), (40, aI x10), (58, aB x58)] [(3, .box [cI y3_0, cI y3_1, cV Tq14 y3_2]), (9, .box [cI y9_0, cI y9_1, cI y9_2, cI y9_3, cI y9_4]), (15, .vec Tq20 y15)]
abbrev f80_t_r10 := (List (Option (List Int))) → Int → Int → (List (Int × (Int × (Int × (Int × Int))))) → Int → Int → Int → Int → Int → Int → Int → Int → Int → Int → Bool → Option ((List Td21) × Unit)
abbrev f80_o_r10 (R : f80_S) : f80_t_r10 := (fun y15 y3_0 y3_1 y3_2 y9_0 y9_1 y9_2 y9_3 y9_4 x1 x10 x18 x19 x2 x58 => R (f80_s_r10 y15 y3_0 y3_1 y3_2 y9_0 y9_1 y9_2 y9_3 y9_4 x1 x10 x18 x19 x2 x58))
noncomputable def f80_Q_r10 (k : Nat) (R_l2 R_l0 : f80_S) : f80_L := [.c (f80_p 7655013) 3, .c (f80_p 3827507) 3, .blk 3, .c (f80_p 478439) 2, .j (fun σ => R_l2 (cut f80_A.loops 2 σ)), .blk 2, .blk 1, .c (f80_p 935) 0, .j (fun σ => R_l0 (cut f80_A.loops 0 σ)), .blk 0, .c (f80_p 15) 0]
noncomputable def f80_C_r10 (k : Nat) (R_l2 R_l0 : f80_S) : f80_S := fun σ => f80_a k (f80_Q_r10 k R_l2 R_l0) .nx σ
def f80_s_b3 (y15 : (List (Option (List Int)))) (y3_0 : Int) (y3_1 : Int) (y3_2 : (List (Int × (Int × (Int × (Int × Int)))))) (y9_0 : Int) (y9_1 : Int) (y9_2 : Int) (y9_3 : Int) (y9_4 : Int) (x1 : Int) (x18 : Int) (x19 : Int) (x2 : Int) (x40 : Int) : St := mkS 108 336 [(1, aI x1), (2, aI x2), (3, aP 3), (7, aO 15), (8, aI x19), (9, aP 9), (17, aV Tq14 y3_2), (18, aI x18), (19, aI x19), (39, aI x19), (40, aI x40)] [(3, .box [cI y3_0, cI y3_1, cV Tq14 y3_2]), (9, .box [cI y9_0, cI y9_1, cI y9_2, cI y9_3, cI y9_4]), (15, .vec Tq20 y15)]
abbrev f80_t_b3 := (List (Option (List Int))) → Int → Int → (List (Int × (Int × (Int × (Int × Int))))) → Int → Int → Int → Int → Int → Int → Int → Int → Int → Int → Option ((List Td21) × Unit)
abbrev f80_o_b3 (R : f80_S) : f80_t_b3 := (fun y15 y3_0 y3_1 y3_2 y9_0 y9_1 y9_2 y9_3 y9_4 x1 x18 x19 x2 x40 => R (f80_s_b3 y15 y3_0 y3_1 y3_2 y9_0 y9_1 y9_2 y9_3 y9_4 x1 x18 x19 x2 x40))
noncomputable def f80_Q_b3 (k : Nat) (R_l2 R_l0 : f80_S) : f80_L := [.c (f80_p 478439) 2, .j (fun σ => R_l2 (cut f80_A.loops 2 σ)), .blk 2, .blk 1, .c (f80_p 935) 0, .j (fun σ => R_l0 (cut f80_A.loops 0 σ)), .blk 0, .c (f80_p 15) 0]
noncomputable def f80_C_b3 (k : Nat) (R_l2 R_l0 : f80_S) : f80_S := fun σ => f80_a k (f80_Q_b3 k R_l2 R_l0) .nx σ
def f80_s_r12 (y15 : (List (Option (List Int)))) (y3_0 : Int) (y3_1 : Int) (y3_2 : (List (Int × (Int × (Int × (Int × Int)))))) (y63 : (List Int)) (y9_0 : Int) (y9_1 : Int) (y9_2 : Int) (y9_3 : Int) (y9_4 : Int) (x1 : Int) (x100 : Bool) (x18 : Int) (x19 : Int) (x2 : Int) (x40 : Int) : St := mkS 108 336 [(1, aI x1), (2, aI x2), (3, aP 3), (7, aO 15), (8, aI x19), (9, aP 9), (11, aO 63), (17, aV Tq14 y3_2), (18, aI x18), (19, aI x19), (39, aI x19), (40, aI x40), (100, aB x100)] [(3, .box [cI y3_0, cI y3_1, cV Tq14 y3_2]), (9, .box [cI y9_0, cI y9_1, cI y9_2, cI y9_3, cI y9_4]), (15, .vec Tq20 y15), (63, .vec (.int .i64) y63)]
abbrev f80_t_r12 := (List (Option (List Int))) → Int → Int → (List (Int × (Int × (Int × (Int × Int))))) → (List Int) → Int → Int → Int → Int → Int → Int → Bool → Int → Int → Int → Int → Option ((List Td21) × Unit)
abbrev f80_o_r12 (R : f80_S) : f80_t_r12 := (fun y15 y3_0 y3_1 y3_2 y63 y9_0 y9_1 y9_2 y9_3 y9_4 x1 x100 x18 x19 x2 x40 => R (f80_s_r12 y15 y3_0 y3_1 y3_2 y63 y9_0 y9_1 y9_2 y9_3 y9_4 x1 x100 x18 x19 x2 x40))
noncomputable def f80_Q_r12 (k : Nat) (R_l2 R_l0 : f80_S) : f80_L := [.c (f80_p 15310031) 3, .blk 3, .c (f80_p 478439) 2, .j (fun σ => R_l2 (cut f80_A.loops 2 σ)), .blk 2, .blk 1, .c (f80_p 935) 0, .j (fun σ => R_l0 (cut f80_A.loops 0 σ)), .blk 0, .c (f80_p 15) 0]
noncomputable def f80_C_r12 (k : Nat) (R_l2 R_l0 : f80_S) : f80_S := fun σ => f80_a k (f80_Q_r12 k R_l2 R_l0) .nx σ
def f80_s_c13 (y15 : (List (Option (List Int)))) (y3_0 : Int) (y3_1 : Int) (y3_2 : (List (Int × (Int × (Int × (Int × Int)))))) (y9_0 : Int) (y9_1 : Int) (y9_2 : Int) (y9_3 : Int) (y9_4 : Int) (x1 : Int) (x18 : Int) (x19 : Int) (x2 : Int) (x40 : Int) : St := mkS 108 336 [(1, aI x1), (2, aI x2), (3, aP 3), (7, aO 15), (8, aI x19), (9, aP 9), (17, aV Tq14 y3_2), (18, aI x18), (19, aI x19), (39, aI x19), (40, aI x40)] [(3, .box [cI y3_0, cI y3_1, cV Tq14 y3_2]), (9, .box [cI y9_0, cI y9_1, cI y9_2, cI y9_3, cI y9_4]), (15, .vec Tq20 y15)]
abbrev f80_t_c13 := (List (Option (List Int))) → Int → Int → (List (Int × (Int × (Int × (Int × Int))))) → Int → Int → Int → Int → Int → Int → Int → Int → Int → Int → Option ((List Td21) × Unit)
abbrev f80_o_c13 (R : f80_S) : f80_t_c13 := (fun y15 y3_0 y3_1 y3_2 y9_0 y9_1 y9_2 y9_3 y9_4 x1 x18 x19 x2 x40 => R (f80_s_c13 y15 y3_0 y3_1 y3_2 y9_0 y9_1 y9_2 y9_3 y9_4 x1 x18 x19 x2 x40))
noncomputable def f80_Q_c13 (k : Nat) (R_l2 R_l0 : f80_S) : f80_L := [.blk 3, .c (f80_p 478439) 2, .j (fun σ => R_l2 (cut f80_A.loops 2 σ)), .blk 2, .blk 1, .c (f80_p 935) 0, .j (fun σ => R_l0 (cut f80_A.loops 0 σ)), .blk 0, .c (f80_p 15) 0]
noncomputable def f80_C_c13 (k : Nat) (R_l2 R_l0 : f80_S) : f80_S := fun σ => f80_a k (f80_Q_c13 k R_l2 R_l0) .nx σ
noncomputable def f80_F_b1 (k : Nat) (G_l0 : f80_S) : f80_L := .c (f80_p 935) 0 :: .j (fun σ => G_l0 (cut f80_A.loops 0 σ)) :: .blk 0 :: .c (f80_p 15) 0 :: []
theorem f80_f_b1 (k : Nat) (R_l0 : f80_S) : f80_a k (f80_Q_b1 k R_l0) = f80_a k (f80_F_b1 k R_l0) := (ap_cons _ (ap_cons _ (ap_cons _ (ap_cons _ rfl))))
noncomputable def f80_F_r5 (k : Nat) (G_l0 G_b1 G_l2 : f80_S) : f80_L := .c (f80_p 14949) 1 :: .c (f80_p 14950) 1 :: .j (fun σ => f80_a k (.j (fun σ => G_l2 (cut f80_A.loops 2 σ)) :: .blk 2 :: .b 1 (fun σ => G_b1 (cut f80_A.blks 1 σ)) :: f80_F_b1 k G_l0) .nx σ) :: .b 1 (fun σ => G_b1 (cut f80_A.blks 1 σ)) :: f80_F_b1 k G_l0
theorem f80_f_r5 (k : Nat) (R_l0 : f80_S) : f80_a k (f80_Q_r5 k R_l0) = f80_a k (f80_F_r5 k R_l0 (f80_C_b1 k R_l0) (f80_C_l2 k R_l0 k)) := (ap_cons _ (Eq.trans ap_sq (ap_cons _ (Eq.trans (ap_bl 2) (Eq.trans (ap_j (Eq.trans (ap_lp (C := (f80_C_l2 k R_l0)) (fun _ _ => rfl)) (ap_cons _ (ap_cons _ (Eq.trans (ap_blkb (C := (f80_C_b1 k R_l0)) (fun _ => rfl)) (ap_cons _ (f80_f_b1 k R_l0))))))) (ap_cons _ (Eq.trans (ap_blkb (C := (f80_C_b1 k R_l0)) (fun _ => rfl)) (ap_cons _ (f80_f_b1 k R_l0)))))))))
noncomputable def f80_F_l0 (k : Nat) (G_l0 G_r5 G_b1 G_l2 : f80_S) : f80_L := .c (f80_p 232) 0 :: .c (f80_p 466) 0 :: .j (fun σ => f80_a k (.c (f80_p 3736) 1 :: .c (f80_p 14948) 1 :: .j G_r5 :: f80_F_r5 k G_l0 G_b1 G_l2) .nx σ) :: f80_F_b1 k G_l0
theorem f80_f_l0 (k : Nat) (R_l0 : f80_S) : f80_a k (f80_Q_l0 k R_l0) = f80_a k (f80_F_l0 k R_l0 (f80_C_r5 k R_l0) (f80_C_b1 k R_l0) (f80_C_l2 k R_l0 k)) := (Eq.trans ap_sq (ap_cons _ (Eq.trans ap_sq (ap_cons _ (Eq.trans ap_sq (Eq.trans (ap_bl 1) (Eq.trans (ap_j (Eq.trans ap_sq (ap_cons _ (Eq.trans ap_sq (Eq.trans ap_sq (ap_cons _ (Eq.trans (ap_pass (C := (f80_C_r5 k R_l0)) (fun _ => rfl)) (ap_cons _ (f80_f_r5 k R_l0))))))))) (ap_cons _ (f80_f_b1 k R_l0)))))))))
noncomputable def f80_F_b3 (k : Nat) (G_l0 G_b1 G_l2 : f80_S) : f80_L := .c (f80_p 478439) 2 :: .j (fun σ => G_l2 (cut f80_A.loops 2 σ)) :: .blk 2 :: .b 1 (fun σ => G_b1 (cut f80_A.blks 1 σ)) :: f80_F_b1 k G_l0
theorem f80_f_b3 (k : Nat) (R_l2 R_l0 : f80_S) : f80_a k (f80_Q_b3 k R_l2 R_l0) = f80_a k (f80_F_b3 k R_l0 (f80_C_b1 k R_l0) R_l2) := (ap_cons _ (ap_cons _ (ap_cons _ (Eq.trans (ap_blkb (C := (f80_C_b1 k R_l0)) (fun _ => rfl)) (ap_cons _ (f80_f_b1 k R_l0))))))
noncomputable def f80_F_c13 (k : Nat) (G_l0 G_b1 G_l2 G_b3 : f80_S) : f80_L := .b 3 (fun σ => G_b3 (cut f80_A.blks 3 σ)) :: f80_F_b3 k G_l0 G_b1 G_l2
theorem f80_f_c13 (k : Nat) (R_l2 R_l0 : f80_S) : f80_a k (f80_Q_c13 k R_l2 R_l0) = f80_a k (f80_F_c13 k R_l0 (f80_C_b1 k R_l0) R_l2 (f80_C_b3 k R_l2 R_l0)) := (Eq.trans (ap_blkb (C := (f80_C_b3 k R_l2 R_l0)) (fun _ => rfl)) (ap_cons _ (f80_f_b3 k R_l2 R_l0)))
noncomputable def f80_F_r12 (k : Nat) (G_l0 G_b1 G_l2 G_b3 G_c13 : f80_S) : f80_L := .c (f80_p 15310031) 3 :: .j G_c13 :: f80_F_c13 k G_l0 G_b1 G_l2 G_b3
theorem f80_f_r12 (k : Nat) (R_l2 R_l0 : f80_S) : f80_a k (f80_Q_r12 k R_l2 R_l0) = f80_a k (f80_F_r12 k R_l0 (f80_C_b1 k R_l0) R_l2 (f80_C_b3 k R_l2 R_l0) (f80_C_c13 k R_l2 R_l0)) := (ap_cons _ (Eq.trans (ap_pass (C := (f80_C_c13 k R_l2 R_l0)) (fun _ => rfl)) (ap_cons _ (f80_f_c13 k R_l2 R_l0))))
noncomputable def f80_F_r10 (k : Nat) (G_l0 G_b1 G_l2 G_b3 G_r12 G_c13 : f80_S) : f80_L := .c (f80_p 7655013) 3 :: .c (f80_p 7655014) 3 :: .c (f80_p 15310030) 3 :: .j G_r12 :: f80_F_r12 k G_l0 G_b1 G_l2 G_b3 G_c13
theorem f80_f_r10 (k : Nat) (R_l2 R_l0 : f80_S) : f80_a k (f80_Q_r10 k R_l2 R_l0) = f80_a k (f80_F_r10 k R_l0 (f80_C_b1 k R_l0) R_l2 (f80_C_b3 k R_l2 R_l0) (f80_C_r12 k R_l2 R_l0) (f80_C_c13 k R_l2 R_l0)) := (ap_cons _ (Eq.trans ap_sq (ap_cons _ (Eq.trans ap_sq (ap_cons _ (Eq.trans (ap_pass (C := (f80_C_r12 k R_l2 R_l0)) (fun _ => rfl)) (ap_cons _ (f80_f_r12 k R_l2 R_l0))))))))
noncomputable def f80_F_l2 (k : Nat) (G_l0 G_b1 G_l2 G_r10 G_b3 G_r12 G_c13 : f80_S) : f80_L := .c (f80_p 119608) 2 :: .c (f80_p 239218) 2 :: .j (fun σ => f80_a k (.c (f80_p 1913752) 3 :: .c (f80_p 7655012) 3 :: .j G_r10 :: f80_F_r10 k G_l0 G_b1 G_l2 G_b3 G_r12 G_c13) .nx σ) :: f80_F_b3 k G_l0 G_b1 G_l2
theorem f80_f_l2 (k : Nat) (R_l0 R_l2 : f80_S) : f80_a k (f80_Q_l2 k R_l0 R_l2) = f80_a k (f80_F_l2 k R_l0 (f80_C_b1 k R_l0) R_l2 (f80_C_r10 k R_l2 R_l0) (f80_C_b3 k R_l2 R_l0) (f80_C_r12 k R_l2 R_l0) (f80_C_c13 k R_l2 R_l0)) := (Eq.trans ap_sq (ap_cons _ (Eq.trans ap_sq (ap_cons _ (Eq.trans ap_sq (Eq.trans (ap_bl 3) (Eq.trans (ap_j (Eq.trans ap_sq (ap_cons _ (Eq.trans ap_sq (Eq.trans ap_sq (ap_cons _ (Eq.trans (ap_pass (C := (f80_C_r10 k R_l2 R_l0)) (fun _ => rfl)) (ap_cons _ (f80_f_r10 k R_l2 R_l0))))))))) (ap_cons _ (f80_f_b3 k R_l2 R_l0)))))))))
def f80_entry_B (k : Nat) (g_l0 : f80_t_l0) (a0 : (Int × Td19)) (a1 : Int) (a2 : Int) : Option ((List Td21) × Unit) := (if 0 ≤ (a0.2.2.length : Int) then (if (a0.2.2.length : Int) ≤ 1073741824 then (g_l0 (List.replicate ((a0.2.2.length : Int)).toNat (none : (Option (List Int)))) a0.1 a0.2.1 a0.2.2 a1 (a0.2.2.length : Int) 0 a2) else none) else none)
def f80_l0_B (k : Nat) (g_r5 : f80_t_r5) (y15 : (List (Option (List Int)))) (y3_0 : Int) (y3_1 : Int) (y3_2 : (List (Int × (Int × (Int × (Int × Int)))))) (x1 : Int) (x18 : Int) (x19 : Int) (x2 : Int) : Option ((List Td21) × Unit) := (if x19 < x18 then (if 0 ≤ x19 then (if x19 < (y3_2.length : Int) then (if ((y3_2.getD (x19).toNat (0, (0, (0, (0, 0))))).1) = x1 then (g_r5 y15 y3_0 y3_1 y3_2 ((y3_2.getD (x19).toNat (0, (0, (0, (0, 0))))).1) (((y3_2.getD (x19).toNat (0, (0, (0, (0, 0))))).2).1) ((((y3_2.getD (x19).toNat (0, (0, (0, (0, 0))))).2).2).1) (((((y3_2.getD (x19).toNat (0, (0, (0, (0, 0))))).2).2).2).1) (((((y3_2.getD (x19).toNat (0, (0, (0, (0, 0))))).2).2).2).2) x1 x18 x19 x2 (decide (x2 ≤ ((((y3_2.getD (x19).toNat (0, (0, (0, (0, 0))))).2).2).1)))) else (g_r5 y15 y3_0 y3_1 y3_2 ((y3_2.getD (x19).toNat (0, (0, (0, (0, 0))))).1) (((y3_2.getD (x19).toNat (0, (0, (0, (0, 0))))).2).1) ((((y3_2.getD (x19).toNat (0, (0, (0, (0, 0))))).2).2).1) (((((y3_2.getD (x19).toNat (0, (0, (0, (0, 0))))).2).2).2).1) (((((y3_2.getD (x19).toNat (0, (0, (0, (0, 0))))).2).2).2).2) x1 x18 x19 x2 false)) else none) else none) else some (y15, ()))
def f80_r5_B (k : Nat) (g_b1 : f80_t_b1) (g_l2 : f80_t_l2) (y15 : (List (Option (List Int)))) (y3_0 : Int) (y3_1 : Int) (y3_2 : (List (Int × (Int × (Int × (Int × Int)))))) (y9_0 : Int) (y9_1 : Int) (y9_2 : Int) (y9_3 : Int) (y9_4 : Int) (x1 : Int) (x18 : Int) (x19 : Int) (x2 : Int) (x33 : Bool) : Option ((List Td21) × Unit) := (if x33 = true then (if 0 ≤ x19 then (if x19 < (y15.length : Int) then (if ([x19]).isEmpty = false then (g_b1 (y15.set ((x19).toNat) (some ([x19]))) y3_0 y3_1 y3_2 x1 x18 x19 x2) else none) else none) else none) else (g_l2 y15 y3_0 y3_1 y3_2 y9_0 y9_1 y9_2 y9_3 y9_4 x1 x18 x19 x2 0))
def f80_b1_B (k : Nat) (g_l0 : f80_t_l0) (y15 : (List (Option (List Int)))) (y3_0 : Int) (y3_1 : Int) (y3_2 : (List (Int × (Int × (Int × (Int × Int)))))) (x1 : Int) (x18 : Int) (x19 : Int) (x2 : Int) : Option ((List Td21) × Unit) := (g_l0 y15 y3_0 y3_1 y3_2 x1 x18 (w64 (x19 + 1)) x2)
def f80_l2_B (k : Nat) (g_b1 : f80_t_b1) (g_r10 : f80_t_r10) (y15 : (List (Option (List Int)))) (y3_0 : Int) (y3_1 : Int) (y3_2 : (List (Int × (Int × (Int × (Int × Int)))))) (y9_0 : Int) (y9_1 : Int) (y9_2 : Int) (y9_3 : Int) (y9_4 : Int) (x1 : Int) (x18 : Int) (x19 : Int) (x2 : Int) (x40 : Int) : Option ((List Td21) × Unit) := (if x40 < x19 then (if 0 ≤ x40 then (if x40 < (y15.length : Int) then (if isNilO (y15.getD ((x40).toNat) none) = true then (g_r10 y15 y3_0 y3_1 y3_2 y9_0 y9_1 y9_2 y9_3 y9_4 x1 x40 x18 x19 x2 true) else (if 0 ≤ x40 then (if x40 < (y3_2.length : Int) then ((f110 k (y3_0, (y3_1, y3_2)) ((y3_2.getD (x40).toNat (0, (0, (0, (0, 0))))).1, (((y3_2.getD (x40).toNat (0, (0, (0, (0, 0))))).2).1, ((((y3_2.getD (x40).toNat (0, (0, (0, (0, 0))))).2).2).1, (((((y3_2.getD (x40).toNat (0, (0, (0, (0, 0))))).2).2).2).1, ((((y3_2.getD (x40).toNat (0, (0, (0, (0, 0))))).2).2).2).2)))) (y9_0, (y9_1, (y9_2, (y9_3, y9_4))))).bind fun r1 => (g_r10 y15 y3_0 y3_1 y3_2 y9_0 y9_1 y9_2 y9_3 y9_4 x1 x40 x18 x19 x2 (decide (¬ (r1.1 = true))))) else none) else none)) else none) else none) else (g_b1 y15 y3_0 y3_1 y3_2 x1 x18 x19 x2))
def f80_r10_B (k : Nat) (g_b3 : f80_t_b3) (g_r12 : f80_t_r12) (y15 : (List (Option (List Int)))) (y3_0 : Int) (y3_1 : Int) (y3_2 : (List (Int × (Int × (Int × (Int × Int)))))) (y9_0 : Int) (y9_1 : Int) (y9_2 : Int) (y9_3 : Int) (y9_4 : Int) (x1 : Int) (x10 : Int) (x18 : Int) (x19 : Int) (x2 : Int) (x58 : Bool) : Option ((List Td21) × Unit) := (if x58 = true then (g_b3 y15 y3_0 y3_1 y3_2 y9_0 y9_1 y9_2 y9_3 y9_4 x1 x18 x19 x2 x10) else (if 0 ≤ x10 then (if x10 < (y15.length : Int) then ((f35u k (slL true (y15.getD ((x10).toNat) none))).bind fun r1 => (if (r1.1.length + 1) * 8 ≤ 140737488355328 then (if 0 ≤ x19 then (if x19 < (y15.length : Int) then (if isNilO (y15.getD ((x19).toNat) none) = true then (g_r12 y15 y3_0 y3_1 y3_2 (r1.1 ++ [x19]) y9_0 y9_1 y9_2 y9_3 y9_4 x1 true x18 x19 x2 x10) else (if 0 ≤ x19 then (if x19 < (y15.length : Int) then (if ((r1.1 ++ [x19]).length : Int) < ((slL true (y15.getD ((x19).toNat) none)).length : Int) then (g_r12 y15 y3_0 y3_1 y3_2 (r1.1 ++ [x19]) y9_0 y9_1 y9_2 y9_3 y9_4 x1 true x18 x19 x2 x10) else (if 0 ≤ x19 then (if x19 < (y15.length : Int) then (if ((r1.1 ++ [x19]).length : Int) = ((slL true (y15.getD ((x19).toNat) none)).length : Int) then (if 0 ≤ x19 then (if x19 < (y15.length : Int) then ((f81 k (r1.1 ++ [x19]) (slL true (y15.getD ((x19).toNat) none))).bind fun r2 => (g_r12 y15 y3_0 y3_1 y3_2 (r1.1 ++ [x19]) y9_0 y9_1 y9_2 y9_3 y9_4 x1 (decide (r2.1 < 0)) x18 x19 x2 x10)) else none) else none) else (g_r12 y15 y3_0 y3_1 y3_2 (r1.1 ++ [x19]) y9_0 y9_1 y9_2 y9_3 y9_4 x1 false x18 x19 x2 x10)) else none) else none)) else none) else none)) else none) else none) else none)) else none) else none))
def f80_b3_B (k : Nat) (g_l2 : f80_t_l2) (y15 : (List (Option (List Int)))) (y3_0 : Int) (y3_1 : Int) (y3_2 : (List (Int × (Int × (Int × (Int × Int)))))) (y9_0 : Int) (y9_1 : Int) (y9_2 : Int) (y9_3 : Int) (y9_4 : Int) (x1 : Int) (x18 : Int) (x19 : Int) (x2 : Int) (x40 : Int) : Option ((List Td21) × Unit) := (g_l2 y15 y3_0 y3_1 y3_2 y9_0 y9_1 y9_2 y9_3 y9_4 x1 x18 x19 x2 (w64 (x40 + 1)))
def f80_r12_B (k : Nat) (g_c13 : f80_t_c13) (y15 : (List (Option (List Int)))) (y3_0 : Int) (y3_1 : Int) (y3_2 : (List (Int × (Int × (Int × (Int × Int)))))) (y63 : (List Int)) (y9_0 : Int) (y9_1 : Int) (y9_2 : Int) (y9_3 : Int) (y9_4 : Int) (x1 : Int) (x100 : Bool) (x18 : Int) (x19 : Int) (x2 : Int) (x40 : Int) : Option ((List Td21) × Unit) := (if x100 = true then (if 0 ≤ x19 then (if x19 < (y15.length : Int) then (if y63.isEmpty = false then (g_c13 (y15.set ((x19).toNat) (some y63)) y3_0 y3_1 y3_2 y9_0 y9_1 y9_2 y9_3 y9_4 x1 x18 x19 x2 x40) else none) else none) else none) else (g_c13 y15 y3_0 y3_1 y3_2 y9_0 y9_1 y9_2 y9_3 y9_4 x1 x18 x19 x2 x40))
def f80_c13_B (k : Nat) (g_b3 : f80_t_b3) (y15 : (List (Option (List Int)))) (y3_0 : Int) (y3_1 : Int) (y3_2 : (List (Int × (Int × (Int × (Int × Int)))))) (y9_0 : Int) (y9_1 : Int) (y9_2 : Int) (y9_3 : Int) (y9_4 : Int) (x1 : Int) (x18 : Int) (x19 : Int) (x2 : Int) (x40 : Int) : Option ((List Td21) × Unit) := (g_b3 y15 y3_0 y3_1 y3_2 y9_0 y9_1 y9_2 y9_3 y9_4 x1 x18 x19 x2 x40)
theorem f80_b1_P (k : Nat) (G_l0 : f80_S) : f80_o_b1 (fun σ => f80_a k (f80_F_b1 k G_l0) .nx σ) = f80_b1_B k (f80_o_l0 G_l0) := by kernel_rfl
def f80_b1 (k : Nat) (r_l0 : f80_t_l0) : f80_t_b1 := f80_b1_B k r_l0
theorem f80_b1_E (k : Nat) (R_l0 : f80_S) : f80_o_b1 (f80_C_b1 k R_l0) = f80_b1 k (f80_o_l0 R_l0) :=
  Eq.trans (congrArg f80_o_b1 (ap_fn (f80_f_b1 k R_l0))) ((f80_b1_P k R_l0).trans (by rfl))
theorem f80_b3_P (k : Nat) (G_l0 G_b1 G_l2 : f80_S) : f80_o_b3 (fun σ => f80_a k (f80_F_b3 k G_l0 G_b1 G_l2) .nx σ) = f80_b3_B k (f80_o_l2 G_l2) := by kernel_rfl
def f80_b3 (k : Nat) (r_l2 : f80_t_l2) (r_l0 : f80_t_l0) : f80_t_b3 := f80_b3_B k r_l2
theorem f80_b3_E (k : Nat) (R_l2 R_l0 : f80_S) : f80_o_b3 (f80_C_b3 k R_l2 R_l0) = f80_b3 k (f80_o_l2 R_l2) (f80_o_l0 R_l0) :=
  Eq.trans (congrArg f80_o_b3 (ap_fn (f80_f_b3 k R_l2 R_l0))) ((f80_b3_P k R_l0 (f80_C_b1 k R_l0) R_l2).trans (by rfl))
theorem f80_c13_P (k : Nat) (G_l0 G_b1 G_l2 G_b3 : f80_S) : f80_o_c13 (fun σ => f80_a k (f80_F_c13 k G_l0 G_b1 G_l2 G_b3) .nx σ) = f80_c13_B k (f80_o_b3 G_b3) := by kernel_rfl
def f80_c13 (k : Nat) (r_l2 : f80_t_l2) (r_l0 : f80_t_l0) : f80_t_c13 := f80_c13_B k (f80_b3 k r_l2 r_l0)
theorem f80_c13_E (k : Nat) (R_l2 R_l0 : f80_S) : f80_o_c13 (f80_C_c13 k R_l2 R_l0) = f80_c13 k (f80_o_l2 R_l2) (f80_o_l0 R_l0) :=
  Eq.trans (congrArg f80_o_c13 (ap_fn (f80_f_c13 k R_l2 R_l0))) ((f80_c13_P k R_l0 (f80_C_b1 k R_l0) R_l2 (f80_C_b3 k R_l2 R_l0)).trans (by rw [f80_b3_E k R_l2 R_l0] <;> rfl))
theorem f80_r12_P (k : Nat) (G_l0 G_b1 G_l2 G_b3 G_c13 : f80_S) : f80_o_r12 (fun σ => f80_a k (f80_F_r12 k G_l0 G_b1 G_l2 G_b3 G_c13) .nx σ) = f80_r12_B k (f80_o_c13 G_c13) := by kernel_rfl
def f80_r12 (k : Nat) (r_l2 : f80_t_l2) (r_l0 : f80_t_l0) : f80_t_r12 := f80_r12_B k (f80_c13 k r_l2 r_l0)
theorem f80_r12_E (k : Nat) (R_l2 R_l0 : f80_S) : f80_o_r12 (f80_C_r12 k R_l2 R_l0) = f80_r12 k (f80_o_l2 R_l2) (f80_o_l0 R_l0) :=
  Eq.trans (congrArg f80_o_r12 (ap_fn (f80_f_r12 k R_l2 R_l0))) ((f80_r12_P k R_l0 (f80_C_b1 k R_l0) R_l2 (f80_C_b3 k R_l2 R_l0) (f80_C_c13 k R_l2 R_l0)).trans (by rw [f80_c13_E k R_l2 R_l0] <;> rfl))
theorem f80_r10_P (k : Nat) (G_l0 G_b1 G_l2 G_b3 G_r12 G_c13 : f80_S) : f80_o_r10 (fun σ => f80_a k (f80_F_r10 k G_l0 G_b1 G_l2 G_b3 G_r12 G_c13) .nx σ) = f80_r10_B k (f80_o_b3 G_b3) (f80_o_r12 G_r12) := by kernel_rfl
def f80_r10 (k : Nat) (r_l2 : f80_t_l2) (r_l0 : f80_t_l0) : f80_t_r10 := f80_r10_B k (f80_b3 k r_l2 r_l0) (f80_r12 k r_l2 r_l0)
theorem f80_r10_E (k : Nat) (R_l2 R_l0 : f80_S) : f80_o_r10 (f80_C_r10 k R_l2 R_l0) = f80_r10 k (f80_o_l2 R_l2) (f80_o_l0 R_l0) :=
  Eq.trans (congrArg f80_o_r10 (ap_fn (f80_f_r10 k R_l2 R_l0))) ((f80_r10_P k R_l0 (f80_C_b1 k R_l0) R_l2 (f80_C_b3 k R_l2 R_l0) (f80_C_r12 k R_l2 R_l0) (f80_C_c13 k R_l2 R_l0)).trans (by rw [f80_b3_E k R_l2 R_l0, f80_r12_E k R_l2 R_l0] <;> rfl))
theorem f80_l2_P (k : Nat) (G_l0 G_b1 G_l2 G_r10 G_b3 G_r12 G_c13 : f80_S) : f80_o_l2 (fun σ => f80_a k (f80_F_l2 k G_l0 G_b1 G_l2 G_r10 G_b3 G_r12 G_c13) .nx σ) = f80_l2_B k (f80_o_b1 G_b1) (f80_o_r10 G_r10) := by kernel_rfl
def f80_l2 (k : Nat) (r_l0 : f80_t_l0) : Nat → f80_t_l2
  | 0 => fun _ _ _ _ _ _ _ _ _ _ _ _ _ _ => none
  | n + 1 => f80_l2_B k (f80_b1 k r_l0) (f80_r10 k (f80_l2 k r_l0 n) r_l0)
theorem f80_l2_E (k : Nat) (R_l0 : f80_S) : ∀ n, f80_o_l2 (f80_C_l2 k R_l0 n) = f80_l2 k (f80_o_l0 R_l0) n
  | 0 => rfl
  | n + 1 =>
    Eq.trans (congrArg f80_o_l2 (Eq.trans (b := fun σ => f80_a k (f80_Q_l2 k R_l0 (f80_C_l2 k R_l0 n)) .nx σ) (by kernel_rfl) (ap_fn (f80_f_l2 k R_l0 (f80_C_l2 k R_l0 n))))) ((f80_l2_P k R_l0 (f80_C_b1 k R_l0) (f80_C_l2 k R_l0 n) (f80_C_r10 k (f80_C_l2 k R_l0 n) R_l0) (f80_C_b3 k (f80_C_l2 k R_l0 n) R_l0) (f80_C_r12 k (f80_C_l2 k R_l0 n) R_l0) (f80_C_c13 k (f80_C_l2 k R_l0 n) R_l0)).trans (by rw [f80_b1_E k R_l0, f80_r10_E k (f80_C_l2 k R_l0 n) R_l0, f80_l2_E k R_l0 n] <;> rfl))
theorem f80_r5_P (k : Nat) (G_l0 G_b1 G_l2 : f80_S) : f80_o_r5 (fun σ => f80_a k (f80_F_r5 k G_l0 G_b1 G_l2) .nx σ) = f80_r5_B k (f80_o_b1 G_b1) (f80_o_l2 G_l2) := by kernel_rfl
def f80_r5 (k : Nat) (r_l0 : f80_t_l0) : f80_t_r5 := f80_r5_B k (f80_b1 k r_l0) (f80_l2 k r_l0 k)
theorem f80_r5_E (k : Nat) (R_l0 : f80_S) : f80_o_r5 (f80_C_r5 k R_l0) = f80_r5 k (f80_o_l0 R_l0) :=
  Eq.trans (congrArg f80_o_r5 (ap_fn (f80_f_r5 k R_l0))) ((f80_r5_P k R_l0 (f80_C_b1 k R_l0) (f80_C_l2 k R_l0 k)).trans (by rw [f80_b1_E k R_l0, f80_l2_E k R_l0 k] <;> rfl))
theorem f80_l0_P (k : Nat) (G_l0 G_r5 G_b1 G_l2 : f80_S) : f80_o_l0 (fun σ => f80_a k (f80_F_l0 k G_l0 G_r5 G_b1 G_l2) .nx σ) = f80_l0_B k (f80_o_r5 G_r5) := by kernel_rfl
def f80_l0 (k : Nat) : Nat → f80_t_l0
  | 0 => fun _ _ _ _ _ _ _ _ => none
  | n + 1 => f80_l0_B k (f80_r5 k (f80_l0 k n))
theorem f80_l0_E (k : Nat) : ∀ n, f80_o_l0 (f80_C_l0 k n) = f80_l0 k n
  | 0 => rfl
  | n + 1 =>
    Eq.trans (congrArg f80_o_l0 (Eq.trans (b := fun σ => f80_a k (f80_Q_l0 k (f80_C_l0 k n)) .nx σ) (by kernel_rfl) (ap_fn (f80_f_l0 k (f80_C_l0 k n))))) ((f80_l0_P k (f80_C_l0 k n) (f80_C_r5 k (f80_C_l0 k n)) (f80_C_b1 k (f80_C_l0 k n)) (f80_C_l2 k (f80_C_l0 k n) k)).trans (by rw [f80_r5_E k (f80_C_l0 k n), f80_l0_E k n] <;> rfl))
theorem f80_entry_P (k : Nat) (G_l0 : f80_S) (xs : DL f80_sig) : f80_a k (.c (f80_p 2) 0 :: .c (f80_p 6) 0 :: .c (f80_p 28) 0 :: .j (fun σ => f80_a k (.j (fun σ => G_l0 (cut f80_A.loops 0 σ)) :: .blk 0 :: .c (f80_p 15) 0 :: []) .nx σ) :: .c (f80_p 15) 0 :: []) .nx (σ0 108 336 f80_sig xs) = f80_entry_B k (f80_o_l0 G_l0) xs.1 xs.2.1 xs.2.2.1 := by kernel_rfl
def f80 (k : Nat) (a0 : (Int × Td19)) (a1 : Int) (a2 : Int) : Option ((List Td21) × Unit) := f80_entry_B k (f80_l0 k k) a0 a1 a2
theorem f80_fe (k : Nat) : f80_a k [.c (f80_p 1) 0] = f80_a k (.c (f80_p 2) 0 :: .c (f80_p 6) 0 :: .c (f80_p 28) 0 :: .j (fun σ => f80_a k (.j (fun σ => (f80_C_l0 k k) (cut f80_A.loops 0 σ)) :: .blk 0 :: .c (f80_p 15) 0 :: []) .nx σ) :: .c (f80_p 15) 0 :: []) := (Eq.trans ap_sq (ap_cons _ (Eq.trans ap_sq (ap_cons _ (Eq.trans ap_sq (Eq.trans ap_sq (ap_cons _ (Eq.trans (ap_bl 0) (Eq.trans (ap_j (Eq.trans (ap_lp (C := (f80_C_l0 k)) (fun _ _ => rfl)) (ap_cons _ (ap_cons _ (ap_cons _ rfl))))) (ap_cons _ (ap_cons _ rfl)))))))))))
theorem f80_eq (k : Nat) (xs : DL f80_sig) : den T f80_Y (f80_E k) f80_A k f80_c 0 (σ0 108 336 f80_sig xs) (Kfin T f80_rs f80_ts) = f80 k xs.1 xs.2.1 xs.2.2.1 :=
  Eq.trans (Eq.trans den_sb (ap_at (f80_fe k) _)) ((f80_entry_P k (f80_C_l0 k k) xs).trans (by rw [f80_l0_E k k] <;> rfl))
noncomputable def f80_con (k : Nat) : Con := ⟨f80_sig, f80_rs, fun xs => f80 k xs.1 xs.2.1 xs.2.2.1⟩
theorem f80_ok (k : Nat) : PureOK Try.prog 80 f80_sig f80_rs (fun xs => f80 k xs.1 xs.2.1 xs.2.2.1) :=
  (pure_of_den (k := k) (A := f80_A) (T := T) (Y := f80_Y) (E := f80_E k) (M := 336) (ts := f80_ts) T_ok ⟨f35u_ok k, f81_ok k, f110_ok k, trivial⟩ ⟨f35u_ent, f81_ent, f110_ent, trivial⟩ mixed (f := 80) (fn := Try.f80) (c := f80_c) (by kernel_rfl) (by kernel_rfl) (by kernel_rfl) (by decide) (by kernel_rfl)).congr fun xs => (f80_eq k xs).symm
theorem f80_ent : Ent Try.prog 80 := fun args w => by kernel_rfl
/-! ### terrier/timed.Plan: function 56 -/
noncomputable def f56_c : Code := Try.f56.body.getD .skip
noncomputable abbrev f56_p (n : Nat) : Code := sb f56_c n
abbrev f56_sig : List PT := [(true, Tq17), (false, (.int .i64)), (false, (.int .i64)), (false, (.int .i64))]
abbrev f56_rs : List RT := [.d false Tq1, .d false (.int .i64), .d false (.int .i64)]
abbrev f56_ts : List RV := [.tmp 8, .tmp 9, .tmp 10]
abbrev f56_S := St → Option (RDL f56_rs)
abbrev f56_L := List (Fr (RDL f56_rs))
def f56_Y : Tys := [(3, (.int .i64))]
noncomputable def f56_E (k : Nat) : Env := [(79, .c (f79_con k)), (80, .c (f80_con k)), (81, .c (f81_con k))]
def f56_A : Ann := { regs := [(4, { slots := [(1, .id), (2, .id), (3, .id), (4, .id), (29, .bool)], keys := [(4, [.id, .id, .val false Tq14])] }), (13, { slots := [(2, .id), (4, .id), (12, .id), (13, .id), (14, .id), (15, .id), (39, .val false Tq14), (40, .id), (41, .id), (56, .bool)], keys := [(4, [.id, .id, .val false Tq14]), (15, []), (37, [])] }), (14, { slots := [(2, .id), (4, .id), (12, .id), (13, .id), (14, .id), (39, .val false Tq14), (40, .id), (41, .id), (118, .bool)], keys := [(4, [.id, .id, .val false Tq14]), (37, [])] })], loops := [(0, { slots := [(2, .id), (4, .id), (12, .id), (13, .id), (39, .val false Tq14), (40, .id), (41, .id)], keys := [(4, [.id, .id, .val false Tq14]), (37, [])] })], blks := [(1, { slots := [(2, .id), (4, .id), (12, .id), (13, .id), (39, .val false Tq14), (40, .id), (41, .id)], keys := [(4, [.id, .id, .val false Tq14]), (37, [])] })], conds := [(15, { slots := [(2, .id), (4, .id), (12, .id), (13, .id), (39, .val false Tq14), (40, .id), (41, .id)], keys := [(4, [.id, .id, .val false Tq14]), (37, [])] })] }
noncomputable abbrev f56_a (k : Nat) (F : f56_L) : Kont (RDL f56_rs) := ap T f56_Y (f56_E k) f56_A k (Kfin T f56_rs f56_ts) F
def f56_s_r4 (y4_0 : Int) (y4_1 : Int) (y4_2 : (List (Int × (Int × (Int × (Int × Int)))))) (x1 : Int) (x2 : Int) (x29 : Bool) (x3 : Int) : St := mkS 133 400 [(1, aI x1), (2, aI x2), (3, aI x3), (4, aP 4), (29, aB x29)] [(4, .box [cI y4_0, cI y4_1, cV Tq14 y4_2])]
abbrev f56_t_r4 := Int → Int → (List (Int × (Int × (Int × (Int × Int))))) → Int → Int → Bool → Int → Option ((List Int) × Int × Int × Unit)
abbrev f56_o_r4 (R : f56_S) : f56_t_r4 := (fun y4_0 y4_1 y4_2 x1 x2 x29 x3 => R (f56_s_r4 y4_0 y4_1 y4_2 x1 x2 x29 x3))
noncomputable def f56_Q_r4 (k : Nat) : f56_L := [.c (f56_p 29) 0, .c (f56_p 15) 0]
noncomputable def f56_C_r4 (k : Nat) : f56_S := fun σ => f56_a k (f56_Q_r4 k) .nx σ
def f56_s_l0 (y37 : (List (Option (List Int)))) (y4_0 : Int) (y4_1 : Int) (y4_2 : (List (Int × (Int × (Int × (Int × Int)))))) (x13 : Int) (x2 : Int) (x40 : Int) (x41 : Int) : St := mkS 133 400 [(2, aI x2), (4, aP 4), (12, aO 37), (13, aI x13), (39, aV Tq14 y4_2), (40, aI x40), (41, aI x41)] [(4, .box [cI y4_0, cI y4_1, cV Tq14 y4_2]), (37, .vec Tq20 y37)]
abbrev f56_t_l0 := (List (Option (List Int))) → Int → Int → (List (Int × (Int × (Int × (Int × Int))))) → Int → Int → Int → Int → Option ((List Int) × Int × Int × Unit)
abbrev f56_o_l0 (R : f56_S) : f56_t_l0 := (fun y37 y4_0 y4_1 y4_2 x13 x2 x40 x41 => R (f56_s_l0 y37 y4_0 y4_1 y4_2 x13 x2 x40 x41))
noncomputable def f56_Q_l0 (k : Nat) (R_l0 : f56_S) : f56_L := [.c (f56_p 2036) 0, .j (fun σ => R_l0 (cut f56_A.loops 0 σ)), .blk 0, .c (f56_p 255) 0]
noncomputable def f56_C_l0 (k : Nat) (n : Nat) (σ : St) : Option (RDL f56_rs) := loopK (fun σ K => den T f56_Y (f56_E k) f56_A k (f56_p 2036) 0 σ K) (cut f56_A.loops 0) (f56_a k [.blk 0, .c (f56_p 255) 0]) n σ
def f56_s_r13 (y15_0 : Int) (y15_1 : Int) (y15_2 : Int) (y15_3 : Int) (y15_4 : Int) (y37 : (List (Option (List Int)))) (y4_0 : Int) (y4_1 : Int) (y4_2 : (List (Int × (Int × (Int × (Int × Int)))))) (x13 : Int) (x14 : Int) (x2 : Int) (x40 : Int) (x56 : Bool) : St := mkS 133 400 [(2, aI x2), (4, aP 4), (12, aO 37), (13, aI x13), (14, aI x14), (15, aP 15), (39, aV Tq14 y4_2), (40, aI x40), (41, aI x14), (56, aB x56)] [(4, .box [cI y4_0, cI y4_1, cV Tq14 y4_2]), (15, .box [cI y15_0, cI y15_1, cI y15_2, cI y15_3, cI y15_4]), (37, .vec Tq20 y37)]
abbrev f56_t_r13 := Int → Int → Int → Int → Int → (List (Option (List Int))) → Int → Int → (List (Int × (Int × (Int × (Int × Int))))) → Int → Int → Int → Int → Bool → Option ((List Int) × Int × Int × Unit)
abbrev f56_o_r13 (R : f56_S) : f56_t_r13 := (fun y15_0 y15_1 y15_2 y15_3 y15_4 y37 y4_0 y4_1 y4_2 x13 x14 x2 x40 x56 => R (f56_s_r13 y15_0 y15_1 y15_2 y15_3 y15_4 y37 y4_0 y4_1 y4_2 x13 x14 x2 x40 x56))
noncomputable def f56_Q_r13 (k : Nat) (R_l0 : f56_S) : f56_L := [.c (f56_p 260709) 1, .c (f56_p 130355) 1, .blk 1, .c (f56_p 16295) 0, .j (fun σ => R_l0 (cut f56_A.loops 0 σ)), .blk 0, .c (f56_p 255) 0]
noncomputable def f56_C_r13 (k : Nat) (R_l0 : f56_S) : f56_S := fun σ => f56_a k (f56_Q_r13 k R_l0) .nx σ
def f56_s_b1 (y37 : (List (Option (List Int)))) (y4_0 : Int) (y4_1 : Int) (y4_2 : (List (Int × (Int × (Int × (Int × Int)))))) (x13 : Int) (x2 : Int) (x40 : Int) (x41 : Int) : St := mkS 133 400 [(2, aI x2), (4, aP 4), (12, aO 37), (13, aI x13), (39, aV Tq14 y4_2), (40, aI x40), (41, aI x41)] [(4, .box [cI y4_0, cI y4_1, cV Tq14 y4_2]), (37, .vec Tq20 y37)]
abbrev f56_t_b1 := (List (Option (List Int))) → Int → Int → (List (Int × (Int × (Int × (Int × Int))))) → Int → Int → Int → Int → Option ((List Int) × Int × Int × Unit)
abbrev f56_o_b1 (R : f56_S) : f56_t_b1 := (fun y37 y4_0 y4_1 y4_2 x13 x2 x40 x41 => R (f56_s_b1 y37 y4_0 y4_1 y4_2 x13 x2 x40 x41))
noncomputable def f56_Q_b1 (k : Nat) (R_l0 : f56_S) : f56_L := [.c (f56_p 16295) 0, .j (fun σ => R_l0 (cut f56_A.loops 0 σ)), .blk 0, .c (f56_p 255) 0]
noncomputable def f56_C_b1 (k : Nat) (R_l0 : f56_S) : f56_S := fun σ => f56_a k (f56_Q_b1 k R_l0) .nx σ
def f56_s_r14 (y37 : (List (Option (List Int)))) (y4_0 : Int) (y4_1 : Int) (y4_2 : (List (Int × (Int × (Int × (Int × Int)))))) (x118 : Bool) (x13 : Int) (x14 : Int) (x2 : Int) (x40 : Int) : St := mkS 133 400 [(2, aI x2), (4, aP 4), (12, aO 37), (13, aI x13), (14, aI x14), (39, aV Tq14 y4_2), (40, aI x40), (41, aI x14), (118, aB x118)] [(4, .box [cI y4_0, cI y4_1, cV Tq14 y4_2]), (37, .vec Tq20 y37)]
abbrev f56_t_r14 := (List (Option (List Int))) → Int → Int → (List (Int × (Int × (Int × (Int × Int))))) → Bool → Int → Int → Int → Int → Option ((List Int) × Int × Int × Unit)
abbrev f56_o_r14 (R : f56_S) : f56_t_r14 := (fun y37 y4_0 y4_1 y4_2 x118 x13 x14 x2 x40 => R (f56_s_r14 y37 y4_0 y4_1 y4_2 x118 x13 x14 x2 x40))
noncomputable def f56_Q_r14 (k : Nat) (R_l0 : f56_S) : f56_L := [.c (f56_p 260711) 1, .blk 1, .c (f56_p 16295) 0, .j (fun σ => R_l0 (cut f56_A.loops 0 σ)), .blk 0, .c (f56_p 255) 0]
noncomputable def f56_C_r14 (k : Nat) (R_l0 : f56_S) : f56_S := fun σ => f56_a k (f56_Q_r14 k R_l0) .nx σ
def f56_s_c15 (y37 : (List (Option (List Int)))) (y4_0 : Int) (y4_1 : Int) (y4_2 : (List (Int × (Int × (Int × (Int × Int)))))) (x13 : Int) (x2 : Int) (x40 : Int) (x41 : Int) : St := mkS 133 400 [(2, aI x2), (4, aP 4), (12, aO 37), (13, aI x13), (39, aV Tq14 y4_2), (40, aI x40), (41, aI x41)] [(4, .box [cI y4_0, cI y4_1, cV Tq14 y4_2]), (37, .vec Tq20 y37)]
abbrev f56_t_c15 := (List (Option (List Int))) → Int → Int → (List (Int × (Int × (Int × (Int × Int))))) → Int → Int → Int → Int → Option ((List Int) × Int × Int × Unit)
abbrev f56_o_c15 (R : f56_S) : f56_t_c15 := (fun y37 y4_0 y4_1 y4_2 x13 x2 x40 x41 => R (f56_s_c15 y37 y4_0 y4_1 y4_2 x13 x2 x40 x41))
noncomputable def f56_Q_c15 (k : Nat) (R_l0 : f56_S) : f56_L := [.blk 1, .c (f56_p 16295) 0, .j (fun σ => R_l0 (cut f56_A.loops 0 σ)), .blk 0, .c (f56_p 255) 0]
noncomputable def f56_C_c15 (k : Nat) (R_l0 : f56_S) : f56_S := fun σ => f56_a k (f56_Q_c15 k R_l0) .nx σ
noncomputable def f56_F_r4 (k : Nat) (G_l0 : f56_S) : f56_L := .c (f56_p 29) 0 :: .c (f56_p 30) 0 :: .c (f56_p 62) 0 :: .c (f56_p 126) 0 :: .c (f56_p 508) 0 :: .j (fun σ => f56_a k (.j (fun σ => G_l0 (cut f56_A.loops 0 σ)) :: .blk 0 :: .c (f56_p 255) 0 :: []) .nx σ) :: .c (f56_p 255) 0 :: []
theorem f56_f_r4 (k : Nat) : f56_a k (f56_Q_r4 k) = f56_a k (f56_F_r4 k (f56_C_l0 k k)) := (ap_cons _ (Eq.trans ap_sq (ap_cons _ (Eq.trans ap_sq (ap_cons _ (Eq.trans ap_sq (ap_cons _ (Eq.trans ap_sq (Eq.trans ap_sq (ap_cons _ (Eq.trans (ap_bl 0) (Eq.trans (ap_j (Eq.trans (ap_lp (C := (f56_C_l0 k)) (fun _ _ => rfl)) (ap_cons _ (ap_cons _ (ap_cons _ rfl))))) (ap_cons _ (ap_cons _ rfl))))))))))))))
noncomputable def f56_F_b1 (k : Nat) (G_l0 : f56_S) : f56_L := .c (f56_p 16295) 0 :: .j (fun σ => G_l0 (cut f56_A.loops 0 σ)) :: .blk 0 :: .c (f56_p 255) 0 :: []
theorem f56_f_b1 (k : Nat) (R_l0 : f56_S) : f56_a k (f56_Q_b1 k R_l0) = f56_a k (f56_F_b1 k R_l0) := (ap_cons _ (ap_cons _ (ap_cons _ (ap_cons _ rfl))))
noncomputable def f56_F_c15 (k : Nat) (G_l0 G_b1 : f56_S) : f56_L := .b 1 (fun σ => G_b1 (cut f56_A.blks 1 σ)) :: f56_F_b1 k G_l0
theorem f56_f_c15 (k : Nat) (R_l0 : f56_S) : f56_a k (f56_Q_c15 k R_l0) = f56_a k (f56_F_c15 k R_l0 (f56_C_b1 k R_l0)) := (Eq.trans (ap_blkb (C := (f56_C_b1 k R_l0)) (fun _ => rfl)) (ap_cons _ (f56_f_b1 k R_l0)))
noncomputable def f56_F_r14 (k : Nat) (G_l0 G_b1 G_c15 : f56_S) : f56_L := .c (f56_p 260711) 1 :: .j G_c15 :: f56_F_c15 k G_l0 G_b1
theorem f56_f_r14 (k : Nat) (R_l0 : f56_S) : f56_a k (f56_Q_r14 k R_l0) = f56_a k (f56_F_r14 k R_l0 (f56_C_b1 k R_l0) (f56_C_c15 k R_l0)) := (ap_cons _ (Eq.trans (ap_pass (C := (f56_C_c15 k R_l0)) (fun _ => rfl)) (ap_cons _ (f56_f_c15 k R_l0))))
noncomputable def f56_F_r13 (k : Nat) (G_l0 G_b1 G_r14 G_c15 : f56_S) : f56_L := .c (f56_p 260709) 1 :: .c (f56_p 260710) 1 :: .j G_r14 :: f56_F_r14 k G_l0 G_b1 G_c15
theorem f56_f_r13 (k : Nat) (R_l0 : f56_S) : f56_a k (f56_Q_r13 k R_l0) = f56_a k (f56_F_r13 k R_l0 (f56_C_b1 k R_l0) (f56_C_r14 k R_l0) (f56_C_c15 k R_l0)) := (ap_cons _ (Eq.trans ap_sq (ap_cons _ (Eq.trans (ap_pass (C := (f56_C_r14 k R_l0)) (fun _ => rfl)) (ap_cons _ (f56_f_r14 k R_l0))))))
noncomputable def f56_F_l0 (k : Nat) (G_l0 G_r13 G_b1 G_r14 G_c15 : f56_S) : f56_L := .c (f56_p 4072) 0 :: .c (f56_p 8146) 0 :: .j (fun σ => f56_a k (.c (f56_p 65176) 1 :: .c (f56_p 260708) 1 :: .j G_r13 :: f56_F_r13 k G_l0 G_b1 G_r14 G_c15) .nx σ) :: f56_F_b1 k G_l0
theorem f56_f_l0 (k : Nat) (R_l0 : f56_S) : f56_a k (f56_Q_l0 k R_l0) = f56_a k (f56_F_l0 k R_l0 (f56_C_r13 k R_l0) (f56_C_b1 k R_l0) (f56_C_r14 k R_l0) (f56_C_c15 k R_l0)) := (Eq.trans ap_sq (ap_cons _ (Eq.trans ap_sq (ap_cons _ (Eq.trans ap_sq (Eq.trans (ap_bl 1) (Eq.trans (ap_j (Eq.trans ap_sq (ap_cons _ (Eq.trans ap_sq (Eq.trans ap_sq (ap_cons _ (Eq.trans (ap_pass (C := (f56_C_r13 k R_l0)) (fun _ => rfl)) (ap_cons _ (f56_f_r13 k R_l0))))))))) (ap_cons _ (f56_f_b1 k R_l0)))))))))
def f56_entry_B (k : Nat) (g_r4 : f56_t_r4) (a0 : (Int × Td19)) (a1 : Int) (a2 : Int) (a3 : Int) : Option ((List Int) × Int × Int × Unit) := ((f79 k (a0.1, (a0.2.1, a0.2.2)) ([a1, a2])).bind fun r1 => (if ¬ (r1.1 = 0) then some ([], 0, r1.1, ()) else (if a3 < 0 then (g_r4 a0.1 a0.2.1 a0.2.2 a1 a2 true a3) else (g_r4 a0.1 a0.2.1 a0.2.2 a1 a2 (decide (1073741824 < a3)) a3))))
def f56_r4_B (k : Nat) (g_l0 : f56_t_l0) (y4_0 : Int) (y4_1 : Int) (y4_2 : (List (Int × (Int × (Int × (Int × Int)))))) (x1 : Int) (x2 : Int) (x29 : Bool) (x3 : Int) : Option ((List Int) × Int × Int × Unit) := (if x29 = true then some ([], 0, 1, ()) else (if x1 = x2 then some ([], x3, 0, ()) else ((f80 k (y4_0, (y4_1, y4_2)) x1 x3).bind fun r1 => (g_l0 r1.1 y4_0 y4_1 y4_2 (-1) x2 (y4_2.length : Int) 0))))
def f56_l0_B (k : Nat) (g_r13 : f56_t_r13) (y37 : (List (Option (List Int)))) (y4_0 : Int) (y4_1 : Int) (y4_2 : (List (Int × (Int × (Int × (Int × Int)))))) (x13 : Int) (x2 : Int) (x40 : Int) (x41 : Int) : Option ((List Int) × Int × Int × Unit) := (if x41 < x40 then (if 0 ≤ x41 then (if x41 < (y4_2.length : Int) then (if ¬ ((((y4_2.getD (x41).toNat (0, (0, (0, (0, 0))))).2).1) = x2) then (g_r13 ((y4_2.getD (x41).toNat (0, (0, (0, (0, 0))))).1) (((y4_2.getD (x41).toNat (0, (0, (0, (0, 0))))).2).1) ((((y4_2.getD (x41).toNat (0, (0, (0, (0, 0))))).2).2).1) (((((y4_2.getD (x41).toNat (0, (0, (0, (0, 0))))).2).2).2).1) (((((y4_2.getD (x41).toNat (0, (0, (0, (0, 0))))).2).2).2).2) y37 y4_0 y4_1 y4_2 x13 x41 x2 x40 true) else (if 0 ≤ x41 then (if x41 < (y37.length : Int) then (g_r13 ((y4_2.getD (x41).toNat (0, (0, (0, (0, 0))))).1) (((y4_2.getD (x41).toNat (0, (0, (0, (0, 0))))).2).1) ((((y4_2.getD (x41).toNat (0, (0, (0, (0, 0))))).2).2).1) (((((y4_2.getD (x41).toNat (0, (0, (0, (0, 0))))).2).2).2).1) (((((y4_2.getD (x41).toNat (0, (0, (0, (0, 0))))).2).2).2).2) y37 y4_0 y4_1 y4_2 x13 x41 x2 x40 (decide (isNilO (y37.getD ((x41).toNat) none) = true))) else none) else none)) else none) else none) else (if x13 < 0 then some ([], 0, 17, ()) else (if 0 ≤ x13 then (if x13 < (y37.length : Int) then (if 0 ≤ x13 then (if x13 < (y4_2.length : Int) then some (slL true (y37.getD ((x13).toNat) none), ((((y4_2.getD (x13).toNat (0, (0, (0, (0, 0))))).2).2).2).1, 0, ()) else none) else none) else none) else none)))
def f56_r13_B (k : Nat) (g_b1 : f56_t_b1) (g_r14 : f56_t_r14) (y15_0 : Int) (y15_1 : Int) (y15_2 : Int) (y15_3 : Int) (y15_4 : Int) (y37 : (List (Option (List Int)))) (y4_0 : Int) (y4_1 : Int) (y4_2 : (List (Int × (Int × (Int × (Int × Int)))))) (x13 : Int) (x14 : Int) (x2 : Int) (x40 : Int) (x56 : Bool) : Option ((List Int) × Int × Int × Unit) := (if x56 = true then (g_b1 y37 y4_0 y4_1 y4_2 x13 x2 x40 x14) else (if x13 < 0 then (g_r14 y37 y4_0 y4_1 y4_2 true x13 x14 x2 x40) else (if 0 ≤ x13 then (if x13 < (y4_2.length : Int) then (if y15_3 < (((((y4_2.getD (x13).toNat (0, (0, (0, (0, 0))))).2).2).2).1) then (g_r14 y37 y4_0 y4_1 y4_2 true x13 x14 x2 x40) else (if 0 ≤ x13 then (if x13 < (y4_2.length : Int) then (if y15_3 = (((((y4_2.getD (x13).toNat (0, (0, (0, (0, 0))))).2).2).2).1) then (if 0 ≤ x14 then (if x14 < (y37.length : Int) then (if 0 ≤ x13 then (if x13 < (y37.length : Int) then (if ((slL true (y37.getD ((x14).toNat) none)).length : Int) < ((slL true (y37.getD ((x13).toNat) none)).length : Int) then (g_r14 y37 y4_0 y4_1 y4_2 true x13 x14 x2 x40) else (if 0 ≤ x14 then (if x14 < (y37.length : Int) then (if 0 ≤ x13 then (if x13 < (y37.length : Int) then (if ((slL true (y37.getD ((x14).toNat) none)).length : Int) = ((slL true (y37.getD ((x13).toNat) none)).length : Int) then (if 0 ≤ x14 then (if x14 < (y37.length : Int) then (if 0 ≤ x13 then (if x13 < (y37.length : Int) then ((f81 k (slL true (y37.getD ((x14).toNat) none)) (slL true (y37.getD ((x13).toNat) none))).bind fun r1 => (g_r14 y37 y4_0 y4_1 y4_2 (decide (r1.1 < 0)) x13 x14 x2 x40)) else none) else none) else none) else none) else (g_r14 y37 y4_0 y4_1 y4_2 false x13 x14 x2 x40)) else none) else none) else none) else none)) else none) else none) else none) else none) else (g_r14 y37 y4_0 y4_1 y4_2 false x13 x14 x2 x40)) else none) else none)) else none) else none)))
def f56_b1_B (k : Nat) (g_l0 : f56_t_l0) (y37 : (List (Option (List Int)))) (y4_0 : Int) (y4_1 : Int) (y4_2 : (List (Int × (Int × (Int × (Int × Int)))))) (x13 : Int) (x2 : Int) (x40 : Int) (x41 : Int) : Option ((List Int) × Int × Int × Unit) := (g_l0 y37 y4_0 y4_1 y4_2 x13 x2 x40 (w64 (x41 + 1)))
def f56_r14_B (k : Nat) (g_c15 : f56_t_c15) (y37 : (List (Option (List Int)))) (y4_0 : Int) (y4_1 : Int) (y4_2 : (List (Int × (Int × (Int × (Int × Int)))))) (x118 : Bool) (x13 : Int) (x14 : Int) (x2 : Int) (x40 : Int) : Option ((List Int) × Int × Int × Unit) := (if x118 = true then (g_c15 y37 y4_0 y4_1 y4_2 x14 x2 x40 x14) else (g_c15 y37 y4_0 y4_1 y4_2 x13 x2 x40 x14))
def f56_c15_B (k : Nat) (g_b1 : f56_t_b1) (y37 : (List (Option (List Int)))) (y4_0 : Int) (y4_1 : Int) (y4_2 : (List (Int × (Int × (Int × (Int × Int)))))) (x13 : Int) (x2 : Int) (x40 : Int) (x41 : Int) : Option ((List Int) × Int × Int × Unit) := (g_b1 y37 y4_0 y4_1 y4_2 x13 x2 x40 x41)
theorem f56_b1_P (k : Nat) (G_l0 : f56_S) : f56_o_b1 (fun σ => f56_a k (f56_F_b1 k G_l0) .nx σ) = f56_b1_B k (f56_o_l0 G_l0) := by kernel_rfl
def f56_b1 (k : Nat) (r_l0 : f56_t_l0) : f56_t_b1 := f56_b1_B k r_l0
theorem f56_b1_E (k : Nat) (R_l0 : f56_S) : f56_o_b1 (f56_C_b1 k R_l0) = f56_b1 k (f56_o_l0 R_l0) :=
  Eq.trans (congrArg f56_o_b1 (ap_fn (f56_f_b1 k R_l0))) ((f56_b1_P k R_l0).trans (by rfl))
theorem f56_c15_P (k : Nat) (G_l0 G_b1 : f56_S) : f56_o_c15 (fun σ => f56_a k (f56_F_c15 k G_l0 G_b1) .nx σ) = f56_c15_B k (f56_o_b1 G_b1) := by kernel_rfl
def f56_c15 (k : Nat) (r_l0 : f56_t_l0) : f56_t_c15 := f56_c15_B k (f56_b1 k r_l0)
theorem f56_c15_E (k : Nat) (R_l0 : f56_S) : f56_o_c15 (f56_C_c15 k R_l0) = f56_c15 k (f56_o_l0 R_l0) :=
  Eq.trans (congrArg f56_o_c15 (ap_fn (f56_f_c15 k R_l0))) ((f56_c15_P k R_l0 (f56_C_b1 k R_l0)).trans (by rw [f56_b1_E k R_l0] <;> rfl))
theorem f56_r14_P (k : Nat) (G_l0 G_b1 G_c15 : f56_S) : f56_o_r14 (fun σ => f56_a k (f56_F_r14 k G_l0 G_b1 G_c15) .nx σ) = f56_r14_B k (f56_o_c15 G_c15) := by kernel_rfl
def f56_r14 (k : Nat) (r_l0 : f56_t_l0) : f56_t_r14 := f56_r14_B k (f56_c15 k r_l0)
theorem f56_r14_E (k : Nat) (R_l0 : f56_S) : f56_o_r14 (f56_C_r14 k R_l0) = f56_r14 k (f56_o_l0 R_l0) :=
  Eq.trans (congrArg f56_o_r14 (ap_fn (f56_f_r14 k R_l0))) ((f56_r14_P k R_l0 (f56_C_b1 k R_l0) (f56_C_c15 k R_l0)).trans (by rw [f56_c15_E k R_l0] <;> rfl))
theorem f56_r13_P (k : Nat) (G_l0 G_b1 G_r14 G_c15 : f56_S) : f56_o_r13 (fun σ => f56_a k (f56_F_r13 k G_l0 G_b1 G_r14 G_c15) .nx σ) = f56_r13_B k (f56_o_b1 G_b1) (f56_o_r14 G_r14) := by kernel_rfl
def f56_r13 (k : Nat) (r_l0 : f56_t_l0) : f56_t_r13 := f56_r13_B k (f56_b1 k r_l0) (f56_r14 k r_l0)
theorem f56_r13_E (k : Nat) (R_l0 : f56_S) : f56_o_r13 (f56_C_r13 k R_l0) = f56_r13 k (f56_o_l0 R_l0) :=
  Eq.trans (congrArg f56_o_r13 (ap_fn (f56_f_r13 k R_l0))) ((f56_r13_P k R_l0 (f56_C_b1 k R_l0) (f56_C_r14 k R_l0) (f56_C_c15 k R_l0)).trans (by rw [f56_b1_E k R_l0, f56_r14_E k R_l0] <;> rfl))
theorem f56_l0_P (k : Nat) (G_l0 G_r13 G_b1 G_r14 G_c15 : f56_S) : f56_o_l0 (fun σ => f56_a k (f56_F_l0 k G_l0 G_r13 G_b1 G_r14 G_c15) .nx σ) = f56_l0_B k (f56_o_r13 G_r13) := by kernel_rfl
def f56_l0 (k : Nat) : Nat → f56_t_l0
  | 0 => fun _ _ _ _ _ _ _ _ => none
  | n + 1 => f56_l0_B k (f56_r13 k (f56_l0 k n))
theorem f56_l0_E (k : Nat) : ∀ n, f56_o_l0 (f56_C_l0 k n) = f56_l0 k n
  | 0 => rfl
  | n + 1 =>
    Eq.trans (congrArg f56_o_l0 (Eq.trans (b := fun σ => f56_a k (f56_Q_l0 k (f56_C_l0 k n)) .nx σ) (by kernel_rfl) (ap_fn (f56_f_l0 k (f56_C_l0 k n))))) ((f56_l0_P k (f56_C_l0 k n) (f56_C_r13 k (f56_C_l0 k n)) (f56_C_b1 k (f56_C_l0 k n)) (f56_C_r14 k (f56_C_l0 k n)) (f56_C_c15 k (f56_C_l0 k n))).trans (by rw [f56_r13_E k (f56_C_l0 k n), f56_l0_E k n] <;> rfl))
theorem f56_r4_P (k : Nat) (G_l0 : f56_S) : f56_o_r4 (fun σ => f56_a k (f56_F_r4 k G_l0) .nx σ) = f56_r4_B k (f56_o_l0 G_l0) := by kernel_rfl
def f56_r4 (k : Nat) : f56_t_r4 := f56_r4_B k (f56_l0 k k)
theorem f56_r4_E (k : Nat) : f56_o_r4 (f56_C_r4 k) = f56_r4 k :=
  Eq.trans (congrArg f56_o_r4 (ap_fn (f56_f_r4 k))) ((f56_r4_P k (f56_C_l0 k k)).trans (by rw [f56_l0_E k k] <;> rfl))
theorem f56_entry_P (k : Nat) (G_r4 G_l0 : f56_S) (xs : DL f56_sig) : f56_a k (.c (f56_p 2) 0 :: .c (f56_p 6) 0 :: .c (f56_p 28) 0 :: .j G_r4 :: f56_F_r4 k G_l0) .nx (σ0 133 400 f56_sig xs) = f56_entry_B k (f56_o_r4 G_r4) xs.1 xs.2.1 xs.2.2.1 xs.2.2.2.1 := by kernel_rfl
def f56 (k : Nat) (a0 : (Int × Td19)) (a1 : Int) (a2 : Int) (a3 : Int) : Option ((List Int) × Int × Int × Unit) := f56_entry_B k (f56_r4 k) a0 a1 a2 a3
theorem f56_fe (k : Nat) : f56_a k [.c (f56_p 1) 0] = f56_a k (.c (f56_p 2) 0 :: .c (f56_p 6) 0 :: .c (f56_p 28) 0 :: .j (f56_C_r4 k) :: f56_F_r4 k (f56_C_l0 k k)) := (Eq.trans ap_sq (ap_cons _ (Eq.trans ap_sq (ap_cons _ (Eq.trans ap_sq (Eq.trans ap_sq (ap_cons _ (Eq.trans (ap_pass (C := (f56_C_r4 k)) (fun _ => rfl)) (ap_cons _ (f56_f_r4 k))))))))))
theorem f56_eq (k : Nat) (xs : DL f56_sig) : den T f56_Y (f56_E k) f56_A k f56_c 0 (σ0 133 400 f56_sig xs) (Kfin T f56_rs f56_ts) = f56 k xs.1 xs.2.1 xs.2.2.1 xs.2.2.2.1 :=
  Eq.trans (Eq.trans den_sb (ap_at (f56_fe k) _)) ((f56_entry_P k (f56_C_r4 k) (f56_C_l0 k k) xs).trans (by rw [f56_r4_E k] <;> rfl))
noncomputable def f56_con (k : Nat) : Con := ⟨f56_sig, f56_rs, fun xs => f56 k xs.1 xs.2.1 xs.2.2.1 xs.2.2.2.1⟩
theorem f56_ok (k : Nat) : PureOK Try.prog 56 f56_sig f56_rs (fun xs => f56 k xs.1 xs.2.1 xs.2.2.1 xs.2.2.2.1) :=
  (pure_of_den (k := k) (A := f56_A) (T := T) (Y := f56_Y) (E := f56_E k) (M := 400) (ts := f56_ts) T_ok ⟨f79_ok k, f80_ok k, f81_ok k, trivial⟩ ⟨f79_ent, f80_ent, f81_ent, trivial⟩ mixed (f := 56) (fn := Try.f56) (c := f56_c) (by kernel_rfl) (by kernel_rfl) (by kernel_rfl) (by decide) (by kernel_rfl)).congr fun xs => (f56_eq k xs).symm
theorem f56_ent : Ent Try.prog 56 := fun args w => by kernel_rfl
/-! ### terrier/terrkeep4.planned: function 26 -/
noncomputable def f26_c : Code := Try.f26.body.getD .skip
noncomputable abbrev f26_p (n : Nat) : Code := sb f26_c n
abbrev f26_sig : List PT := []
abbrev f26_rs : List RT := [.d false .bool]
abbrev f26_ts : List RV := [.tmp 0]
abbrev f26_S := St → Option (RDL f26_rs)
abbrev f26_L := List (Fr (RDL f26_rs))
def f26_Y : Tys := [(3, (.int .i64)), (94, Tq14)]
noncomputable def f26_E (k : Nat) : Env := [(20, .c (f20_con k)), (56, .c (f56_con k))]
def f26_A : Ann := { regs := [(3, { slots := [(0, .bool)] })] }
noncomputable abbrev f26_a (k : Nat) (F : f26_L) : Kont (RDL f26_rs) := ap T f26_Y (f26_E k) f26_A k (Kfin T f26_rs f26_ts) F
def f26_s_r3 (x0 : Bool) : St := mkS 25 80 [(0, aB x0)] []
abbrev f26_t_r3 := Bool → Option (Bool × Unit)
abbrev f26_o_r3 (R : f26_S) : f26_t_r3 := (fun x0 => R (f26_s_r3 x0))
noncomputable def f26_Q_r3 (k : Nat) : f26_L := [.c (f26_p 31) 0]
noncomputable def f26_C_r3 (k : Nat) : f26_S := fun σ => f26_a k (f26_Q_r3 k) .nx σ
noncomputable def f26_F_r3 (k : Nat) : f26_L := .c (f26_p 31) 0 :: []
theorem f26_f_r3 (k : Nat) : f26_a k (f26_Q_r3 k) = f26_a k (f26_F_r3 k) := (ap_cons _ rfl)
def f26_entry_B (k : Nat) (g_r3 : f26_t_r3)  : Option (Bool × Unit) := ((f56 k (2, (0, [(0, (1, (3, (8, 0))))])) 0 1 2).bind fun r1 => (if r1.2.2.1 = 0 then (if r1.2.1 = 8 then ((f20 k r1.1 ([0])).bind fun r2 => (g_r3 (decide (r2.1 = true)))) else (g_r3 false)) else (g_r3 false)))
def f26_r3_B (k : Nat) (x0 : Bool) : Option (Bool × Unit) := some (decide (x0 = true), ())
theorem f26_r3_P (k : Nat) : f26_o_r3 (fun σ => f26_a k (f26_F_r3 k) .nx σ) = f26_r3_B k := by kernel_rfl
def f26_r3 (k : Nat) : f26_t_r3 := f26_r3_B k
theorem f26_r3_E (k : Nat) : f26_o_r3 (f26_C_r3 k) = f26_r3 k :=
  Eq.trans (congrArg f26_o_r3 (ap_fn (f26_f_r3 k))) ((f26_r3_P k).trans (by rfl))
theorem f26_entry_P (k : Nat) (G_r3 : f26_S) (xs : DL f26_sig) : f26_a k (.c (f26_p 2) 0 :: .c (f26_p 6) 0 :: .c (f26_p 14) 0 :: .c (f26_p 30) 0 :: .j G_r3 :: f26_F_r3 k) .nx (σ0 25 80 f26_sig xs) = f26_entry_B k (f26_o_r3 G_r3)  := by kernel_rfl
def f26 (k : Nat)  : Option (Bool × Unit) := f26_entry_B k (f26_r3 k) 
theorem f26_fe (k : Nat) : f26_a k [.c (f26_p 1) 0] = f26_a k (.c (f26_p 2) 0 :: .c (f26_p 6) 0 :: .c (f26_p 14) 0 :: .c (f26_p 30) 0 :: .j (f26_C_r3 k) :: f26_F_r3 k) := (Eq.trans ap_sq (ap_cons _ (Eq.trans ap_sq (ap_cons _ (Eq.trans ap_sq (ap_cons _ (Eq.trans ap_sq (ap_cons _ (Eq.trans (ap_pass (C := (f26_C_r3 k)) (fun _ => rfl)) (ap_cons _ (f26_f_r3 k)))))))))))
theorem f26_eq (k : Nat) (xs : DL f26_sig) : den T f26_Y (f26_E k) f26_A k f26_c 0 (σ0 25 80 f26_sig xs) (Kfin T f26_rs f26_ts) = f26 k  :=
  Eq.trans (Eq.trans den_sb (ap_at (f26_fe k) _)) ((f26_entry_P k (f26_C_r3 k) xs).trans (by rw [f26_r3_E k] <;> rfl))
noncomputable def f26_con (k : Nat) : Con := ⟨f26_sig, f26_rs, fun xs => f26 k ⟩
theorem f26_ok (k : Nat) : PureOK Try.prog 26 f26_sig f26_rs (fun xs => f26 k ) :=
  (pure_of_den (k := k) (A := f26_A) (T := T) (Y := f26_Y) (E := f26_E k) (M := 80) (ts := f26_ts) T_ok ⟨f20_ok k, f56_ok k, trivial⟩ ⟨f20_ent, f56_ent, trivial⟩ mixed (f := 26) (fn := Try.f26) (c := f26_c) (by kernel_rfl) (by kernel_rfl) (by kernel_rfl) (by decide) (by kernel_rfl)).congr fun xs => (f26_eq k xs).symm
theorem f26_ent : Ent Try.prog 26 := fun args w => by kernel_rfl
/-! ### terrier/terrkeep4.TimedWaits: function 4 -/
noncomputable def f4_c : Code := Try.f4.body.getD .skip
noncomputable abbrev f4_p (n : Nat) : Code := sb f4_c n
abbrev f4_sig : List PT := [(false, Tq1), (false, Tq1), (false, (.int .i64)), (false, (.int .i64))]
abbrev f4_rs : List RT := [.d false .bool]
abbrev f4_ts : List RV := [.tmp 8]
abbrev f4_S := St → Option (RDL f4_rs)
abbrev f4_L := List (Fr (RDL f4_rs))
def f4_Y : Tys := [(48, Tq3)]
noncomputable def f4_E (k : Nat) : Env := [(15, .c (f15_con k)), (23, .c (f23_con k)), (24, .c (f24_con k)), (25, .c (f25_con k)), (26, .c (f26_con k))]
def f4_A : Ann := { loops := [(0, { mat := [(10, 36, Tq3)], slots := [(1, .val false (.int .i64)), (2, .id), (3, .id), (9, .id), (10, .id), (22, .id), (23, .id)], keys := [(9, [.val false Tq2, .val false Tq6, .val false Tq2]), (36, [])] }), (2, { slots := [(9, .id), (13, .id), (15, .id), (75, .id), (76, .id)], keys := [(9, [.val false Tq2, .val false Tq6, .val false Tq2]), (44, []), (54, [])] })], regs := [(11, { slots := [(9, .id), (13, .id), (15, .id), (73, .bool)], keys := [(9, [.val false Tq2, .val false Tq6, .val false Tq2]), (44, []), (54, [])] }), (16, { slots := [(9, .id), (13, .id), (15, .id), (75, .id), (76, .id), (100, .bool)], keys := [(9, [.val false Tq2, .val false Tq6, .val false Tq2]), (44, []), (54, [])] })] }
noncomputable abbrev f4_a (k : Nat) (F : f4_L) : Kont (RDL f4_rs) := ap T f4_Y (f4_E k) f4_A k (Kfin T f4_rs f4_ts) F
def f4_s_l0 (y36 : (List (List (Int × Int)))) (y9_0 : (List (Int × Int))) (y9_1 : (List (Int × (Int × (Int × Int))))) (y9_2 : (List (Int × Int))) (x1 : (List Int)) (x2 : Int) (x22 : Int) (x23 : Int) (x3 : Int) : St := mkS 108 336 [(1, aV (.int .i64) x1), (2, aI x2), (3, aI x3), (9, aP 9), (10, aO 36), (22, aI x22), (23, aI x23)] [(9, .box [cV Tq2 y9_0, cV Tq6 y9_1, cV Tq2 y9_2]), (36, .vec Tq3 y36)]
abbrev f4_t_l0 := (List (List (Int × Int))) → (List (Int × Int)) → (List (Int × (Int × (Int × Int)))) → (List (Int × Int)) → (List Int) → Int → Int → Int → Int → Option (Bool × Unit)
abbrev f4_o_l0 (R : f4_S) : f4_t_l0 := (fun y36 y9_0 y9_1 y9_2 x1 x2 x22 x23 x3 => R (f4_s_l0 y36 y9_0 y9_1 y9_2 x1 x2 x22 x23 x3))
noncomputable def f4_Q_l0 (k : Nat) (R_l0 : f4_S) : f4_L := [.c (f4_p 244) 0, .j (fun σ => R_l0 (cut f4_A.loops 0 σ)), .blk 0, .c (f4_p 31) 0]
noncomputable def f4_C_l0 (k : Nat) (n : Nat) (σ : St) : Option (RDL f4_rs) := loopK (fun σ K => den T f4_Y (f4_E k) f4_A k (f4_p 244) 0 σ K) (cut f4_A.loops 0) (f4_a k [.blk 0, .c (f4_p 31) 0]) n σ
def f4_s_r11 (y44 : (List Int)) (y54 : (List Int)) (y9_0 : (List (Int × Int))) (y9_1 : (List (Int × (Int × (Int × Int))))) (y9_2 : (List (Int × Int))) (x73 : Bool) : St := mkS 108 336 [(9, aP 9), (13, aO 44), (15, aO 54), (73, aB x73)] [(9, .box [cV Tq2 y9_0, cV Tq6 y9_1, cV Tq2 y9_2]), (44, .vec (.int .i64) y44), (54, .vec (.int .i64) y54)]
abbrev f4_t_r11 := (List Int) → (List Int) → (List (Int × Int)) → (List (Int × (Int × (Int × Int)))) → (List (Int × Int)) → Bool → Option (Bool × Unit)
abbrev f4_o_r11 (R : f4_S) : f4_t_r11 := (fun y44 y54 y9_0 y9_1 y9_2 x73 => R (f4_s_r11 y44 y54 y9_0 y9_1 y9_2 x73))
noncomputable def f4_Q_r11 (k : Nat) : f4_L := [.c (f4_p 1021) 0, .c (f4_p 511) 0]
noncomputable def f4_C_r11 (k : Nat) : f4_S := fun σ => f4_a k (f4_Q_r11 k) .nx σ
def f4_s_l2 (y44 : (List Int)) (y54 : (List Int)) (y9_0 : (List (Int × Int))) (y9_1 : (List (Int × (Int × (Int × Int))))) (y9_2 : (List (Int × Int))) (x75 : Int) (x76 : Int) : St := mkS 108 336 [(9, aP 9), (13, aO 44), (15, aO 54), (75, aI x75), (76, aI x76)] [(9, .box [cV Tq2 y9_0, cV Tq6 y9_1, cV Tq2 y9_2]), (44, .vec (.int .i64) y44), (54, .vec (.int .i64) y54)]
abbrev f4_t_l2 := (List Int) → (List Int) → (List (Int × Int)) → (List (Int × (Int × (Int × Int)))) → (List (Int × Int)) → Int → Int → Option (Bool × Unit)
abbrev f4_o_l2 (R : f4_S) : f4_t_l2 := (fun y44 y54 y9_0 y9_1 y9_2 x75 x76 => R (f4_s_l2 y44 y54 y9_0 y9_1 y9_2 x75 x76))
noncomputable def f4_Q_l2 (k : Nat) (R_l2 : f4_S) : f4_L := [.c (f4_p 8180) 2, .j (fun σ => R_l2 (cut f4_A.loops 2 σ)), .blk 2, .c (f4_p 1023) 0]
noncomputable def f4_C_l2 (k : Nat) (n : Nat) (σ : St) : Option (RDL f4_rs) := loopK (fun σ K => den T f4_Y (f4_E k) f4_A k (f4_p 8180) 2 σ K) (cut f4_A.loops 2) (f4_a k [.blk 2, .c (f4_p 1023) 0]) n σ
def f4_s_r16 (y44 : (List Int)) (y54 : (List Int)) (y9_0 : (List (Int × Int))) (y9_1 : (List (Int × (Int × (Int × Int))))) (y9_2 : (List (Int × Int))) (x100 : Bool) (x75 : Int) (x76 : Int) : St := mkS 108 336 [(9, aP 9), (13, aO 44), (15, aO 54), (75, aI x75), (76, aI x76), (100, aB x100)] [(9, .box [cV Tq2 y9_0, cV Tq6 y9_1, cV Tq2 y9_2]), (44, .vec (.int .i64) y44), (54, .vec (.int .i64) y54)]
abbrev f4_t_r16 := (List Int) → (List Int) → (List (Int × Int)) → (List (Int × (Int × (Int × Int)))) → (List (Int × Int)) → Bool → Int → Int → Option (Bool × Unit)
abbrev f4_o_r16 (R : f4_S) : f4_t_r16 := (fun y44 y54 y9_0 y9_1 y9_2 x100 x75 x76 => R (f4_s_r16 y44 y54 y9_0 y9_1 y9_2 x100 x75 x76))
noncomputable def f4_Q_r16 (k : Nat) (R_l2 : f4_S) : f4_L := [.c (f4_p 523571) 3, .blk 3, .c (f4_p 65447) 2, .j (fun σ => R_l2 (cut f4_A.loops 2 σ)), .blk 2, .c (f4_p 1023) 0]
noncomputable def f4_C_r16 (k : Nat) (R_l2 : f4_S) : f4_S := fun σ => f4_a k (f4_Q_r16 k R_l2) .nx σ
noncomputable def f4_F_r11 (k : Nat) (G_l2 : f4_S) : f4_L := .c (f4_p 1021) 0 :: .c (f4_p 2044) 0 :: .j (fun σ => f4_a k (.j (fun σ => G_l2 (cut f4_A.loops 2 σ)) :: .blk 2 :: .c (f4_p 1023) 0 :: []) .nx σ) :: .c (f4_p 1023) 0 :: []
theorem f4_f_r11 (k : Nat) : f4_a k (f4_Q_r11 k) = f4_a k (f4_F_r11 k (f4_C_l2 k k)) := (ap_cons _ (Eq.trans ap_sq (Eq.trans ap_sq (ap_cons _ (Eq.trans (ap_bl 2) (Eq.trans (ap_j (Eq.trans (ap_lp (C := (f4_C_l2 k)) (fun _ _ => rfl)) (ap_cons _ (ap_cons _ (ap_cons _ rfl))))) (ap_cons _ (ap_cons _ rfl))))))))
noncomputable def f4_F_l0 (k : Nat) (G_l0 G_r11 G_l2 : f4_S) : f4_L := .c (f4_p 244) 0 :: .j (fun σ => G_l0 (cut f4_A.loops 0 σ)) :: .blk 0 :: .c (f4_p 62) 0 :: .c (f4_p 126) 0 :: .c (f4_p 254) 0 :: .c (f4_p 1020) 0 :: .j G_r11 :: f4_F_r11 k G_l2
theorem f4_f_l0 (k : Nat) (R_l0 : f4_S) : f4_a k (f4_Q_l0 k R_l0) = f4_a k (f4_F_l0 k R_l0 (f4_C_r11 k) (f4_C_l2 k k)) := (ap_cons _ (ap_cons _ (ap_cons _ (Eq.trans ap_sq (ap_cons _ (Eq.trans ap_sq (ap_cons _ (Eq.trans ap_sq (ap_cons _ (Eq.trans ap_sq (Eq.trans ap_sq (ap_cons _ (Eq.trans (ap_pass (C := (f4_C_r11 k)) (fun _ => rfl)) (ap_cons _ (f4_f_r11 k)))))))))))))))
noncomputable def f4_F_r16 (k : Nat) (G_l2 : f4_S) : f4_L := .c (f4_p 523571) 3 :: .blk 3 :: .c (f4_p 65447) 2 :: .j (fun σ => G_l2 (cut f4_A.loops 2 σ)) :: .blk 2 :: .c (f4_p 1023) 0 :: []
theorem f4_f_r16 (k : Nat) (R_l2 : f4_S) : f4_a k (f4_Q_r16 k R_l2) = f4_a k (f4_F_r16 k R_l2) := (ap_cons _ (ap_cons _ (ap_cons _ (ap_cons _ (ap_cons _ (ap_cons _ rfl))))))
noncomputable def f4_F_l2 (k : Nat) (G_l2 G_r16 : f4_S) : f4_L := .c (f4_p 16360) 2 :: .c (f4_p 32722) 2 :: .j (fun σ => f4_a k (.c (f4_p 261784) 3 :: .c (f4_p 523570) 3 :: .j G_r16 :: f4_F_r16 k G_l2) .nx σ) :: .c (f4_p 65447) 2 :: .j (fun σ => G_l2 (cut f4_A.loops 2 σ)) :: .blk 2 :: .c (f4_p 1023) 0 :: []
theorem f4_f_l2 (k : Nat) (R_l2 : f4_S) : f4_a k (f4_Q_l2 k R_l2) = f4_a k (f4_F_l2 k R_l2 (f4_C_r16 k R_l2)) := (Eq.trans ap_sq (ap_cons _ (Eq.trans ap_sq (ap_cons _ (Eq.trans ap_sq (Eq.trans (ap_bl 3) (Eq.trans (ap_j (Eq.trans ap_sq (ap_cons _ (Eq.trans ap_sq (ap_cons _ (Eq.trans (ap_pass (C := (f4_C_r16 k R_l2)) (fun _ => rfl)) (ap_cons _ (f4_f_r16 k R_l2)))))))) (ap_cons _ (ap_cons _ (ap_cons _ (ap_cons _ (ap_cons _ rfl))))))))))))
def f4_entry_B (k : Nat) (g_l0 : f4_t_l0) (a0 : (List Int)) (a1 : (List Int)) (a2 : Int) (a3 : Int) : Option (Bool × Unit) := ((f23 k a0).bind fun r1 => (g_l0 ([] : List (List (Int × Int))) r1.1.1 r1.1.2.1 r1.1.2.2 a1 a2 (r1.1.2.1.length : Int) 0 a3))
def f4_l0_B (k : Nat) (g_l0 : f4_t_l0) (g_r11 : f4_t_r11) (y36 : (List (List (Int × Int)))) (y9_0 : (List (Int × Int))) (y9_1 : (List (Int × (Int × (Int × Int))))) (y9_2 : (List (Int × Int))) (x1 : (List Int)) (x2 : Int) (x22 : Int) (x23 : Int) (x3 : Int) : Option (Bool × Unit) := (if x23 < x22 then (if 0 ≤ (mx2 false (x1.length : Int) (w64 (3 * x23))) then (if (mx2 false (x1.length : Int) (w64 (3 * x23))) ≤ (x1.length : Int) then ((f24 k (x1.drop ((mx2 false (x1.length : Int) (w64 (3 * x23)))).toNat)).bind fun r1 => (if (y36.length + 1) * 24 ≤ 140737488355328 then (g_l0 (y36 ++ [r1.1]) y9_0 y9_1 y9_2 x1 x2 x22 (w64 (x23 + 1)) x3) else none)) else none) else none) else ((f15 k x2 60).bind fun r2 => ((f25 k (y9_0, (y9_1, y9_2)) y36 0 r2.1).bind fun r3 => ((f15 k x3 60).bind fun r4 => ((f25 k (y9_0, (y9_1, y9_2)) y36 0 (w64 (r2.1 + r4.1))).bind fun r5 => ((f26 k ).bind fun r6 => (if ¬ (r6.1 = true) then (g_r11 r3.1 r5.1 y9_0 y9_1 y9_2 true) else (if ¬ (r3.2.1 = 0) then (g_r11 r3.1 r5.1 y9_0 y9_1 y9_2 true) else (if ¬ (r5.2.1 = 0) then (g_r11 r3.1 r5.1 y9_0 y9_1 y9_2 true) else (g_r11 r3.1 r5.1 y9_0 y9_1 y9_2 (decide (¬ ((r3.1.length : Int) = (r5.1.length : Int))))))))))))))
def f4_r11_B (k : Nat) (g_l2 : f4_t_l2) (y44 : (List Int)) (y54 : (List Int)) (y9_0 : (List (Int × Int))) (y9_1 : (List (Int × (Int × (Int × Int))))) (y9_2 : (List (Int × Int))) (x73 : Bool) : Option (Bool × Unit) := (if x73 = true then some (false, ()) else (g_l2 y44 y54 y9_0 y9_1 y9_2 (y44.length : Int) 0))
def f4_l2_B (k : Nat) (g_r16 : f4_t_r16) (y44 : (List Int)) (y54 : (List Int)) (y9_0 : (List (Int × Int))) (y9_1 : (List (Int × (Int × (Int × Int))))) (y9_2 : (List (Int × Int))) (x75 : Int) (x76 : Int) : Option (Bool × Unit) := (if x76 < x75 then (if 0 ≤ x76 then (if x76 < (y44.length : Int) then (if 0 ≤ x76 then (if x76 < (y54.length : Int) then (if ¬ (decide ((y44.getD ((x76).toNat) 0) < 0) = decide ((y54.getD ((x76).toNat) 0) < 0)) then (g_r16 y44 y54 y9_0 y9_1 y9_2 true x75 x76) else (if 0 ≤ x76 then (if x76 < (y44.length : Int) then (if 0 ≤ x76 then (if x76 < (y54.length : Int) then (g_r16 y44 y54 y9_0 y9_1 y9_2 (decide ((y54.getD ((x76).toNat) 0) < (y44.getD ((x76).toNat) 0))) x75 x76) else none) else none) else none) else none)) else none) else none) else none) else none) else some (decide ((y44.length : Int) = (y9_0.length : Int)), ()))
def f4_r16_B (k : Nat) (g_l2 : f4_t_l2) (y44 : (List Int)) (y54 : (List Int)) (y9_0 : (List (Int × Int))) (y9_1 : (List (Int × (Int × (Int × Int))))) (y9_2 : (List (Int × Int))) (x100 : Bool) (x75 : Int) (x76 : Int) : Option (Bool × Unit) := (if x100 = true then some (false, ()) else (g_l2 y44 y54 y9_0 y9_1 y9_2 x75 (w64 (x76 + 1))))
theorem f4_r16_P (k : Nat) (G_l2 : f4_S) : f4_o_r16 (fun σ => f4_a k (f4_F_r16 k G_l2) .nx σ) = f4_r16_B k (f4_o_l2 G_l2) := by kernel_rfl
def f4_r16 (k : Nat) (r_l2 : f4_t_l2) : f4_t_r16 := f4_r16_B k r_l2
theorem f4_r16_E (k : Nat) (R_l2 : f4_S) : f4_o_r16 (f4_C_r16 k R_l2) = f4_r16 k (f4_o_l2 R_l2) :=
  Eq.trans (congrArg f4_o_r16 (ap_fn (f4_f_r16 k R_l2))) ((f4_r16_P k R_l2).trans (by rfl))
theorem f4_l2_P (k : Nat) (G_l2 G_r16 : f4_S) : f4_o_l2 (fun σ => f4_a k (f4_F_l2 k G_l2 G_r16) .nx σ) = f4_l2_B k (f4_o_r16 G_r16) := by kernel_rfl
def f4_l2 (k : Nat) : Nat → f4_t_l2
  | 0 => fun _ _ _ _ _ _ _ => none
  | n + 1 => f4_l2_B k (f4_r16 k (f4_l2 k n))
theorem f4_l2_E (k : Nat) : ∀ n, f4_o_l2 (f4_C_l2 k n) = f4_l2 k n
  | 0 => rfl
  | n + 1 =>
    Eq.trans (congrArg f4_o_l2 (Eq.trans (b := fun σ => f4_a k (f4_Q_l2 k (f4_C_l2 k n)) .nx σ) (by kernel_rfl) (ap_fn (f4_f_l2 k (f4_C_l2 k n))))) ((f4_l2_P k (f4_C_l2 k n) (f4_C_r16 k (f4_C_l2 k n))).trans (by rw [f4_r16_E k (f4_C_l2 k n), f4_l2_E k n] <;> rfl))
theorem f4_r11_P (k : Nat) (G_l2 : f4_S) : f4_o_r11 (fun σ => f4_a k (f4_F_r11 k G_l2) .nx σ) = f4_r11_B k (f4_o_l2 G_l2) := by kernel_rfl
def f4_r11 (k : Nat) : f4_t_r11 := f4_r11_B k (f4_l2 k k)
theorem f4_r11_E (k : Nat) : f4_o_r11 (f4_C_r11 k) = f4_r11 k :=
  Eq.trans (congrArg f4_o_r11 (ap_fn (f4_f_r11 k))) ((f4_r11_P k (f4_C_l2 k k)).trans (by rw [f4_l2_E k k] <;> rfl))
theorem f4_l0_P (k : Nat) (G_l0 G_r11 G_l2 : f4_S) : f4_o_l0 (fun σ => f4_a k (f4_F_l0 k G_l0 G_r11 G_l2) .nx σ) = f4_l0_B k (f4_o_l0 G_l0) (f4_o_r11 G_r11) := by kernel_rfl
def f4_l0 (k : Nat) : Nat → f4_t_l0
  | 0 => fun _ _ _ _ _ _ _ _ _ => none
  | n + 1 => f4_l0_B k (f4_l0 k n) (f4_r11 k)
theorem f4_l0_E (k : Nat) : ∀ n, f4_o_l0 (f4_C_l0 k n) = f4_l0 k n
  | 0 => rfl
  | n + 1 =>
    Eq.trans (congrArg f4_o_l0 (Eq.trans (b := fun σ => f4_a k (f4_Q_l0 k (f4_C_l0 k n)) .nx σ) (by kernel_rfl) (ap_fn (f4_f_l0 k (f4_C_l0 k n))))) ((f4_l0_P k (f4_C_l0 k n) (f4_C_r11 k) (f4_C_l2 k k)).trans (by rw [f4_r11_E k, f4_l0_E k n] <;> rfl))
theorem f4_entry_P (k : Nat) (G_l0 G_r11 G_l2 : f4_S) (xs : DL f4_sig) : f4_a k (.c (f4_p 2) 0 :: .c (f4_p 6) 0 :: .c (f4_p 14) 0 :: .c (f4_p 60) 0 :: .j (fun σ => f4_a k (.j (fun σ => G_l0 (cut f4_A.loops 0 σ)) :: .blk 0 :: .c (f4_p 62) 0 :: .c (f4_p 126) 0 :: .c (f4_p 254) 0 :: .c (f4_p 1020) 0 :: .j G_r11 :: f4_F_r11 k G_l2) .nx σ) :: .c (f4_p 62) 0 :: .c (f4_p 126) 0 :: .c (f4_p 254) 0 :: .c (f4_p 1020) 0 :: .j G_r11 :: f4_F_r11 k G_l2) .nx (σ0 108 336 f4_sig xs) = f4_entry_B k (f4_o_l0 G_l0) xs.1 xs.2.1 xs.2.2.1 xs.2.2.2.1 := by kernel_rfl
def f4 (k : Nat) (a0 : (List Int)) (a1 : (List Int)) (a2 : Int) (a3 : Int) : Option (Bool × Unit) := f4_entry_B k (f4_l0 k k) a0 a1 a2 a3
theorem f4_fe (k : Nat) : f4_a k [.c (f4_p 1) 0] = f4_a k (.c (f4_p 2) 0 :: .c (f4_p 6) 0 :: .c (f4_p 14) 0 :: .c (f4_p 60) 0 :: .j (fun σ => f4_a k (.j (fun σ => (f4_C_l0 k k) (cut f4_A.loops 0 σ)) :: .blk 0 :: .c (f4_p 62) 0 :: .c (f4_p 126) 0 :: .c (f4_p 254) 0 :: .c (f4_p 1020) 0 :: .j (f4_C_r11 k) :: f4_F_r11 k (f4_C_l2 k k)) .nx σ) :: .c (f4_p 62) 0 :: .c (f4_p 126) 0 :: .c (f4_p 254) 0 :: .c (f4_p 1020) 0 :: .j (f4_C_r11 k) :: f4_F_r11 k (f4_C_l2 k k)) := (Eq.trans ap_sq (ap_cons _ (Eq.trans ap_sq (ap_cons _ (Eq.trans ap_sq (ap_cons _ (Eq.trans ap_sq (Eq.trans ap_sq (ap_cons _ (Eq.trans (ap_bl 0) (Eq.trans (ap_j (Eq.trans (ap_lp (C := (f4_C_l0 k)) (fun _ _ => rfl)) (ap_cons _ (ap_cons _ (Eq.trans ap_sq (ap_cons _ (Eq.trans ap_sq (ap_cons _ (Eq.trans ap_sq (ap_cons _ (Eq.trans ap_sq (Eq.trans ap_sq (ap_cons _ (Eq.trans (ap_pass (C := (f4_C_r11 k)) (fun _ => rfl)) (ap_cons _ (f4_f_r11 k)))))))))))))))) (ap_cons _ (Eq.trans ap_sq (ap_cons _ (Eq.trans ap_sq (ap_cons _ (Eq.trans ap_sq (ap_cons _ (Eq.trans ap_sq (Eq.trans ap_sq (ap_cons _ (Eq.trans (ap_pass (C := (f4_C_r11 k)) (fun _ => rfl)) (ap_cons _ (f4_f_r11 k))))))))))))))))))))))))
theorem f4_eq (k : Nat) (xs : DL f4_sig) : den T f4_Y (f4_E k) f4_A k f4_c 0 (σ0 108 336 f4_sig xs) (Kfin T f4_rs f4_ts) = f4 k xs.1 xs.2.1 xs.2.2.1 xs.2.2.2.1 :=
  Eq.trans (Eq.trans den_sb (ap_at (f4_fe k) _)) ((f4_entry_P k (f4_C_l0 k k) (f4_C_r11 k) (f4_C_l2 k k) xs).trans (by rw [f4_l0_E k k] <;> rfl))
noncomputable def f4_con (k : Nat) : Con := ⟨f4_sig, f4_rs, fun xs => f4 k xs.1 xs.2.1 xs.2.2.1 xs.2.2.2.1⟩
theorem f4_ok (k : Nat) : PureOK Try.prog 4 f4_sig f4_rs (fun xs => f4 k xs.1 xs.2.1 xs.2.2.1 xs.2.2.2.1) :=
  (pure_of_den (k := k) (A := f4_A) (T := T) (Y := f4_Y) (E := f4_E k) (M := 336) (ts := f4_ts) T_ok ⟨f15_ok k, f23_ok k, f24_ok k, f25_ok k, f26_ok k, trivial⟩ ⟨f15_ent, f23_ent, f24_ent, f25_ent, f26_ent, trivial⟩ mixed (f := 4) (fn := Try.f4) (c := f4_c) (by kernel_rfl) (by kernel_rfl) (by kernel_rfl) (by decide) (by kernel_rfl)).congr fun xs => (f4_eq k xs).symm
theorem f4_ent : Ent Try.prog 4 := fun args w => by kernel_rfl
def Pure_TimedWaits : Prop := ∀ xs : DL f4_sig, wfs f4_sig xs → ∃ k, f4 k xs.1 xs.2.1 xs.2.2.1 xs.2.2.2.1 = some (true, ())
end Go.Proofs.Ytoebjlimpnmaoaa.Rw
