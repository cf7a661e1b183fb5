/- What the functions that the law IsoGrows reaches come to, part 2. No condition. -/
import Derived.Test.YtoebjlimpnmaoaaRwIsoGrowsa
namespace Go.Proofs.Ytoebjlimpnmaoaa.Rw
open Go.Rx Go.Proofs
set_option linter.unusedVariables false
set_option maxRecDepth 100000
/-! ### terrier/iso.valid: function 64 -/
noncomputable def f64_c : Code := Try.f64.body.getD .skip
noncomputable abbrev f64_p (n : Nat) : Code := sb f64_c n
abbrev f64_sig : List PT := [(true, Tq9), (false, Tq1)]
abbrev f64_rs : List RT := [.d false (.int .i64)]
abbrev f64_ts : List RV := [.tmp 4]
abbrev f64_S := St → Option (RDL f64_rs)
abbrev f64_L := List (Fr (RDL f64_rs))
def f64_Y : Tys := []
noncomputable def f64_E (k : Nat) : Env := [(49, .c (f49_con k))]
def f64_A : Ann := { loops := [(0, { slots := [(2, .id), (13, .val false (.int .i64)), (14, .id), (15, .id)], keys := [(2, [.val false Tq2, .val false Tq6, .val false Tq2])] })], regs := [(7, { slots := [(2, .id), (13, .val false (.int .i64)), (14, .id), (15, .id), (27, .bool)], keys := [(2, [.val false Tq2, .val false Tq6, .val false Tq2])] })] }
noncomputable abbrev f64_a (k : Nat) (F : f64_L) : Kont (RDL f64_rs) := ap T f64_Y (f64_E k) f64_A k (Kfin T f64_rs f64_ts) F
def f64_s_l0 (y2_0 : (List (Int × Int))) (y2_1 : (List (Int × (Int × (Int × Int))))) (y2_2 : (List (Int × Int))) (x13 : (List Int)) (x14 : Int) (x15 : Int) : St := mkS 29 96 [(2, aP 2), (13, aV (.int .i64) x13), (14, aI x14), (15, aI x15)] [(2, .box [cV Tq2 y2_0, cV Tq6 y2_1, cV Tq2 y2_2])]
abbrev f64_t_l0 := (List (Int × Int)) → (List (Int × (Int × (Int × Int)))) → (List (Int × Int)) → (List Int) → Int → Int → Option (Int × Unit)
abbrev f64_o_l0 (R : f64_S) : f64_t_l0 := (fun y2_0 y2_1 y2_2 x13 x14 x15 => R (f64_s_l0 y2_0 y2_1 y2_2 x13 x14 x15))
noncomputable def f64_Q_l0 (k : Nat) (R_l0 : f64_S) : f64_L := [.c (f64_p 116) 0, .j (fun σ => R_l0 (cut f64_A.loops 0 σ)), .blk 0, .c (f64_p 15) 0]
noncomputable def f64_C_l0 (k : Nat) (n : Nat) (σ : St) : Option (RDL f64_rs) := loopK (fun σ K => den T f64_Y (f64_E k) f64_A k (f64_p 116) 0 σ K) (cut f64_A.loops 0) (f64_a k [.blk 0, .c (f64_p 15) 0]) n σ
def f64_s_r7 (y2_0 : (List (Int × Int))) (y2_1 : (List (Int × (Int × (Int × Int))))) (y2_2 : (List (Int × Int))) (x13 : (List Int)) (x14 : Int) (x15 : Int) (x27 : Bool) : St := mkS 29 96 [(2, aP 2), (13, aV (.int .i64) x13), (14, aI x14), (15, aI x15), (27, aB x27)] [(2, .box [cV Tq2 y2_0, cV Tq6 y2_1, cV Tq2 y2_2])]
abbrev f64_t_r7 := (List (Int × Int)) → (List (Int × (Int × (Int × Int)))) → (List (Int × Int)) → (List Int) → Int → Int → Bool → Option (Int × Unit)
abbrev f64_o_r7 (R : f64_S) : f64_t_r7 := (fun y2_0 y2_1 y2_2 x13 x14 x15 x27 => R (f64_s_r7 y2_0 y2_1 y2_2 x13 x14 x15 x27))
noncomputable def f64_Q_r7 (k : Nat) (R_l0 : f64_S) : f64_L := [.c (f64_p 7475) 1, .blk 1, .c (f64_p 935) 0, .j (fun σ => R_l0 (cut f64_A.loops 0 σ)), .blk 0, .c (f64_p 15) 0]
noncomputable def f64_C_r7 (k : Nat) (R_l0 : f64_S) : f64_S := fun σ => f64_a k (f64_Q_r7 k R_l0) .nx σ
noncomputable def f64_F_r7 (k : Nat) (G_l0 : f64_S) : f64_L := .c (f64_p 7475) 1 :: .blk 1 :: .c (f64_p 935) 0 :: .j (fun σ => G_l0 (cut f64_A.loops 0 σ)) :: .blk 0 :: .c (f64_p 15) 0 :: []
theorem f64_f_r7 (k : Nat) (R_l0 : f64_S) : f64_a k (f64_Q_r7 k R_l0) = f64_a k (f64_F_r7 k R_l0) := (ap_cons _ (ap_cons _ (ap_cons _ (ap_cons _ (ap_cons _ (ap_cons _ rfl))))))
noncomputable def f64_F_l0 (k : Nat) (G_l0 G_r7 : f64_S) : f64_L := .c (f64_p 232) 0 :: .c (f64_p 466) 0 :: .j (fun σ => f64_a k (.c (f64_p 3736) 1 :: .c (f64_p 7474) 1 :: .j G_r7 :: f64_F_r7 k G_l0) .nx σ) :: .c (f64_p 935) 0 :: .j (fun σ => G_l0 (cut f64_A.loops 0 σ)) :: .blk 0 :: .c (f64_p 15) 0 :: []
theorem f64_f_l0 (k : Nat) (R_l0 : f64_S) : f64_a k (f64_Q_l0 k R_l0) = f64_a k (f64_F_l0 k R_l0 (f64_C_r7 k R_l0)) := (Eq.trans ap_sq (ap_cons _ (Eq.trans ap_sq (ap_cons _ (Eq.trans ap_sq (Eq.trans (ap_bl 1) (Eq.trans (ap_j (Eq.trans ap_sq (ap_cons _ (Eq.trans ap_sq (ap_cons _ (Eq.trans (ap_pass (C := (f64_C_r7 k R_l0)) (fun _ => rfl)) (ap_cons _ (f64_f_r7 k R_l0)))))))) (ap_cons _ (ap_cons _ (ap_cons _ (ap_cons _ (ap_cons _ rfl))))))))))))
def f64_entry_B (k : Nat) (g_l0 : f64_t_l0) (a0 : Td12) (a1 : (List Int)) : Option (Int × Unit) := ((f49 k (a0.1, (a0.2.1, a0.2.2))).bind fun r1 => (if ¬ (r1.1 = 0) then some (r1.1, ()) else (g_l0 a0.1 a0.2.1 a0.2.2 a1 (a1.length : Int) 0)))
def f64_l0_B (k : Nat) (g_r7 : f64_t_r7) (y2_0 : (List (Int × Int))) (y2_1 : (List (Int × (Int × (Int × Int))))) (y2_2 : (List (Int × Int))) (x13 : (List Int)) (x14 : Int) (x15 : Int) : Option (Int × Unit) := (if x15 < x14 then (if 0 ≤ x15 then (if x15 < (x13.length : Int) then (if (x13.getD (x15).toNat 0) < 0 then (g_r7 y2_0 y2_1 y2_2 x13 x14 x15 true) else (g_r7 y2_0 y2_1 y2_2 x13 x14 x15 (decide ((y2_0.length : Int) ≤ (x13.getD (x15).toNat 0))))) else none) else none) else some (0, ()))
def f64_r7_B (k : Nat) (g_l0 : f64_t_l0) (y2_0 : (List (Int × Int))) (y2_1 : (List (Int × (Int × (Int × Int))))) (y2_2 : (List (Int × Int))) (x13 : (List Int)) (x14 : Int) (x15 : Int) (x27 : Bool) : Option (Int × Unit) := (if x27 = true then some (1, ()) else (g_l0 y2_0 y2_1 y2_2 x13 x14 (w64 (x15 + 1))))
theorem f64_r7_P (k : Nat) (G_l0 : f64_S) : f64_o_r7 (fun σ => f64_a k (f64_F_r7 k G_l0) .nx σ) = f64_r7_B k (f64_o_l0 G_l0) := by kernel_rfl
def f64_r7 (k : Nat) (r_l0 : f64_t_l0) : f64_t_r7 := f64_r7_B k r_l0
theorem f64_r7_E (k : Nat) (R_l0 : f64_S) : f64_o_r7 (f64_C_r7 k R_l0) = f64_r7 k (f64_o_l0 R_l0) :=
  Eq.trans (congrArg f64_o_r7 (ap_fn (f64_f_r7 k R_l0))) ((f64_r7_P k R_l0).trans (by rfl))
theorem f64_l0_P (k : Nat) (G_l0 G_r7 : f64_S) : f64_o_l0 (fun σ => f64_a k (f64_F_l0 k G_l0 G_r7) .nx σ) = f64_l0_B k (f64_o_r7 G_r7) := by kernel_rfl
def f64_l0 (k : Nat) : Nat → f64_t_l0
  | 0 => fun _ _ _ _ _ _ => none
  | n + 1 => f64_l0_B k (f64_r7 k (f64_l0 k n))
theorem f64_l0_E (k : Nat) : ∀ n, f64_o_l0 (f64_C_l0 k n) = f64_l0 k n
  | 0 => rfl
  | n + 1 =>
    Eq.trans (congrArg f64_o_l0 (Eq.trans (b := fun σ => f64_a k (f64_Q_l0 k (f64_C_l0 k n)) .nx σ) (by kernel_rfl) (ap_fn (f64_f_l0 k (f64_C_l0 k n))))) ((f64_l0_P k (f64_C_l0 k n) (f64_C_r7 k (f64_C_l0 k n))).trans (by rw [f64_r7_E k (f64_C_l0 k n), f64_l0_E k n] <;> rfl))
theorem f64_entry_P (k : Nat) (G_l0 : f64_S) (xs : DL f64_sig) : f64_a k (.c (f64_p 2) 0 :: .c (f64_p 6) 0 :: .c (f64_p 28) 0 :: .j (fun σ => f64_a k (.j (fun σ => G_l0 (cut f64_A.loops 0 σ)) :: .blk 0 :: .c (f64_p 15) 0 :: []) .nx σ) :: .c (f64_p 15) 0 :: []) .nx (σ0 29 96 f64_sig xs) = f64_entry_B k (f64_o_l0 G_l0) xs.1 xs.2.1 := by kernel_rfl
def f64 (k : Nat) (a0 : Td12) (a1 : (List Int)) : Option (Int × Unit) := f64_entry_B k (f64_l0 k k) a0 a1
theorem f64_fe (k : Nat) : f64_a k [.c (f64_p 1) 0] = f64_a k (.c (f64_p 2) 0 :: .c (f64_p 6) 0 :: .c (f64_p 28) 0 :: .j (fun σ => f64_a k (.j (fun σ => (f64_C_l0 k k) (cut f64_A.loops 0 σ)) :: .blk 0 :: .c (f64_p 15) 0 :: []) .nx σ) :: .c (f64_p 15) 0 :: []) := (Eq.trans ap_sq (ap_cons _ (Eq.trans ap_sq (ap_cons _ (Eq.trans ap_sq (Eq.trans ap_sq (ap_cons _ (Eq.trans (ap_bl 0) (Eq.trans (ap_j (Eq.trans (ap_lp (C := (f64_C_l0 k)) (fun _ _ => rfl)) (ap_cons _ (ap_cons _ (ap_cons _ rfl))))) (ap_cons _ (ap_cons _ rfl)))))))))))
theorem f64_eq (k : Nat) (xs : DL f64_sig) : den T f64_Y (f64_E k) f64_A k f64_c 0 (σ0 29 96 f64_sig xs) (Kfin T f64_rs f64_ts) = f64 k xs.1 xs.2.1 :=
  Eq.trans (Eq.trans den_sb (ap_at (f64_fe k) _)) ((f64_entry_P k (f64_C_l0 k k) xs).trans (by rw [f64_l0_E k k] <;> rfl))
noncomputable def f64_con (k : Nat) : Con := ⟨f64_sig, f64_rs, fun xs => f64 k xs.1 xs.2.1⟩
theorem f64_ok (k : Nat) : PureOK Try.prog 64 f64_sig f64_rs (fun xs => f64 k xs.1 xs.2.1) :=
  (pure_of_den (k := k) (A := f64_A) (T := T) (Y := f64_Y) (E := f64_E k) (M := 96) (ts := f64_ts) T_ok ⟨f49_ok k, trivial⟩ ⟨f49_ent, trivial⟩ mixed (f := 64) (fn := Try.f64) (c := f64_c) (by kernel_rfl) (by kernel_rfl) (by kernel_rfl) (by decide) (by kernel_rfl)).congr fun xs => (f64_eq k xs).symm
theorem f64_ent : Ent Try.prog 64 := fun args w => by kernel_rfl
/-! ### terrier/iso.Parts: function 40 -/
noncomputable def f40_c : Code := Try.f40.body.getD .skip
noncomputable abbrev f40_p (n : Nat) : Code := sb f40_c n
abbrev f40_sig : List PT := [(true, Tq9), (false, (.int .i64)), (false, (.int .i64))]
abbrev f40_rs : List RT := [.new Tq2, .d false (.int .i64)]
abbrev f40_ts : List RV := [.tmp 6, .tmp 7]
abbrev f40_S := St → Option (RDL f40_rs)
abbrev f40_L := List (Fr (RDL f40_rs))
def f40_Y : Tys := [(3, (.int .i64)), (72, Tq2)]
noncomputable def f40_E (k : Nat) : Env := [(29, .c (f29_con k)), (64, .c (f64_con k))]
def f40_A : Ann := { loops := [(0, { mat := [(9, 57, Tq2)], slots := [(2, .id), (3, .id), (9, .id), (22, .id), (23, .id), (24, .id)], keys := [(3, [.val false Tq2, .val false Tq6, .val false Tq2]), (22, []), (57, [])] })], regs := [(9, { mat := [(9, 57, Tq2)], slots := [(2, .id), (3, .id), (9, .id), (10, .id), (11, .id), (12, .id), (22, .id), (23, .id), (24, .id), (43, .bool)], keys := [(3, [.val false Tq2, .val false Tq6, .val false Tq2]), (12, []), (22, []), (57, [])] })], blks := [(1, { mat := [(9, 57, Tq2)], slots := [(2, .id), (3, .id), (9, .id), (22, .id), (23, .id), (24, .id)], keys := [(3, [.val false Tq2, .val false Tq6, .val false Tq2]), (22, []), (57, [])] })] }
noncomputable abbrev f40_a (k : Nat) (F : f40_L) : Kont (RDL f40_rs) := ap T f40_Y (f40_E k) f40_A k (Kfin T f40_rs f40_ts) F
def f40_s_l0 (y22 : (List Int)) (y3_0 : (List (Int × Int))) (y3_1 : (List (Int × (Int × (Int × Int))))) (y3_2 : (List (Int × Int))) (y57 : (List (Int × Int))) (x2 : Int) (x23 : Int) (x24 : Int) : St := mkS 60 192 [(2, aI x2), (3, aP 3), (9, aO 57), (22, aO 22), (23, aI x23), (24, aI x24)] [(3, .box [cV Tq2 y3_0, cV Tq6 y3_1, cV Tq2 y3_2]), (22, .vec (.int .i64) y22), (57, .vec Tq2 y57)]
abbrev f40_t_l0 := (List Int) → (List (Int × Int)) → (List (Int × (Int × (Int × Int)))) → (List (Int × Int)) → (List (Int × Int)) → Int → Int → Int → Option ((List (Int × Int)) × Int × Unit)
abbrev f40_o_l0 (R : f40_S) : f40_t_l0 := (fun y22 y3_0 y3_1 y3_2 y57 x2 x23 x24 => R (f40_s_l0 y22 y3_0 y3_1 y3_2 y57 x2 x23 x24))
noncomputable def f40_Q_l0 (k : Nat) (R_l0 : f40_S) : f40_L := [.c (f40_p 244) 0, .j (fun σ => R_l0 (cut f40_A.loops 0 σ)), .blk 0, .c (f40_p 31) 0]
noncomputable def f40_C_l0 (k : Nat) (n : Nat) (σ : St) : Option (RDL f40_rs) := loopK (fun σ K => den T f40_Y (f40_E k) f40_A k (f40_p 244) 0 σ K) (cut f40_A.loops 0) (f40_a k [.blk 0, .c (f40_p 31) 0]) n σ
def f40_s_r9 (y12_0 : Int) (y12_1 : Int) (y12_2 : Int) (y12_3 : Int) (y22 : (List Int)) (y3_0 : (List (Int × Int))) (y3_1 : (List (Int × (Int × (Int × Int))))) (y3_2 : (List (Int × Int))) (y57 : (List (Int × Int))) (x10 : Int) (x11 : Int) (x2 : Int) (x23 : Int) (x43 : Bool) : St := mkS 60 192 [(2, aI x2), (3, aP 3), (9, aO 57), (10, aI x10), (11, aI x11), (12, aP 12), (22, aO 22), (23, aI x23), (24, aI x10), (43, aB x43)] [(3, .box [cV Tq2 y3_0, cV Tq6 y3_1, cV Tq2 y3_2]), (12, .box [cI y12_0, cI y12_1, cI y12_2, cI y12_3]), (22, .vec (.int .i64) y22), (57, .vec Tq2 y57)]
abbrev f40_t_r9 := Int → Int → Int → Int → (List Int) → (List (Int × Int)) → (List (Int × (Int × (Int × Int)))) → (List (Int × Int)) → (List (Int × Int)) → Int → Int → Int → Int → Bool → Option ((List (Int × Int)) × Int × Unit)
abbrev f40_o_r9 (R : f40_S) : f40_t_r9 := (fun y12_0 y12_1 y12_2 y12_3 y22 y3_0 y3_1 y3_2 y57 x10 x11 x2 x23 x43 => R (f40_s_r9 y12_0 y12_1 y12_2 y12_3 y22 y3_0 y3_1 y3_2 y57 x10 x11 x2 x23 x43))
noncomputable def f40_Q_r9 (k : Nat) (R_l0 : f40_S) : f40_L := [.c (f40_p 62669) 1, .c (f40_p 31335) 1, .blk 1, .c (f40_p 1959) 0, .j (fun σ => R_l0 (cut f40_A.loops 0 σ)), .blk 0, .c (f40_p 31) 0]
noncomputable def f40_C_r9 (k : Nat) (R_l0 : f40_S) : f40_S := fun σ => f40_a k (f40_Q_r9 k R_l0) .nx σ
def f40_s_b1 (y22 : (List Int)) (y3_0 : (List (Int × Int))) (y3_1 : (List (Int × (Int × (Int × Int))))) (y3_2 : (List (Int × Int))) (y57 : (List (Int × Int))) (x2 : Int) (x23 : Int) (x24 : Int) : St := mkS 60 192 [(2, aI x2), (3, aP 3), (9, aO 57), (22, aO 22), (23, aI x23), (24, aI x24)] [(3, .box [cV Tq2 y3_0, cV Tq6 y3_1, cV Tq2 y3_2]), (22, .vec (.int .i64) y22), (57, .vec Tq2 y57)]
abbrev f40_t_b1 := (List Int) → (List (Int × Int)) → (List (Int × (Int × (Int × Int)))) → (List (Int × Int)) → (List (Int × Int)) → Int → Int → Int → Option ((List (Int × Int)) × Int × Unit)
abbrev f40_o_b1 (R : f40_S) : f40_t_b1 := (fun y22 y3_0 y3_1 y3_2 y57 x2 x23 x24 => R (f40_s_b1 y22 y3_0 y3_1 y3_2 y57 x2 x23 x24))
noncomputable def f40_Q_b1 (k : Nat) (R_l0 : f40_S) : f40_L := [.c (f40_p 1959) 0, .j (fun σ => R_l0 (cut f40_A.loops 0 σ)), .blk 0, .c (f40_p 31) 0]
noncomputable def f40_C_b1 (k : Nat) (R_l0 : f40_S) : f40_S := fun σ => f40_a k (f40_Q_b1 k R_l0) .nx σ
noncomputable def f40_F_b1 (k : Nat) (G_l0 : f40_S) : f40_L := .c (f40_p 1959) 0 :: .j (fun σ => G_l0 (cut f40_A.loops 0 σ)) :: .blk 0 :: .c (f40_p 31) 0 :: []
theorem f40_f_b1 (k : Nat) (R_l0 : f40_S) : f40_a k (f40_Q_b1 k R_l0) = f40_a k (f40_F_b1 k R_l0) := (ap_cons _ (ap_cons _ (ap_cons _ (ap_cons _ rfl))))
noncomputable def f40_F_r9 (k : Nat) (G_l0 G_b1 : f40_S) : f40_L := .c (f40_p 62669) 1 :: .c (f40_p 31335) 1 :: .b 1 (fun σ => G_b1 (cut f40_A.blks 1 σ)) :: f40_F_b1 k G_l0
theorem f40_f_r9 (k : Nat) (R_l0 : f40_S) : f40_a k (f40_Q_r9 k R_l0) = f40_a k (f40_F_r9 k R_l0 (f40_C_b1 k R_l0)) := (ap_cons _ (ap_cons _ (Eq.trans (ap_blkb (C := (f40_C_b1 k R_l0)) (fun _ => rfl)) (ap_cons _ (f40_f_b1 k R_l0)))))
noncomputable def f40_F_l0 (k : Nat) (G_l0 G_r9 G_b1 : f40_S) : f40_L := .c (f40_p 488) 0 :: .c (f40_p 978) 0 :: .j (fun σ => f40_a k (.c (f40_p 7832) 1 :: .c (f40_p 15666) 1 :: .c (f40_p 62668) 1 :: .j G_r9 :: f40_F_r9 k G_l0 G_b1) .nx σ) :: f40_F_b1 k G_l0
theorem f40_f_l0 (k : Nat) (R_l0 : f40_S) : f40_a k (f40_Q_l0 k R_l0) = f40_a k (f40_F_l0 k R_l0 (f40_C_r9 k R_l0) (f40_C_b1 k R_l0)) := (Eq.trans ap_sq (ap_cons _ (Eq.trans ap_sq (ap_cons _ (Eq.trans ap_sq (Eq.trans (ap_bl 1) (Eq.trans (ap_j (Eq.trans ap_sq (ap_cons _ (Eq.trans ap_sq (ap_cons _ (Eq.trans ap_sq (Eq.trans ap_sq (ap_cons _ (Eq.trans (ap_pass (C := (f40_C_r9 k R_l0)) (fun _ => rfl)) (ap_cons _ (f40_f_r9 k R_l0))))))))))) (ap_cons _ (f40_f_b1 k R_l0)))))))))
def f40_entry_B (k : Nat) (g_l0 : f40_t_l0) (a0 : Td12) (a1 : Int) (a2 : Int) : Option ((List (Int × Int)) × Int × Unit) := ((f64 k (a0.1, (a0.2.1, a0.2.2)) ([a1])).bind fun r1 => (if ¬ (r1.1 = 0) then some ([], r1.1, ()) else ((f29 k (a0.1, (a0.2.1, a0.2.2)) a1).bind fun r2 => (g_l0 r2.1 a0.1 a0.2.1 a0.2.2 ([] : List (Int × Int)) a2 (r2.1.length : Int) 0))))
def f40_l0_B (k : Nat) (g_r9 : f40_t_r9) (y22 : (List Int)) (y3_0 : (List (Int × Int))) (y3_1 : (List (Int × (Int × (Int × Int))))) (y3_2 : (List (Int × Int))) (y57 : (List (Int × Int))) (x2 : Int) (x23 : Int) (x24 : Int) : Option ((List (Int × Int)) × Int × Unit) := (if x24 < x23 then (if 0 ≤ x24 then (if x24 < (y22.length : Int) then (if 0 ≤ x24 then (if x24 < (y3_1.length : Int) then (if (y22.getD ((x24).toNat) 0) < 0 then (g_r9 ((y3_1.getD (x24).toNat (0, (0, (0, 0)))).1) (((y3_1.getD (x24).toNat (0, (0, (0, 0)))).2).1) ((((y3_1.getD (x24).toNat (0, (0, (0, 0)))).2).2).1) ((((y3_1.getD (x24).toNat (0, (0, (0, 0)))).2).2).2) y22 y3_0 y3_1 y3_2 y57 x24 (y22.getD ((x24).toNat) 0) x2 x23 true) else (g_r9 ((y3_1.getD (x24).toNat (0, (0, (0, 0)))).1) (((y3_1.getD (x24).toNat (0, (0, (0, 0)))).2).1) ((((y3_1.getD (x24).toNat (0, (0, (0, 0)))).2).2).1) ((((y3_1.getD (x24).toNat (0, (0, (0, 0)))).2).2).2) y22 y3_0 y3_1 y3_2 y57 x24 (y22.getD ((x24).toNat) 0) x2 x23 (decide (x2 < (w64 ((y22.getD ((x24).toNat) 0) - ((((y3_1.getD (x24).toNat (0, (0, (0, 0)))).2).2).1))))))) else none) else none) else none) else none) else some (y57, 0, ()))
def f40_r9_B (k : Nat) (g_b1 : f40_t_b1) (y12_0 : Int) (y12_1 : Int) (y12_2 : Int) (y12_3 : Int) (y22 : (List Int)) (y3_0 : (List (Int × Int))) (y3_1 : (List (Int × (Int × (Int × Int))))) (y3_2 : (List (Int × Int))) (y57 : (List (Int × Int))) (x10 : Int) (x11 : Int) (x2 : Int) (x23 : Int) (x43 : Bool) : Option ((List (Int × Int)) × Int × Unit) := (if x43 = true then (g_b1 y22 y3_0 y3_1 y3_2 y57 x2 x23 x10) else (if (y57.length + 1) * 16 ≤ 140737488355328 then (g_b1 y22 y3_0 y3_1 y3_2 (y57 ++ [(x10, (mx2 false y12_2 (w64 (x2 - (w64 (x11 - y12_2))))))]) x2 x23 x10) else none))
def f40_b1_B (k : Nat) (g_l0 : f40_t_l0) (y22 : (List Int)) (y3_0 : (List (Int × Int))) (y3_1 : (List (Int × (Int × (Int × Int))))) (y3_2 : (List (Int × Int))) (y57 : (List (Int × Int))) (x2 : Int) (x23 : Int) (x24 : Int) : Option ((List (Int × Int)) × Int × Unit) := (g_l0 y22 y3_0 y3_1 y3_2 y57 x2 x23 (w64 (x24 + 1)))
theorem f40_b1_P (k : Nat) (G_l0 : f40_S) : f40_o_b1 (fun σ => f40_a k (f40_F_b1 k G_l0) .nx σ) = f40_b1_B k (f40_o_l0 G_l0) := by kernel_rfl
def f40_b1 (k : Nat) (r_l0 : f40_t_l0) : f40_t_b1 := f40_b1_B k r_l0
theorem f40_b1_E (k : Nat) (R_l0 : f40_S) : f40_o_b1 (f40_C_b1 k R_l0) = f40_b1 k (f40_o_l0 R_l0) :=
  Eq.trans (congrArg f40_o_b1 (ap_fn (f40_f_b1 k R_l0))) ((f40_b1_P k R_l0).trans (by rfl))
theorem f40_r9_P (k : Nat) (G_l0 G_b1 : f40_S) : f40_o_r9 (fun σ => f40_a k (f40_F_r9 k G_l0 G_b1) .nx σ) = f40_r9_B k (f40_o_b1 G_b1) := by kernel_rfl
def f40_r9 (k : Nat) (r_l0 : f40_t_l0) : f40_t_r9 := f40_r9_B k (f40_b1 k r_l0)
theorem f40_r9_E (k : Nat) (R_l0 : f40_S) : f40_o_r9 (f40_C_r9 k R_l0) = f40_r9 k (f40_o_l0 R_l0) :=
  Eq.trans (congrArg f40_o_r9 (ap_fn (f40_f_r9 k R_l0))) ((f40_r9_P k R_l0 (f40_C_b1 k R_l0)).trans (by rw [f40_b1_E k R_l0] <;> rfl))
theorem f40_l0_P (k : Nat) (G_l0 G_r9 G_b1 : f40_S) : f40_o_l0 (fun σ => f40_a k (f40_F_l0 k G_l0 G_r9 G_b1) .nx σ) = f40_l0_B k (f40_o_r9 G_r9) := by kernel_rfl
def f40_l0 (k : Nat) : Nat → f40_t_l0
  | 0 => fun _ _ _ _ _ _ _ _ => none
  | n + 1 => f40_l0_B k (f40_r9 k (f40_l0 k n))
theorem f40_l0_E (k : Nat) : ∀ n, f40_o_l0 (f40_C_l0 k n) = f40_l0 k n
  | 0 => rfl
  | n + 1 =>
    Eq.trans (congrArg f40_o_l0 (Eq.trans (b := fun σ => f40_a k (f40_Q_l0 k (f40_C_l0 k n)) .nx σ) (by kernel_rfl) (ap_fn (f40_f_l0 k (f40_C_l0 k n))))) ((f40_l0_P k (f40_C_l0 k n) (f40_C_r9 k (f40_C_l0 k n)) (f40_C_b1 k (f40_C_l0 k n))).trans (by rw [f40_r9_E k (f40_C_l0 k n), f40_l0_E k n] <;> rfl))
theorem f40_entry_P (k : Nat) (G_l0 : f40_S) (xs : DL f40_sig) : f40_a k (.c (f40_p 2) 0 :: .c (f40_p 6) 0 :: .c (f40_p 14) 0 :: .c (f40_p 60) 0 :: .j (fun σ => f40_a k (.j (fun σ => G_l0 (cut f40_A.loops 0 σ)) :: .blk 0 :: .c (f40_p 31) 0 :: []) .nx σ) :: .c (f40_p 31) 0 :: []) .nx (σ0 60 192 f40_sig xs) = f40_entry_B k (f40_o_l0 G_l0) xs.1 xs.2.1 xs.2.2.1 := by kernel_rfl
def f40 (k : Nat) (a0 : Td12) (a1 : Int) (a2 : Int) : Option ((List (Int × Int)) × Int × Unit) := f40_entry_B k (f40_l0 k k) a0 a1 a2
theorem f40_fe (k : Nat) : f40_a k [.c (f40_p 1) 0] = f40_a k (.c (f40_p 2) 0 :: .c (f40_p 6) 0 :: .c (f40_p 14) 0 :: .c (f40_p 60) 0 :: .j (fun σ => f40_a k (.j (fun σ => (f40_C_l0 k k) (cut f40_A.loops 0 σ)) :: .blk 0 :: .c (f40_p 31) 0 :: []) .nx σ) :: .c (f40_p 31) 0 :: []) := (Eq.trans ap_sq (ap_cons _ (Eq.trans ap_sq (ap_cons _ (Eq.trans ap_sq (ap_cons _ (Eq.trans ap_sq (Eq.trans ap_sq (ap_cons _ (Eq.trans (ap_bl 0) (Eq.trans (ap_j (Eq.trans (ap_lp (C := (f40_C_l0 k)) (fun _ _ => rfl)) (ap_cons _ (ap_cons _ (ap_cons _ rfl))))) (ap_cons _ (ap_cons _ rfl)))))))))))))
theorem f40_eq (k : Nat) (xs : DL f40_sig) : den T f40_Y (f40_E k) f40_A k f40_c 0 (σ0 60 192 f40_sig xs) (Kfin T f40_rs f40_ts) = f40 k xs.1 xs.2.1 xs.2.2.1 :=
  Eq.trans (Eq.trans den_sb (ap_at (f40_fe k) _)) ((f40_entry_P k (f40_C_l0 k k) xs).trans (by rw [f40_l0_E k k] <;> rfl))
noncomputable def f40_con (k : Nat) : Con := ⟨f40_sig, f40_rs, fun xs => f40 k xs.1 xs.2.1 xs.2.2.1⟩
theorem f40_ok (k : Nat) : PureOK Try.prog 40 f40_sig f40_rs (fun xs => f40 k xs.1 xs.2.1 xs.2.2.1) :=
  (pure_of_den (k := k) (A := f40_A) (T := T) (Y := f40_Y) (E := f40_E k) (M := 192) (ts := f40_ts) T_ok ⟨f29_ok k, f64_ok k, trivial⟩ ⟨f29_ent, f64_ent, trivial⟩ mixed (f := 40) (fn := Try.f40) (c := f40_c) (by kernel_rfl) (by kernel_rfl) (by kernel_rfl) (by decide) (by kernel_rfl)).congr fun xs => (f40_eq k xs).symm
theorem f40_ent : Ent Try.prog 40 := fun args w => by kernel_rfl
/-! ### terrier/terrkeep4.pair: function 51 -/
noncomputable def f51_c : Code := Try.f51.body.getD .skip
noncomputable abbrev f51_p (n : Nat) : Code := sb f51_c n
abbrev f51_sig : List PT := []
abbrev f51_rs : List RT := [.d true Tq9]
abbrev f51_ts : List RV := [.cell 0 27]
abbrev f51_S := St → Option (RDL f51_rs)
abbrev f51_L := List (Fr (RDL f51_rs))
def f51_Y : Tys := [(36, Tq2), (39, Tq6)]
noncomputable def f51_E (k : Nat) : Env := []
def f51_A : Ann := {}
noncomputable abbrev f51_a (k : Nat) (F : f51_L) : Kont (RDL f51_rs) := ap T f51_Y (f51_E k) f51_A k (Kfin T f51_rs f51_ts) F
def f51_entry_B (k : Nat)  : Option (Td12 × Unit) := some (([(0, 0), (1, 0)], ([(0, (1, (7, 0)))], [])), ())
theorem f51_entry_P (k : Nat) (xs : DL f51_sig) : f51_a k (.c (f51_p 1) 0 :: []) .nx (σ0 7 32 f51_sig xs) = f51_entry_B k  := by kernel_rfl
def f51 (k : Nat)  : Option (Td12 × Unit) := f51_entry_B k 
theorem f51_eq (k : Nat) (xs : DL f51_sig) : den T f51_Y (f51_E k) f51_A k f51_c 0 (σ0 7 32 f51_sig xs) (Kfin T f51_rs f51_ts) = f51 k  :=
  Eq.trans (Eq.trans den_sb (ap_at (ap_cons _ rfl) _)) ((f51_entry_P k xs).trans (by rfl))
noncomputable def f51_con (k : Nat) : Con := ⟨f51_sig, f51_rs, fun xs => f51 k ⟩
theorem f51_ok (k : Nat) : PureOK Try.prog 51 f51_sig f51_rs (fun xs => f51 k ) :=
  (pure_of_den (k := k) (A := f51_A) (T := T) (Y := f51_Y) (E := f51_E k) (M := 32) (ts := f51_ts) T_ok trivial trivial mixed (f := 51) (fn := Try.f51) (c := f51_c) (by kernel_rfl) (by kernel_rfl) (by kernel_rfl) (by decide) (by kernel_rfl)).congr fun xs => (f51_eq k xs).symm
theorem f51_ent : Ent Try.prog 51 := fun args w => by kernel_rfl
/-! ### slices.Equal[[]terrier/iso.Part,terrier/iso.Part]: function 65 -/
noncomputable def f65_c : Code := Try.f65.body.getD .skip
noncomputable abbrev f65_p (n : Nat) : Code := sb f65_c n
abbrev f65_sig : List PT := [(false, Tq3), (false, Tq3)]
abbrev f65_rs : List RT := [.d false .bool]
abbrev f65_ts : List RV := [.tmp 4]
abbrev f65_S := St → Option (RDL f65_rs)
abbrev f65_L := List (Fr (RDL f65_rs))
def f65_Y : Tys := []
noncomputable def f65_E (k : Nat) : Env := []
def f65_A : Ann := { loops := [(0, { slots := [(0, .val false Tq2), (1, .val false Tq2), (12, .id), (13, .id)] })] }
noncomputable abbrev f65_a (k : Nat) (F : f65_L) : Kont (RDL f65_rs) := ap T f65_Y (f65_E k) f65_A k (Kfin T f65_rs f65_ts) F
def f65_s_l0 (x0 : (List (Int × Int))) (x1 : (List (Int × Int))) (x12 : Int) (x13 : Int) : St := mkS 26 80 [(0, aV Tq2 x0), (1, aV Tq2 x1), (12, aI x12), (13, aI x13)] []
abbrev f65_t_l0 := (List (Int × Int)) → (List (Int × Int)) → Int → Int → Option (Bool × Unit)
abbrev f65_o_l0 (R : f65_S) : f65_t_l0 := (fun x0 x1 x12 x13 => R (f65_s_l0 x0 x1 x12 x13))
noncomputable def f65_Q_l0 (k : Nat) (R_l0 : f65_S) : f65_L := [.c (f65_p 116) 0, .j (fun σ => R_l0 (cut f65_A.loops 0 σ)), .blk 0, .c (f65_p 15) 0]
noncomputable def f65_C_l0 (k : Nat) (n : Nat) (σ : St) : Option (RDL f65_rs) := loopK (fun σ K => den T f65_Y (f65_E k) f65_A k (f65_p 116) 0 σ K) (cut f65_A.loops 0) (f65_a k [.blk 0, .c (f65_p 15) 0]) n σ
noncomputable def f65_F_l0 (k : Nat) (G_l0 : f65_S) : f65_L := .c (f65_p 116) 0 :: .j (fun σ => G_l0 (cut f65_A.loops 0 σ)) :: .blk 0 :: .c (f65_p 15) 0 :: []
theorem f65_f_l0 (k : Nat) (R_l0 : f65_S) : f65_a k (f65_Q_l0 k R_l0) = f65_a k (f65_F_l0 k R_l0) := (ap_cons _ (ap_cons _ (ap_cons _ (ap_cons _ rfl))))
def f65_entry_B (k : Nat) (g_l0 : f65_t_l0) (a0 : Td4) (a1 : Td4) : Option (Bool × Unit) := (if ¬ ((a0.length : Int) = (a1.length : Int)) then some (false, ()) else (g_l0 a0 a1 (a0.length : Int) 0))
def f65_l0_B (k : Nat) (g_l0 : f65_t_l0) (x0 : (List (Int × Int))) (x1 : (List (Int × Int))) (x12 : Int) (x13 : Int) : Option (Bool × Unit) := (if x13 < x12 then (if 0 ≤ x13 then (if x13 < (x0.length : Int) then (if 0 ≤ x13 then (if x13 < (x1.length : Int) then (if ¬ ((((x0.getD (x13).toNat (0, 0)).1) = ((x1.getD (x13).toNat (0, 0)).1)) ∧ (((x0.getD (x13).toNat (0, 0)).2) = ((x1.getD (x13).toNat (0, 0)).2))) then some (false, ()) else (g_l0 x0 x1 x12 (w64 (x13 + 1)))) else none) else none) else none) else none) else some (true, ()))
theorem f65_l0_P (k : Nat) (G_l0 : f65_S) : f65_o_l0 (fun σ => f65_a k (f65_F_l0 k G_l0) .nx σ) = f65_l0_B k (f65_o_l0 G_l0) := by kernel_rfl
def f65_l0 (k : Nat) : Nat → f65_t_l0
  | 0 => fun _ _ _ _ => none
  | n + 1 => f65_l0_B k (f65_l0 k n)
theorem f65_l0_E (k : Nat) : ∀ n, f65_o_l0 (f65_C_l0 k n) = f65_l0 k n
  | 0 => rfl
  | n + 1 =>
    Eq.trans (congrArg f65_o_l0 (Eq.trans (b := fun σ => f65_a k (f65_Q_l0 k (f65_C_l0 k n)) .nx σ) (by kernel_rfl) (ap_fn (f65_f_l0 k (f65_C_l0 k n))))) ((f65_l0_P k (f65_C_l0 k n)).trans (by rw [f65_l0_E k n] <;> rfl))
theorem f65_entry_P (k : Nat) (G_l0 : f65_S) (xs : DL f65_sig) : f65_a k (.c (f65_p 2) 0 :: .c (f65_p 6) 0 :: .c (f65_p 28) 0 :: .j (fun σ => f65_a k (.j (fun σ => G_l0 (cut f65_A.loops 0 σ)) :: .blk 0 :: .c (f65_p 15) 0 :: []) .nx σ) :: .c (f65_p 15) 0 :: []) .nx (σ0 26 80 f65_sig xs) = f65_entry_B k (f65_o_l0 G_l0) xs.1 xs.2.1 := by kernel_rfl
def f65 (k : Nat) (a0 : Td4) (a1 : Td4) : Option (Bool × Unit) := f65_entry_B k (f65_l0 k k) a0 a1
theorem f65_fe (k : Nat) : f65_a k [.c (f65_p 1) 0] = f65_a k (.c (f65_p 2) 0 :: .c (f65_p 6) 0 :: .c (f65_p 28) 0 :: .j (fun σ => f65_a k (.j (fun σ => (f65_C_l0 k k) (cut f65_A.loops 0 σ)) :: .blk 0 :: .c (f65_p 15) 0 :: []) .nx σ) :: .c (f65_p 15) 0 :: []) := (Eq.trans ap_sq (ap_cons _ (Eq.trans ap_sq (ap_cons _ (Eq.trans ap_sq (Eq.trans ap_sq (ap_cons _ (Eq.trans (ap_bl 0) (Eq.trans (ap_j (Eq.trans (ap_lp (C := (f65_C_l0 k)) (fun _ _ => rfl)) (ap_cons _ (ap_cons _ (ap_cons _ rfl))))) (ap_cons _ (ap_cons _ rfl)))))))))))
theorem f65_eq (k : Nat) (xs : DL f65_sig) : den T f65_Y (f65_E k) f65_A k f65_c 0 (σ0 26 80 f65_sig xs) (Kfin T f65_rs f65_ts) = f65 k xs.1 xs.2.1 :=
  Eq.trans (Eq.trans den_sb (ap_at (f65_fe k) _)) ((f65_entry_P k (f65_C_l0 k k) xs).trans (by rw [f65_l0_E k k] <;> rfl))
noncomputable def f65_con (k : Nat) : Con := ⟨f65_sig, f65_rs, fun xs => f65 k xs.1 xs.2.1⟩
theorem f65_ok (k : Nat) : PureOK Try.prog 65 f65_sig f65_rs (fun xs => f65 k xs.1 xs.2.1) :=
  (pure_of_den (k := k) (A := f65_A) (T := T) (Y := f65_Y) (E := f65_E k) (M := 80) (ts := f65_ts) T_ok trivial trivial mixed (f := 65) (fn := Try.f65) (c := f65_c) (by kernel_rfl) (by kernel_rfl) (by kernel_rfl) (by decide) (by kernel_rfl)).congr fun xs => (f65_eq k xs).symm
theorem f65_ent : Ent Try.prog 65 := fun args w => by kernel_rfl
/-! ### terrier/terrkeep4.reached: function 37 -/
noncomputable def f37_c : Code := Try.f37.body.getD .skip
noncomputable abbrev f37_p (n : Nat) : Code := sb f37_c n
abbrev f37_sig : List PT := []
abbrev f37_rs : List RT := [.d false .bool]
abbrev f37_ts : List RV := [.tmp 0]
abbrev f37_S := St → Option (RDL f37_rs)
abbrev f37_L := List (Fr (RDL f37_rs))
def f37_Y : Tys := [(72, Tq2)]
noncomputable def f37_E (k : Nat) : Env := [(40, .c (f40_con k)), (51, .c (f51_con k)), (65, .c (f65_con k))]
def f37_A : Ann := { regs := [(2, { slots := [(0, .bool)] })] }
noncomputable abbrev f37_a (k : Nat) (F : f37_L) : Kont (RDL f37_rs) := ap T f37_Y (f37_E k) f37_A k (Kfin T f37_rs f37_ts) F
def f37_s_r2 (x0 : Bool) : St := mkS 16 48 [(0, aB x0)] []
abbrev f37_t_r2 := Bool → Option (Bool × Unit)
abbrev f37_o_r2 (R : f37_S) : f37_t_r2 := (fun x0 => R (f37_s_r2 x0))
noncomputable def f37_Q_r2 (k : Nat) : f37_L := [.c (f37_p 15) 0]
noncomputable def f37_C_r2 (k : Nat) : f37_S := fun σ => f37_a k (f37_Q_r2 k) .nx σ
noncomputable def f37_F_r2 (k : Nat) : f37_L := .c (f37_p 15) 0 :: []
theorem f37_f_r2 (k : Nat) : f37_a k (f37_Q_r2 k) = f37_a k (f37_F_r2 k) := (ap_cons _ rfl)
def f37_entry_B (k : Nat) (g_r2 : f37_t_r2)  : Option (Bool × Unit) := ((f51 k ).bind fun r1 => ((f40 k (r1.1.1, (r1.1.2.1, r1.1.2.2)) 0 4).bind fun r2 => (if r2.2.1 = 0 then ((f65 k r2.1 ([(0, 4)])).bind fun r3 => (g_r2 (decide (r3.1 = true)))) else (g_r2 false))))
def f37_r2_B (k : Nat) (x0 : Bool) : Option (Bool × Unit) := some (decide (x0 = true), ())
theorem f37_r2_P (k : Nat) : f37_o_r2 (fun σ => f37_a k (f37_F_r2 k) .nx σ) = f37_r2_B k := by kernel_rfl
def f37_r2 (k : Nat) : f37_t_r2 := f37_r2_B k
theorem f37_r2_E (k : Nat) : f37_o_r2 (f37_C_r2 k) = f37_r2 k :=
  Eq.trans (congrArg f37_o_r2 (ap_fn (f37_f_r2 k))) ((f37_r2_P k).trans (by rfl))
theorem f37_entry_P (k : Nat) (G_r2 : f37_S) (xs : DL f37_sig) : f37_a k (.c (f37_p 2) 0 :: .c (f37_p 6) 0 :: .c (f37_p 14) 0 :: .j G_r2 :: f37_F_r2 k) .nx (σ0 16 48 f37_sig xs) = f37_entry_B k (f37_o_r2 G_r2)  := by kernel_rfl
def f37 (k : Nat)  : Option (Bool × Unit) := f37_entry_B k (f37_r2 k) 
theorem f37_fe (k : Nat) : f37_a k [.c (f37_p 1) 0] = f37_a k (.c (f37_p 2) 0 :: .c (f37_p 6) 0 :: .c (f37_p 14) 0 :: .j (f37_C_r2 k) :: f37_F_r2 k) := (Eq.trans ap_sq (ap_cons _ (Eq.trans ap_sq (ap_cons _ (Eq.trans ap_sq (ap_cons _ (Eq.trans (ap_pass (C := (f37_C_r2 k)) (fun _ => rfl)) (ap_cons _ (f37_f_r2 k)))))))))
theorem f37_eq (k : Nat) (xs : DL f37_sig) : den T f37_Y (f37_E k) f37_A k f37_c 0 (σ0 16 48 f37_sig xs) (Kfin T f37_rs f37_ts) = f37 k  :=
  Eq.trans (Eq.trans den_sb (ap_at (f37_fe k) _)) ((f37_entry_P k (f37_C_r2 k) xs).trans (by rw [f37_r2_E k] <;> rfl))
noncomputable def f37_con (k : Nat) : Con := ⟨f37_sig, f37_rs, fun xs => f37 k ⟩
theorem f37_ok (k : Nat) : PureOK Try.prog 37 f37_sig f37_rs (fun xs => f37 k ) :=
  (pure_of_den (k := k) (A := f37_A) (T := T) (Y := f37_Y) (E := f37_E k) (M := 48) (ts := f37_ts) T_ok ⟨f40_ok k, f51_ok k, f65_ok k, trivial⟩ ⟨f40_ent, f51_ent, f65_ent, trivial⟩ mixed (f := 37) (fn := Try.f37) (c := f37_c) (by kernel_rfl) (by kernel_rfl) (by kernel_rfl) (by decide) (by kernel_rfl)).congr fun xs => (f37_eq k xs).symm
theorem f37_ent : Ent Try.prog 37 := fun args w => by kernel_rfl
/-! ### slices.Index[[]int,int]: function 66 -/
noncomputable def f66_c : Code := Try.f66.body.getD .skip
noncomputable abbrev f66_p (n : Nat) : Code := sb f66_c n
abbrev f66_sig : List PT := [(false, Tq1), (false, (.int .i64))]
abbrev f66_rs : List RT := [.d false (.int .i64)]
abbrev f66_ts : List RV := [.tmp 4]
abbrev f66_S := St → Option (RDL f66_rs)
abbrev f66_L := List (Fr (RDL f66_rs))
def f66_Y : Tys := []
noncomputable def f66_E (k : Nat) : Env := []
def f66_A : Ann := { loops := [(0, { slots := [(0, .val false (.int .i64)), (1, .id), (7, .id), (8, .id)] })] }
noncomputable abbrev f66_a (k : Nat) (F : f66_L) : Kont (RDL f66_rs) := ap T f66_Y (f66_E k) f66_A k (Kfin T f66_rs f66_ts) F
def f66_s_l0 (x0 : (List Int)) (x1 : Int) (x7 : Int) (x8 : Int) : St := mkS 19 64 [(0, aV (.int .i64) x0), (1, aI x1), (7, aI x7), (8, aI x8)] []
abbrev f66_t_l0 := (List Int) → Int → Int → Int → Option (Int × Unit)
abbrev f66_o_l0 (R : f66_S) : f66_t_l0 := (fun x0 x1 x7 x8 => R (f66_s_l0 x0 x1 x7 x8))
noncomputable def f66_Q_l0 (k : Nat) (R_l0 : f66_S) : f66_L := [.c (f66_p 52) 0, .j (fun σ => R_l0 (cut f66_A.loops 0 σ)), .blk 0, .c (f66_p 7) 0]
noncomputable def f66_C_l0 (k : Nat) (n : Nat) (σ : St) : Option (RDL f66_rs) := loopK (fun σ K => den T f66_Y (f66_E k) f66_A k (f66_p 52) 0 σ K) (cut f66_A.loops 0) (f66_a k [.blk 0, .c (f66_p 7) 0]) n σ
noncomputable def f66_F_l0 (k : Nat) (G_l0 : f66_S) : f66_L := .c (f66_p 52) 0 :: .j (fun σ => G_l0 (cut f66_A.loops 0 σ)) :: .blk 0 :: .c (f66_p 7) 0 :: []
theorem f66_f_l0 (k : Nat) (R_l0 : f66_S) : f66_a k (f66_Q_l0 k R_l0) = f66_a k (f66_F_l0 k R_l0) := (ap_cons _ (ap_cons _ (ap_cons _ (ap_cons _ rfl))))
def f66_entry_B (k : Nat) (g_l0 : f66_t_l0) (a0 : (List Int)) (a1 : Int) : Option (Int × Unit) := (g_l0 a0 a1 (a0.length : Int) 0)
def f66_l0_B (k : Nat) (g_l0 : f66_t_l0) (x0 : (List Int)) (x1 : Int) (x7 : Int) (x8 : Int) : Option (Int × Unit) := (if x8 < x7 then (if 0 ≤ x8 then (if x8 < (x0.length : Int) then (if x1 = (x0.getD (x8).toNat 0) then some (x8, ()) else (g_l0 x0 x1 x7 (w64 (x8 + 1)))) else none) else none) else some ((-1), ()))
theorem f66_l0_P (k : Nat) (G_l0 : f66_S) : f66_o_l0 (fun σ => f66_a k (f66_F_l0 k G_l0) .nx σ) = f66_l0_B k (f66_o_l0 G_l0) := by kernel_rfl
def f66_l0 (k : Nat) : Nat → f66_t_l0
  | 0 => fun _ _ _ _ => none
  | n + 1 => f66_l0_B k (f66_l0 k n)
theorem f66_l0_E (k : Nat) : ∀ n, f66_o_l0 (f66_C_l0 k n) = f66_l0 k n
  | 0 => rfl
  | n + 1 =>
    Eq.trans (congrArg f66_o_l0 (Eq.trans (b := fun σ => f66_a k (f66_Q_l0 k (f66_C_l0 k n)) .nx σ) (by kernel_rfl) (ap_fn (f66_f_l0 k (f66_C_l0 k n))))) ((f66_l0_P k (f66_C_l0 k n)).trans (by rw [f66_l0_E k n] <;> rfl))
theorem f66_entry_P (k : Nat) (G_l0 : f66_S) (xs : DL f66_sig) : f66_a k (.c (f66_p 2) 0 :: .c (f66_p 12) 0 :: .j (fun σ => f66_a k (.j (fun σ => G_l0 (cut f66_A.loops 0 σ)) :: .blk 0 :: .c (f66_p 7) 0 :: []) .nx σ) :: .c (f66_p 7) 0 :: []) .nx (σ0 19 64 f66_sig xs) = f66_entry_B k (f66_o_l0 G_l0) xs.1 xs.2.1 := by kernel_rfl
def f66 (k : Nat) (a0 : (List Int)) (a1 : Int) : Option (Int × Unit) := f66_entry_B k (f66_l0 k k) a0 a1
theorem f66_fe (k : Nat) : f66_a k [.c (f66_p 1) 0] = f66_a k (.c (f66_p 2) 0 :: .c (f66_p 12) 0 :: .j (fun σ => f66_a k (.j (fun σ => (f66_C_l0 k k) (cut f66_A.loops 0 σ)) :: .blk 0 :: .c (f66_p 7) 0 :: []) .nx σ) :: .c (f66_p 7) 0 :: []) := (Eq.trans ap_sq (ap_cons _ (Eq.trans ap_sq (Eq.trans ap_sq (ap_cons _ (Eq.trans (ap_bl 0) (Eq.trans (ap_j (Eq.trans (ap_lp (C := (f66_C_l0 k)) (fun _ _ => rfl)) (ap_cons _ (ap_cons _ (ap_cons _ rfl))))) (ap_cons _ (ap_cons _ rfl)))))))))
theorem f66_eq (k : Nat) (xs : DL f66_sig) : den T f66_Y (f66_E k) f66_A k f66_c 0 (σ0 19 64 f66_sig xs) (Kfin T f66_rs f66_ts) = f66 k xs.1 xs.2.1 :=
  Eq.trans (Eq.trans den_sb (ap_at (f66_fe k) _)) ((f66_entry_P k (f66_C_l0 k k) xs).trans (by rw [f66_l0_E k k] <;> rfl))
noncomputable def f66_con (k : Nat) : Con := ⟨f66_sig, f66_rs, fun xs => f66 k xs.1 xs.2.1⟩
theorem f66_ok (k : Nat) : PureOK Try.prog 66 f66_sig f66_rs (fun xs => f66 k xs.1 xs.2.1) :=
  (pure_of_den (k := k) (A := f66_A) (T := T) (Y := f66_Y) (E := f66_E k) (M := 64) (ts := f66_ts) T_ok trivial trivial mixed (f := 66) (fn := Try.f66) (c := f66_c) (by kernel_rfl) (by kernel_rfl) (by kernel_rfl) (by decide) (by kernel_rfl)).congr fun xs => (f66_eq k xs).symm
theorem f66_ent : Ent Try.prog 66 := fun args w => by kernel_rfl
/-! ### slices.Contains[[]int,int]: function 38 -/
noncomputable def f38_c : Code := Try.f38.body.getD .skip
noncomputable abbrev f38_p (n : Nat) : Code := sb f38_c n
abbrev f38_sig : List PT := [(false, Tq1), (false, (.int .i64))]
abbrev f38_rs : List RT := [.d false .bool]
abbrev f38_ts : List RV := [.tmp 4]
abbrev f38_S := St → Option (RDL f38_rs)
abbrev f38_L := List (Fr (RDL f38_rs))
def f38_Y : Tys := []
noncomputable def f38_E (k : Nat) : Env := [(66, .c (f66_con k))]
def f38_A : Ann := {}
noncomputable abbrev f38_a (k : Nat) (F : f38_L) : Kont (RDL f38_rs) := ap T f38_Y (f38_E k) f38_A k (Kfin T f38_rs f38_ts) F
def f38_entry_B (k : Nat) (a0 : (List Int)) (a1 : Int) : Option (Bool × Unit) := ((f66 k a0 a1).bind fun r1 => some (decide (0 ≤ r1.1), ()))
theorem f38_entry_P (k : Nat) (xs : DL f38_sig) : f38_a k (.c (f38_p 1) 0 :: []) .nx (σ0 9 32 f38_sig xs) = f38_entry_B k xs.1 xs.2.1 := by kernel_rfl
def f38 (k : Nat) (a0 : (List Int)) (a1 : Int) : Option (Bool × Unit) := f38_entry_B k a0 a1
theorem f38_eq (k : Nat) (xs : DL f38_sig) : den T f38_Y (f38_E k) f38_A k f38_c 0 (σ0 9 32 f38_sig xs) (Kfin T f38_rs f38_ts) = f38 k xs.1 xs.2.1 :=
  Eq.trans (Eq.trans den_sb (ap_at (ap_cons _ rfl) _)) ((f38_entry_P k xs).trans (by rfl))
noncomputable def f38_con (k : Nat) : Con := ⟨f38_sig, f38_rs, fun xs => f38 k xs.1 xs.2.1⟩
theorem f38_ok (k : Nat) : PureOK Try.prog 38 f38_sig f38_rs (fun xs => f38 k xs.1 xs.2.1) :=
  (pure_of_den (k := k) (A := f38_A) (T := T) (Y := f38_Y) (E := f38_E k) (M := 32) (ts := f38_ts) T_ok ⟨f66_ok k, trivial⟩ ⟨f66_ent, trivial⟩ mixed (f := 38) (fn := Try.f38) (c := f38_c) (by kernel_rfl) (by kernel_rfl) (by kernel_rfl) (by decide) (by kernel_rfl)).congr fun xs => (f38_eq k xs).symm
theorem f38_ent : Ent Try.prog 38 := fun args w => by kernel_rfl
/-! ### math/bits.Mul64: function 107 -/
noncomputable def f107_c : Code := Try.f107.body.getD .skip
noncomputable abbrev f107_p (n : Nat) : Code := sb f107_c n
abbrev f107_sig : List PT := [(false, (.int .u64)), (false, (.int .u64))]
abbrev f107_rs : List RT := [.d false (.int .u64), .d false (.int .u64)]
abbrev f107_ts : List RV := [.tmp 4, .tmp 5]
abbrev f107_S := St → Option (RDL f107_rs)
abbrev f107_L := List (Fr (RDL f107_rs))
def f107_Y : Tys := []
noncomputable def f107_E (k : Nat) : Env := []
def f107_A : Ann := {}
noncomputable abbrev f107_a (k : Nat) (F : f107_L) : Kont (RDL f107_rs) := ap T f107_Y (f107_E k) f107_A k (Kfin T f107_rs f107_ts) F
def f107_entry_B (k : Nat) (a0 : Int) (a1 : Int) : Option (Int × Int × Unit) := some (IntKind.u64.wrap ((IntKind.u64.wrap ((IntKind.u64.wrap ((a0.fdiv (2 ^ min (32 : Int).toNat (IntKind.bits .u64))) * (a1.fdiv (2 ^ min (32 : Int).toNat (IntKind.bits .u64))))) + ((IntKind.u64.wrap ((IntKind.u64.wrap ((a0.fdiv (2 ^ min (32 : Int).toNat (IntKind.bits .u64))) * (bitI .and .u64 a1 4294967295))) + ((IntKind.u64.wrap ((bitI .and .u64 a0 4294967295) * (bitI .and .u64 a1 4294967295))).fdiv (2 ^ min (32 : Int).toNat (IntKind.bits .u64))))).fdiv (2 ^ min (32 : Int).toNat (IntKind.bits .u64))))) + ((IntKind.u64.wrap ((bitI .and .u64 (IntKind.u64.wrap ((IntKind.u64.wrap ((a0.fdiv (2 ^ min (32 : Int).toNat (IntKind.bits .u64))) * (bitI .and .u64 a1 4294967295))) + ((IntKind.u64.wrap ((bitI .and .u64 a0 4294967295) * (bitI .and .u64 a1 4294967295))).fdiv (2 ^ min (32 : Int).toNat (IntKind.bits .u64))))) 4294967295) + (IntKind.u64.wrap ((bitI .and .u64 a0 4294967295) * (a1.fdiv (2 ^ min (32 : Int).toNat (IntKind.bits .u64))))))).fdiv (2 ^ min (32 : Int).toNat (IntKind.bits .u64)))), IntKind.u64.wrap (a0 * a1), ())
theorem f107_entry_P (k : Nat) (xs : DL f107_sig) : f107_a k (.c (f107_p 1) 0 :: []) .nx (σ0 51 160 f107_sig xs) = f107_entry_B k xs.1 xs.2.1 := by kernel_rfl
def f107 (k : Nat) (a0 : Int) (a1 : Int) : Option (Int × Int × Unit) := f107_entry_B k a0 a1
theorem f107_eq (k : Nat) (xs : DL f107_sig) : den T f107_Y (f107_E k) f107_A k f107_c 0 (σ0 51 160 f107_sig xs) (Kfin T f107_rs f107_ts) = f107 k xs.1 xs.2.1 :=
  Eq.trans (Eq.trans den_sb (ap_at (ap_cons _ rfl) _)) ((f107_entry_P k xs).trans (by rfl))
noncomputable def f107_con (k : Nat) : Con := ⟨f107_sig, f107_rs, fun xs => f107 k xs.1 xs.2.1⟩
theorem f107_ok (k : Nat) : PureOK Try.prog 107 f107_sig f107_rs (fun xs => f107 k xs.1 xs.2.1) :=
  (pure_of_den (k := k) (A := f107_A) (T := T) (Y := f107_Y) (E := f107_E k) (M := 160) (ts := f107_ts) T_ok trivial trivial mixed (f := 107) (fn := Try.f107) (c := f107_c) (by kernel_rfl) (by kernel_rfl) (by kernel_rfl) (by decide) (by kernel_rfl)).congr fun xs => (f107_eq k xs).symm
theorem f107_ent : Ent Try.prog 107 := fun args w => by kernel_rfl
/-! ### math/bits.Mul: function 77 -/
noncomputable def f77_c : Code := Try.f77.body.getD .skip
noncomputable abbrev f77_p (n : Nat) : Code := sb f77_c n
abbrev f77_sig : List PT := [(false, (.int .u64)), (false, (.int .u64))]
abbrev f77_rs : List RT := [.d false (.int .u64), .d false (.int .u64)]
abbrev f77_ts : List RV := [.tmp 4, .tmp 5]
abbrev f77_S := St → Option (RDL f77_rs)
abbrev f77_L := List (Fr (RDL f77_rs))
def f77_Y : Tys := []
noncomputable def f77_E (k : Nat) : Env := [(107, .c (f107_con k))]
def f77_A : Ann := {}
noncomputable abbrev f77_a (k : Nat) (F : f77_L) : Kont (RDL f77_rs) := ap T f77_Y (f77_E k) f77_A k (Kfin T f77_rs f77_ts) F
def f77_entry_B (k : Nat) (a0 : Int) (a1 : Int) : Option (Int × Int × Unit) := ((f107 k a0 a1).bind fun r1 => some (r1.1, r1.2.1, ()))
theorem f77_entry_P (k : Nat) (xs : DL f77_sig) : f77_a k (.c (f77_p 1) 0 :: []) .nx (σ0 30 96 f77_sig xs) = f77_entry_B k xs.1 xs.2.1 := by kernel_rfl
def f77 (k : Nat) (a0 : Int) (a1 : Int) : Option (Int × Int × Unit) := f77_entry_B k a0 a1
theorem f77_eq (k : Nat) (xs : DL f77_sig) : den T f77_Y (f77_E k) f77_A k f77_c 0 (σ0 30 96 f77_sig xs) (Kfin T f77_rs f77_ts) = f77 k xs.1 xs.2.1 :=
  Eq.trans (Eq.trans den_sb (ap_at (ap_cons _ rfl) _)) ((f77_entry_P k xs).trans (by rfl))
noncomputable def f77_con (k : Nat) : Con := ⟨f77_sig, f77_rs, fun xs => f77 k xs.1 xs.2.1⟩
theorem f77_ok (k : Nat) : PureOK Try.prog 77 f77_sig f77_rs (fun xs => f77 k xs.1 xs.2.1) :=
  (pure_of_den (k := k) (A := f77_A) (T := T) (Y := f77_Y) (E := f77_E k) (M := 96) (ts := f77_ts) T_ok ⟨f107_ok k, trivial⟩ ⟨f107_ent, trivial⟩ mixed (f := 77) (fn := Try.f77) (c := f77_c) (by kernel_rfl) (by kernel_rfl) (by kernel_rfl) (by decide) (by kernel_rfl)).congr fun xs => (f77_eq k xs).symm
theorem f77_ent : Ent Try.prog 77 := fun args w => by kernel_rfl
/-! ### slices.Repeat[[]int,int]: function 54 -/
noncomputable def f54_c : Code := Try.f54.body.getD .skip
noncomputable abbrev f54_p (n : Nat) : Code := sb f54_c n
abbrev f54_sig : List PT := [(false, Tq1), (false, (.int .i64))]
abbrev f54_rs : List RT := [.new (.int .i64)]
abbrev f54_ts : List RV := [.tmp 4]
abbrev f54_S := St → Option (RDL f54_rs)
abbrev f54_L := List (Fr (RDL f54_rs))
def f54_Y : Tys := [(3, (.int .i64))]
noncomputable def f54_E (k : Nat) : Env := [(77, .c (f77_con k))]
def f54_A : Ann := { conds := [(2, { slots := [(0, .val false (.int .i64)), (1, .id)] }), (5, { slots := [(0, .val false (.int .i64)), (6, .id)] })], regs := [(4, { slots := [(0, .val false (.int .i64)), (6, .id), (26, .bool)] })], loops := [(0, { slots := [(7, .id), (8, .id)], keys := [(30, [])] })] }
noncomputable abbrev f54_a (k : Nat) (F : f54_L) : Kont (RDL f54_rs) := ap T f54_Y (f54_E k) f54_A k (Kfin T f54_rs f54_ts) F
def f54_s_c2 (x0 : (List Int)) (x1 : Int) : St := mkS 48 144 [(0, aV (.int .i64) x0), (1, aI x1)] []
abbrev f54_t_c2 := (List Int) → Int → Option ((List Int) × Unit)
abbrev f54_o_c2 (R : f54_S) : f54_t_c2 := (fun x0 x1 => R (f54_s_c2 x0 x1))
noncomputable def f54_Q_c2 (k : Nat) : f54_L := [.c (f54_p 7) 0]
noncomputable def f54_C_c2 (k : Nat) : f54_S := fun σ => f54_a k (f54_Q_c2 k) .nx σ
def f54_s_r4 (x0 : (List Int)) (x26 : Bool) (x6 : Int) : St := mkS 48 144 [(0, aV (.int .i64) x0), (6, .cp (.one (.int .u64 x6))), (26, aB x26)] []
abbrev f54_t_r4 := (List Int) → Bool → Int → Option ((List Int) × Unit)
abbrev f54_o_r4 (R : f54_S) : f54_t_r4 := (fun x0 x26 x6 => R (f54_s_r4 x0 x26 x6))
noncomputable def f54_Q_r4 (k : Nat) : f54_L := [.c (f54_p 61) 0, .c (f54_p 31) 0]
noncomputable def f54_C_r4 (k : Nat) : f54_S := fun σ => f54_a k (f54_Q_r4 k) .nx σ
def f54_s_c5 (x0 : (List Int)) (x6 : Int) : St := mkS 48 144 [(0, aV (.int .i64) x0), (6, .cp (.one (.int .u64 x6)))] []
abbrev f54_t_c5 := (List Int) → Int → Option ((List Int) × Unit)
abbrev f54_o_c5 (R : f54_S) : f54_t_c5 := (fun x0 x6 => R (f54_s_c5 x0 x6))
noncomputable def f54_Q_c5 (k : Nat) : f54_L := [.c (f54_p 31) 0]
noncomputable def f54_C_c5 (k : Nat) : f54_S := fun σ => f54_a k (f54_Q_c5 k) .nx σ
def f54_s_l0 (y30 : (List Int)) (x8 : Int) : St := mkS 48 144 [(7, aO 30), (8, aI x8)] [(30, .vec (.int .i64) y30)]
abbrev f54_t_l0 := (List Int) → Int → Option ((List Int) × Unit)
abbrev f54_o_l0 (R : f54_S) : f54_t_l0 := (fun y30 x8 => R (f54_s_l0 y30 x8))
noncomputable def f54_Q_l0 (k : Nat) (R_l0 : f54_S) : f54_L := [.c (f54_p 1016) 0, .j (fun σ => R_l0 (cut f54_A.loops 0 σ)), .blk 0, .c (f54_p 255) 0]
noncomputable def f54_C_l0 (k : Nat) (n : Nat) (σ : St) : Option (RDL f54_rs) := loopK (fun σ K => den T f54_Y (f54_E k) f54_A k (f54_p 1016) 0 σ K) (cut f54_A.loops 0) (f54_a k [.blk 0, .c (f54_p 255) 0]) n σ
noncomputable def f54_F_c5 (k : Nat) (G_l0 : f54_S) : f54_L := .c (f54_p 62) 0 :: .c (f54_p 126) 0 :: .j (fun σ => f54_a k (.j (fun σ => G_l0 (cut f54_A.loops 0 σ)) :: .blk 0 :: .c (f54_p 255) 0 :: []) .nx σ) :: .c (f54_p 255) 0 :: []
theorem f54_f_c5 (k : Nat) : f54_a k (f54_Q_c5 k) = f54_a k (f54_F_c5 k (f54_C_l0 k k)) := (Eq.trans ap_sq (ap_cons _ (Eq.trans ap_sq (ap_cons _ (Eq.trans ap_sq (Eq.trans (ap_bl 0) (Eq.trans (ap_j (Eq.trans (ap_lp (C := (f54_C_l0 k)) (fun _ _ => rfl)) (ap_cons _ (ap_cons _ (ap_cons _ rfl))))) (ap_cons _ (ap_cons _ rfl)))))))))
noncomputable def f54_F_r4 (k : Nat) (G_c5 G_l0 : f54_S) : f54_L := .c (f54_p 61) 0 :: .j G_c5 :: f54_F_c5 k G_l0
theorem f54_f_r4 (k : Nat) : f54_a k (f54_Q_r4 k) = f54_a k (f54_F_r4 k (f54_C_c5 k) (f54_C_l0 k k)) := (ap_cons _ (Eq.trans (ap_pass (C := (f54_C_c5 k)) (fun _ => rfl)) (ap_cons _ (f54_f_c5 k))))
noncomputable def f54_F_c2 (k : Nat) (G_r4 G_c5 G_l0 : f54_S) : f54_L := .c (f54_p 14) 0 :: .c (f54_p 60) 0 :: .j G_r4 :: f54_F_r4 k G_c5 G_l0
theorem f54_f_c2 (k : Nat) : f54_a k (f54_Q_c2 k) = f54_a k (f54_F_c2 k (f54_C_r4 k) (f54_C_c5 k) (f54_C_l0 k k)) := (Eq.trans ap_sq (ap_cons _ (Eq.trans ap_sq (Eq.trans ap_sq (ap_cons _ (Eq.trans (ap_pass (C := (f54_C_r4 k)) (fun _ => rfl)) (ap_cons _ (f54_f_r4 k))))))))
noncomputable def f54_F_l0 (k : Nat) (G_l0 : f54_S) : f54_L := .c (f54_p 1016) 0 :: .j (fun σ => G_l0 (cut f54_A.loops 0 σ)) :: .blk 0 :: .c (f54_p 255) 0 :: []
theorem f54_f_l0 (k : Nat) (R_l0 : f54_S) : f54_a k (f54_Q_l0 k R_l0) = f54_a k (f54_F_l0 k R_l0) := (ap_cons _ (ap_cons _ (ap_cons _ (ap_cons _ rfl))))
def f54_entry_B (k : Nat) (g_c2 : f54_t_c2) (a0 : (List Int)) (a1 : Int) : Option ((List Int) × Unit) := (if a1 < 0 then none else (g_c2 a0 a1))
def f54_c2_B (k : Nat) (g_r4 : f54_t_r4) (x0 : (List Int)) (x1 : Int) : Option ((List Int) × Unit) := ((f77 k (IntKind.u64.wrap ((x0.length : Int))) (IntKind.u64.wrap (x1))).bind fun r1 => (if 0 < r1.1 then (g_r4 x0 true r1.2.1) else (g_r4 x0 (decide (9223372036854775807 < r1.2.1)) r1.2.1)))
def f54_r4_B (k : Nat) (g_c5 : f54_t_c5) (x0 : (List Int)) (x26 : Bool) (x6 : Int) : Option ((List Int) × Unit) := (if x26 = true then none else (g_c5 x0 x6))
def f54_c5_B (k : Nat) (g_l0 : f54_t_l0) (x0 : (List Int)) (x6 : Int) : Option ((List Int) × Unit) := (if 0 ≤ (w64 (x6)) then (if (w64 (x6)) ≤ 1073741824 then (g_l0 (copyL (List.replicate (w64 (x6)).toNat (0 : Int)) x0 0 ((List.replicate (w64 (x6)).toNat (0 : Int)).length)) ((min ((List.replicate (w64 (x6)).toNat (0 : Int)).length) x0.length : Nat) : Int)) else none) else none)
def f54_l0_B (k : Nat) (g_l0 : f54_t_l0) (y30 : (List Int)) (x8 : Int) : Option ((List Int) × Unit) := (if x8 < (y30.length : Int) then (if 0 ≤ x8 then (if x8 ≤ (y30.length : Int) then (if 0 ≤ x8 then (if x8 ≤ (y30.length : Int) then (g_l0 (copyL y30 (List.take ((x8).toNat - (0 : Int).toNat) (List.drop ((0 : Int).toNat) y30)) ((x8).toNat) ((y30.length : Int).toNat - (x8).toNat)) (w64 (x8 + ((min ((y30.length : Int).toNat - (x8).toNat) (List.take ((x8).toNat - (0 : Int).toNat) (List.drop ((0 : Int).toNat) y30)).length : Nat) : Int)))) else none) else none) else none) else none) else some (y30, ()))
theorem f54_l0_P (k : Nat) (G_l0 : f54_S) : f54_o_l0 (fun σ => f54_a k (f54_F_l0 k G_l0) .nx σ) = f54_l0_B k (f54_o_l0 G_l0) := by kernel_rfl
def f54_l0 (k : Nat) : Nat → f54_t_l0
  | 0 => fun _ _ => none
  | n + 1 => f54_l0_B k (f54_l0 k n)
theorem f54_l0_E (k : Nat) : ∀ n, f54_o_l0 (f54_C_l0 k n) = f54_l0 k n
  | 0 => rfl
  | n + 1 =>
    Eq.trans (congrArg f54_o_l0 (Eq.trans (b := fun σ => f54_a k (f54_Q_l0 k (f54_C_l0 k n)) .nx σ) (by kernel_rfl) (ap_fn (f54_f_l0 k (f54_C_l0 k n))))) ((f54_l0_P k (f54_C_l0 k n)).trans (by rw [f54_l0_E k n] <;> rfl))
theorem f54_c5_P (k : Nat) (G_l0 : f54_S) : f54_o_c5 (fun σ => f54_a k (f54_F_c5 k G_l0) .nx σ) = f54_c5_B k (f54_o_l0 G_l0) := by kernel_rfl
def f54_c5 (k : Nat) : f54_t_c5 := f54_c5_B k (f54_l0 k k)
theorem f54_c5_E (k : Nat) : f54_o_c5 (f54_C_c5 k) = f54_c5 k :=
  Eq.trans (congrArg f54_o_c5 (ap_fn (f54_f_c5 k))) ((f54_c5_P k (f54_C_l0 k k)).trans (by rw [f54_l0_E k k] <;> rfl))
theorem f54_r4_P (k : Nat) (G_c5 G_l0 : f54_S) : f54_o_r4 (fun σ => f54_a k (f54_F_r4 k G_c5 G_l0) .nx σ) = f54_r4_B k (f54_o_c5 G_c5) := by kernel_rfl
def f54_r4 (k : Nat) : f54_t_r4 := f54_r4_B k (f54_c5 k)
theorem f54_r4_E (k : Nat) : f54_o_r4 (f54_C_r4 k) = f54_r4 k :=
  Eq.trans (congrArg f54_o_r4 (ap_fn (f54_f_r4 k))) ((f54_r4_P k (f54_C_c5 k) (f54_C_l0 k k)).trans (by rw [f54_c5_E k] <;> rfl))
theorem f54_c2_P (k : Nat) (G_r4 G_c5 G_l0 : f54_S) : f54_o_c2 (fun σ => f54_a k (f54_F_c2 k G_r4 G_c5 G_l0) .nx σ) = f54_c2_B k (f54_o_r4 G_r4) := by kernel_rfl
def f54_c2 (k : Nat) : f54_t_c2 := f54_c2_B k (f54_r4 k)
theorem f54_c2_E (k : Nat) : f54_o_c2 (f54_C_c2 k) = f54_c2 k :=
  Eq.trans (congrArg f54_o_c2 (ap_fn (f54_f_c2 k))) ((f54_c2_P k (f54_C_r4 k) (f54_C_c5 k) (f54_C_l0 k k)).trans (by rw [f54_r4_E k] <;> rfl))
theorem f54_entry_P (k : Nat) (G_c2 G_r4 G_c5 G_l0 : f54_S) (xs : DL f54_sig) : f54_a k (.c (f54_p 2) 0 :: .c (f54_p 12) 0 :: .c (f54_p 13) 0 :: .j G_c2 :: f54_F_c2 k G_r4 G_c5 G_l0) .nx (σ0 48 144 f54_sig xs) = f54_entry_B k (f54_o_c2 G_c2) xs.1 xs.2.1 := by kernel_rfl
def f54 (k : Nat) (a0 : (List Int)) (a1 : Int) : Option ((List Int) × Unit) := f54_entry_B k (f54_c2 k) a0 a1
theorem f54_fe (k : Nat) : f54_a k [.c (f54_p 1) 0] = f54_a k (.c (f54_p 2) 0 :: .c (f54_p 12) 0 :: .c (f54_p 13) 0 :: .j (f54_C_c2 k) :: f54_F_c2 k (f54_C_r4 k) (f54_C_c5 k) (f54_C_l0 k k)) := (Eq.trans ap_sq (ap_cons _ (Eq.trans ap_sq (Eq.trans ap_sq (ap_cons _ (ap_cons _ (Eq.trans (ap_pass (C := (f54_C_c2 k)) (fun _ => rfl)) (ap_cons _ (f54_f_c2 k)))))))))
theorem f54_eq (k : Nat) (xs : DL f54_sig) : den T f54_Y (f54_E k) f54_A k f54_c 0 (σ0 48 144 f54_sig xs) (Kfin T f54_rs f54_ts) = f54 k xs.1 xs.2.1 :=
  Eq.trans (Eq.trans den_sb (ap_at (f54_fe k) _)) ((f54_entry_P k (f54_C_c2 k) (f54_C_r4 k) (f54_C_c5 k) (f54_C_l0 k k) xs).trans (by rw [f54_c2_E k] <;> rfl))
noncomputable def f54_con (k : Nat) : Con := ⟨f54_sig, f54_rs, fun xs => f54 k xs.1 xs.2.1⟩
theorem f54_ok (k : Nat) : PureOK Try.prog 54 f54_sig f54_rs (fun xs => f54 k xs.1 xs.2.1) :=
  (pure_of_den (k := k) (A := f54_A) (T := T) (Y := f54_Y) (E := f54_E k) (M := 144) (ts := f54_ts) T_ok ⟨f77_ok k, trivial⟩ ⟨f77_ent, trivial⟩ mixed (f := 54) (fn := Try.f54) (c := f54_c) (by kernel_rfl) (by kernel_rfl) (by kernel_rfl) (by decide) (by kernel_rfl)).congr fun xs => (f54_eq k xs).symm
theorem f54_ent : Ent Try.prog 54 := fun args w => by kernel_rfl
/-! ### terrier/route.Costs: function 28 -/
noncomputable def f28_c : Code := Try.f28.body.getD .skip
noncomputable abbrev f28_p (n : Nat) : Code := sb f28_c n
abbrev f28_sig : List PT := [(true, Tq9), (false, (.int .i64))]
abbrev f28_rs : List RT := [.new (.int .i64)]
abbrev f28_ts : List RV := [.tmp 4]
abbrev f28_S := St → Option (RDL f28_rs)
abbrev f28_L := List (Fr (RDL f28_rs))
def f28_Y : Tys := [(3, (.int .i64))]
noncomputable def f28_E (k : Nat) : Env := [(29, .c (f29_con k)), (54, .c (f54_con k)), (57, .c (f57_con k))]
def f28_A : Ann := { loops := [(0, { slots := [(1, .id), (2, .id), (5, .id), (21, .id), (22, .id), (23, .id)], keys := [(2, [.val false Tq2, .val false Tq6, .val false Tq2]), (18, []), (21, [])] })], regs := [(8, { slots := [(1, .id), (2, .id), (5, .id), (7, .id), (8, .id), (21, .id), (22, .id), (23, .id), (50, .bool)], keys := [(2, [.val false Tq2, .val false Tq6, .val false Tq2]), (18, []), (21, [])] })], conds := [(9, { slots := [(1, .id), (2, .id), (5, .id), (21, .id), (22, .id), (23, .id)], keys := [(2, [.val false Tq2, .val false Tq6, .val false Tq2]), (18, []), (21, [])] })] }
noncomputable abbrev f28_a (k : Nat) (F : f28_L) : Kont (RDL f28_rs) := ap T f28_Y (f28_E k) f28_A k (Kfin T f28_rs f28_ts) F
def f28_s_l0 (y18 : (List Int)) (y2_0 : (List (Int × Int))) (y2_1 : (List (Int × (Int × (Int × Int))))) (y2_2 : (List (Int × Int))) (y21 : (List Int)) (x1 : Int) (x22 : Int) (x23 : Int) : St := mkS 60 192 [(1, aI x1), (2, aP 2), (5, aO 18), (21, aO 21), (22, aI x22), (23, aI x23)] [(2, .box [cV Tq2 y2_0, cV Tq6 y2_1, cV Tq2 y2_2]), (18, .vec (.int .i64) y18), (21, .vec (.int .i64) y21)]
abbrev f28_t_l0 := (List Int) → (List (Int × Int)) → (List (Int × (Int × (Int × Int)))) → (List (Int × Int)) → (List Int) → Int → Int → Int → Option ((List Int) × Unit)
abbrev f28_o_l0 (R : f28_S) : f28_t_l0 := (fun y18 y2_0 y2_1 y2_2 y21 x1 x22 x23 => R (f28_s_l0 y18 y2_0 y2_1 y2_2 y21 x1 x22 x23))
noncomputable def f28_Q_l0 (k : Nat) (R_l0 : f28_S) : f28_L := [.c (f28_p 244) 0, .j (fun σ => R_l0 (cut f28_A.loops 0 σ)), .blk 0, .c (f28_p 31) 0]
noncomputable def f28_C_l0 (k : Nat) (n : Nat) (σ : St) : Option (RDL f28_rs) := loopK (fun σ K => den T f28_Y (f28_E k) f28_A k (f28_p 244) 0 σ K) (cut f28_A.loops 0) (f28_a k [.blk 0, .c (f28_p 31) 0]) n σ
def f28_s_r8 (y18 : (List Int)) (y2_0 : (List (Int × Int))) (y2_1 : (List (Int × (Int × (Int × Int))))) (y2_2 : (List (Int × Int))) (y21 : (List Int)) (x1 : Int) (x22 : Int) (x23 : Int) (x50 : Bool) (x7 : Int) (x8 : Int) : St := mkS 60 192 [(1, aI x1), (2, aP 2), (5, aO 18), (7, aI x7), (8, aI x8), (21, aO 21), (22, aI x22), (23, aI x23), (50, aB x50)] [(2, .box [cV Tq2 y2_0, cV Tq6 y2_1, cV Tq2 y2_2]), (18, .vec (.int .i64) y18), (21, .vec (.int .i64) y21)]
abbrev f28_t_r8 := (List Int) → (List (Int × Int)) → (List (Int × (Int × (Int × Int)))) → (List (Int × Int)) → (List Int) → Int → Int → Int → Bool → Int → Int → Option ((List Int) × Unit)
abbrev f28_o_r8 (R : f28_S) : f28_t_r8 := (fun y18 y2_0 y2_1 y2_2 y21 x1 x22 x23 x50 x7 x8 => R (f28_s_r8 y18 y2_0 y2_1 y2_2 y21 x1 x22 x23 x50 x7 x8))
noncomputable def f28_Q_r8 (k : Nat) (R_l0 : f28_S) : f28_L := [.c (f28_p 31335) 1, .blk 1, .c (f28_p 1959) 0, .j (fun σ => R_l0 (cut f28_A.loops 0 σ)), .blk 0, .c (f28_p 31) 0]
noncomputable def f28_C_r8 (k : Nat) (R_l0 : f28_S) : f28_S := fun σ => f28_a k (f28_Q_r8 k R_l0) .nx σ
def f28_s_c9 (y18 : (List Int)) (y2_0 : (List (Int × Int))) (y2_1 : (List (Int × (Int × (Int × Int))))) (y2_2 : (List (Int × Int))) (y21 : (List Int)) (x1 : Int) (x22 : Int) (x23 : Int) : St := mkS 60 192 [(1, aI x1), (2, aP 2), (5, aO 18), (21, aO 21), (22, aI x22), (23, aI x23)] [(2, .box [cV Tq2 y2_0, cV Tq6 y2_1, cV Tq2 y2_2]), (18, .vec (.int .i64) y18), (21, .vec (.int .i64) y21)]
abbrev f28_t_c9 := (List Int) → (List (Int × Int)) → (List (Int × (Int × (Int × Int)))) → (List (Int × Int)) → (List Int) → Int → Int → Int → Option ((List Int) × Unit)
abbrev f28_o_c9 (R : f28_S) : f28_t_c9 := (fun y18 y2_0 y2_1 y2_2 y21 x1 x22 x23 => R (f28_s_c9 y18 y2_0 y2_1 y2_2 y21 x1 x22 x23))
noncomputable def f28_Q_c9 (k : Nat) (R_l0 : f28_S) : f28_L := [.blk 1, .c (f28_p 1959) 0, .j (fun σ => R_l0 (cut f28_A.loops 0 σ)), .blk 0, .c (f28_p 31) 0]
noncomputable def f28_C_c9 (k : Nat) (R_l0 : f28_S) : f28_S := fun σ => f28_a k (f28_Q_c9 k R_l0) .nx σ
noncomputable def f28_F_c9 (k : Nat) (G_l0 : f28_S) : f28_L := .blk 1 :: .c (f28_p 1959) 0 :: .j (fun σ => G_l0 (cut f28_A.loops 0 σ)) :: .blk 0 :: .c (f28_p 31) 0 :: []
theorem f28_f_c9 (k : Nat) (R_l0 : f28_S) : f28_a k (f28_Q_c9 k R_l0) = f28_a k (f28_F_c9 k R_l0) := (ap_cons _ (ap_cons _ (ap_cons _ (ap_cons _ (ap_cons _ rfl)))))
noncomputable def f28_F_r8 (k : Nat) (G_l0 G_c9 : f28_S) : f28_L := .c (f28_p 31335) 1 :: .j G_c9 :: f28_F_c9 k G_l0
theorem f28_f_r8 (k : Nat) (R_l0 : f28_S) : f28_a k (f28_Q_r8 k R_l0) = f28_a k (f28_F_r8 k R_l0 (f28_C_c9 k R_l0)) := (ap_cons _ (Eq.trans (ap_pass (C := (f28_C_c9 k R_l0)) (fun _ => rfl)) (ap_cons _ (f28_f_c9 k R_l0))))
noncomputable def f28_F_l0 (k : Nat) (G_l0 G_r8 G_c9 : f28_S) : f28_L := .c (f28_p 488) 0 :: .c (f28_p 978) 0 :: .j (fun σ => f28_a k (.c (f28_p 7832) 1 :: .c (f28_p 15666) 1 :: .c (f28_p 31334) 1 :: .j G_r8 :: f28_F_r8 k G_l0 G_c9) .nx σ) :: .c (f28_p 1959) 0 :: .j (fun σ => G_l0 (cut f28_A.loops 0 σ)) :: .blk 0 :: .c (f28_p 31) 0 :: []
theorem f28_f_l0 (k : Nat) (R_l0 : f28_S) : f28_a k (f28_Q_l0 k R_l0) = f28_a k (f28_F_l0 k R_l0 (f28_C_r8 k R_l0) (f28_C_c9 k R_l0)) := (Eq.trans ap_sq (ap_cons _ (Eq.trans ap_sq (ap_cons _ (Eq.trans ap_sq (Eq.trans (ap_bl 1) (Eq.trans (ap_j (Eq.trans ap_sq (ap_cons _ (Eq.trans ap_sq (ap_cons _ (Eq.trans ap_sq (ap_cons _ (Eq.trans (ap_pass (C := (f28_C_r8 k R_l0)) (fun _ => rfl)) (ap_cons _ (f28_f_r8 k R_l0)))))))))) (ap_cons _ (ap_cons _ (ap_cons _ (ap_cons _ (ap_cons _ rfl))))))))))))
def f28_entry_B (k : Nat) (g_l0 : f28_t_l0) (a0 : Td12) (a1 : Int) : Option ((List Int) × Unit) := ((f57 k (a0.1, (a0.2.1, a0.2.2)) ([a1])).bind fun r1 => (if ¬ (r1.1 = 0) then some ([], ()) else ((f54 k ([(-1)]) (a0.1.length : Int)).bind fun r2 => ((f29 k (a0.1, (a0.2.1, a0.2.2)) a1).bind fun r3 => (g_l0 r2.1 a0.1 a0.2.1 a0.2.2 r3.1 a1 (r3.1.length : Int) 0)))))
def f28_l0_B (k : Nat) (g_r8 : f28_t_r8) (y18 : (List Int)) (y2_0 : (List (Int × Int))) (y2_1 : (List (Int × (Int × (Int × Int))))) (y2_2 : (List (Int × Int))) (y21 : (List Int)) (x1 : Int) (x22 : Int) (x23 : Int) : Option ((List Int) × Unit) := (if x23 < x22 then (if 0 ≤ x23 then (if x23 < (y21.length : Int) then (if 0 ≤ x23 then (if x23 < (y2_1.length : Int) then (if 0 ≤ (y21.getD ((x23).toNat) 0) then (if 0 ≤ (((y2_1.getD (x23).toNat (0, (0, (0, 0)))).2).1) then (if (((y2_1.getD (x23).toNat (0, (0, (0, 0)))).2).1) < (y18.length : Int) then (if (y18.getD ((((y2_1.getD (x23).toNat (0, (0, (0, 0)))).2).1).toNat) 0) < 0 then (g_r8 y18 y2_0 y2_1 y2_2 y21 x1 x22 x23 true (y21.getD ((x23).toNat) 0) (((y2_1.getD (x23).toNat (0, (0, (0, 0)))).2).1)) else (if 0 ≤ (((y2_1.getD (x23).toNat (0, (0, (0, 0)))).2).1) then (if (((y2_1.getD (x23).toNat (0, (0, (0, 0)))).2).1) < (y18.length : Int) then (g_r8 y18 y2_0 y2_1 y2_2 y21 x1 x22 x23 (decide ((y21.getD ((x23).toNat) 0) < (y18.getD ((((y2_1.getD (x23).toNat (0, (0, (0, 0)))).2).1).toNat) 0))) (y21.getD ((x23).toNat) 0) (((y2_1.getD (x23).toNat (0, (0, (0, 0)))).2).1)) else none) else none)) else none) else none) else (g_r8 y18 y2_0 y2_1 y2_2 y21 x1 x22 x23 false (y21.getD ((x23).toNat) 0) (((y2_1.getD (x23).toNat (0, (0, (0, 0)))).2).1))) else none) else none) else none) else none) else (if 0 ≤ x1 then (if x1 < (y18.length : Int) then some ((y18.set ((x1).toNat) 0), ()) else none) else none))
def f28_r8_B (k : Nat) (g_c9 : f28_t_c9) (y18 : (List Int)) (y2_0 : (List (Int × Int))) (y2_1 : (List (Int × (Int × (Int × Int))))) (y2_2 : (List (Int × Int))) (y21 : (List Int)) (x1 : Int) (x22 : Int) (x23 : Int) (x50 : Bool) (x7 : Int) (x8 : Int) : Option ((List Int) × Unit) := (if x50 = true then (if 0 ≤ x8 then (if x8 < (y18.length : Int) then (g_c9 (y18.set ((x8).toNat) x7) y2_0 y2_1 y2_2 y21 x1 x22 x23) else none) else none) else (g_c9 y18 y2_0 y2_1 y2_2 y21 x1 x22 x23))
def f28_c9_B (k : Nat) (g_l0 : f28_t_l0) (y18 : (List Int)) (y2_0 : (List (Int × Int))) (y2_1 : (List (Int × (Int × (Int × Int))))) (y2_2 : (List (Int × Int))) (y21 : (List Int)) (x1 : Int) (x22 : Int) (x23 : Int) : Option ((List Int) × Unit) := (g_l0 y18 y2_0 y2_1 y2_2 y21 x1 x22 (w64 (x23 + 1)))
theorem f28_c9_P (k : Nat) (G_l0 : f28_S) : f28_o_c9 (fun σ => f28_a k (f28_F_c9 k G_l0) .nx σ) = f28_c9_B k (f28_o_l0 G_l0) := by kernel_rfl
def f28_c9 (k : Nat) (r_l0 : f28_t_l0) : f28_t_c9 := f28_c9_B k r_l0
theorem f28_c9_E (k : Nat) (R_l0 : f28_S) : f28_o_c9 (f28_C_c9 k R_l0) = f28_c9 k (f28_o_l0 R_l0) :=
  Eq.trans (congrArg f28_o_c9 (ap_fn (f28_f_c9 k R_l0))) ((f28_c9_P k R_l0).trans (by rfl))
theorem f28_r8_P (k : Nat) (G_l0 G_c9 : f28_S) : f28_o_r8 (fun σ => f28_a k (f28_F_r8 k G_l0 G_c9) .nx σ) = f28_r8_B k (f28_o_c9 G_c9) := by kernel_rfl
def f28_r8 (k : Nat) (r_l0 : f28_t_l0) : f28_t_r8 := f28_r8_B k (f28_c9 k r_l0)
theorem f28_r8_E (k : Nat) (R_l0 : f28_S) : f28_o_r8 (f28_C_r8 k R_l0) = f28_r8 k (f28_o_l0 R_l0) :=
  Eq.trans (congrArg f28_o_r8 (ap_fn (f28_f_r8 k R_l0))) ((f28_r8_P k R_l0 (f28_C_c9 k R_l0)).trans (by rw [f28_c9_E k R_l0] <;> rfl))
theorem f28_l0_P (k : Nat) (G_l0 G_r8 G_c9 : f28_S) : f28_o_l0 (fun σ => f28_a k (f28_F_l0 k G_l0 G_r8 G_c9) .nx σ) = f28_l0_B k (f28_o_r8 G_r8) := by kernel_rfl
def f28_l0 (k : Nat) : Nat → f28_t_l0
  | 0 => fun _ _ _ _ _ _ _ _ => none
  | n + 1 => f28_l0_B k (f28_r8 k (f28_l0 k n))
theorem f28_l0_E (k : Nat) : ∀ n, f28_o_l0 (f28_C_l0 k n) = f28_l0 k n
  | 0 => rfl
  | n + 1 =>
    Eq.trans (congrArg f28_o_l0 (Eq.trans (b := fun σ => f28_a k (f28_Q_l0 k (f28_C_l0 k n)) .nx σ) (by kernel_rfl) (ap_fn (f28_f_l0 k (f28_C_l0 k n))))) ((f28_l0_P k (f28_C_l0 k n) (f28_C_r8 k (f28_C_l0 k n)) (f28_C_c9 k (f28_C_l0 k n))).trans (by rw [f28_r8_E k (f28_C_l0 k n), f28_l0_E k n] <;> rfl))
theorem f28_entry_P (k : Nat) (G_l0 : f28_S) (xs : DL f28_sig) : f28_a k (.c (f28_p 2) 0 :: .c (f28_p 6) 0 :: .c (f28_p 14) 0 :: .c (f28_p 60) 0 :: .j (fun σ => f28_a k (.j (fun σ => G_l0 (cut f28_A.loops 0 σ)) :: .blk 0 :: .c (f28_p 31) 0 :: []) .nx σ) :: .c (f28_p 31) 0 :: []) .nx (σ0 60 192 f28_sig xs) = f28_entry_B k (f28_o_l0 G_l0) xs.1 xs.2.1 := by kernel_rfl
def f28 (k : Nat) (a0 : Td12) (a1 : Int) : Option ((List Int) × Unit) := f28_entry_B k (f28_l0 k k) a0 a1
theorem f28_fe (k : Nat) : f28_a k [.c (f28_p 1) 0] = f28_a k (.c (f28_p 2) 0 :: .c (f28_p 6) 0 :: .c (f28_p 14) 0 :: .c (f28_p 60) 0 :: .j (fun σ => f28_a k (.j (fun σ => (f28_C_l0 k k) (cut f28_A.loops 0 σ)) :: .blk 0 :: .c (f28_p 31) 0 :: []) .nx σ) :: .c (f28_p 31) 0 :: []) := (Eq.trans ap_sq (ap_cons _ (Eq.trans ap_sq (ap_cons _ (Eq.trans ap_sq (ap_cons _ (Eq.trans ap_sq (Eq.trans ap_sq (ap_cons _ (Eq.trans (ap_bl 0) (Eq.trans (ap_j (Eq.trans (ap_lp (C := (f28_C_l0 k)) (fun _ _ => rfl)) (ap_cons _ (ap_cons _ (ap_cons _ rfl))))) (ap_cons _ (ap_cons _ rfl)))))))))))))
theorem f28_eq (k : Nat) (xs : DL f28_sig) : den T f28_Y (f28_E k) f28_A k f28_c 0 (σ0 60 192 f28_sig xs) (Kfin T f28_rs f28_ts) = f28 k xs.1 xs.2.1 :=
  Eq.trans (Eq.trans den_sb (ap_at (f28_fe k) _)) ((f28_entry_P k (f28_C_l0 k k) xs).trans (by rw [f28_l0_E k k] <;> rfl))
noncomputable def f28_con (k : Nat) : Con := ⟨f28_sig, f28_rs, fun xs => f28 k xs.1 xs.2.1⟩
theorem f28_ok (k : Nat) : PureOK Try.prog 28 f28_sig f28_rs (fun xs => f28 k xs.1 xs.2.1) :=
  (pure_of_den (k := k) (A := f28_A) (T := T) (Y := f28_Y) (E := f28_E k) (M := 192) (ts := f28_ts) T_ok ⟨f29_ok k, f54_ok k, f57_ok k, trivial⟩ ⟨f29_ent, f54_ent, f57_ent, trivial⟩ mixed (f := 28) (fn := Try.f28) (c := f28_c) (by kernel_rfl) (by kernel_rfl) (by kernel_rfl) (by decide) (by kernel_rfl)).congr fun xs => (f28_eq k xs).symm
theorem f28_ent : Ent Try.prog 28 := fun args w => by kernel_rfl
/-! ### terrier/iso.Nodes: function 39 -/
noncomputable def f39_c : Code := Try.f39.body.getD .skip
noncomputable abbrev f39_p (n : Nat) : Code := sb f39_c n
abbrev f39_sig : List PT := [(true, Tq9), (false, (.int .i64)), (false, (.int .i64))]
abbrev f39_rs : List RT := [.new (.int .i64), .d false (.int .i64)]
abbrev f39_ts : List RV := [.tmp 6, .tmp 7]
abbrev f39_S := St → Option (RDL f39_rs)
abbrev f39_L := List (Fr (RDL f39_rs))
def f39_Y : Tys := [(3, (.int .i64))]
noncomputable def f39_E (k : Nat) : Env := [(28, .c (f28_con k)), (64, .c (f64_con k))]
def f39_A : Ann := { loops := [(0, { mat := [(9, 38, (.int .i64))], slots := [(2, .id), (9, .id), (21, .id), (22, .id), (23, .id)], keys := [(21, []), (38, [])] })], regs := [(8, { mat := [(9, 38, (.int .i64))], slots := [(2, .id), (9, .id), (10, .id), (21, .id), (22, .id), (23, .id), (34, .bool)], keys := [(21, []), (38, [])] })], conds := [(9, { mat := [(9, 38, (.int .i64))], slots := [(2, .id), (9, .id), (21, .id), (22, .id), (23, .id)], keys := [(21, []), (38, [])] })] }
noncomputable abbrev f39_a (k : Nat) (F : f39_L) : Kont (RDL f39_rs) := ap T f39_Y (f39_E k) f39_A k (Kfin T f39_rs f39_ts) F
def f39_s_l0 (y21 : (List Int)) (y38 : (List Int)) (x2 : Int) (x22 : Int) (x23 : Int) : St := mkS 41 128 [(2, aI x2), (9, aO 38), (21, aO 21), (22, aI x22), (23, aI x23)] [(21, .vec (.int .i64) y21), (38, .vec (.int .i64) y38)]
abbrev f39_t_l0 := (List Int) → (List Int) → Int → Int → Int → Option ((List Int) × Int × Unit)
abbrev f39_o_l0 (R : f39_S) : f39_t_l0 := (fun y21 y38 x2 x22 x23 => R (f39_s_l0 y21 y38 x2 x22 x23))
noncomputable def f39_Q_l0 (k : Nat) (R_l0 : f39_S) : f39_L := [.c (f39_p 244) 0, .j (fun σ => R_l0 (cut f39_A.loops 0 σ)), .blk 0, .c (f39_p 31) 0]
noncomputable def f39_C_l0 (k : Nat) (n : Nat) (σ : St) : Option (RDL f39_rs) := loopK (fun σ K => den T f39_Y (f39_E k) f39_A k (f39_p 244) 0 σ K) (cut f39_A.loops 0) (f39_a k [.blk 0, .c (f39_p 31) 0]) n σ
def f39_s_r8 (y21 : (List Int)) (y38 : (List Int)) (x10 : Int) (x2 : Int) (x22 : Int) (x34 : Bool) : St := mkS 41 128 [(2, aI x2), (9, aO 38), (10, aI x10), (21, aO 21), (22, aI x22), (23, aI x10), (34, aB x34)] [(21, .vec (.int .i64) y21), (38, .vec (.int .i64) y38)]
abbrev f39_t_r8 := (List Int) → (List Int) → Int → Int → Int → Bool → Option ((List Int) × Int × Unit)
abbrev f39_o_r8 (R : f39_S) : f39_t_r8 := (fun y21 y38 x10 x2 x22 x34 => R (f39_s_r8 y21 y38 x10 x2 x22 x34))
noncomputable def f39_Q_r8 (k : Nat) (R_l0 : f39_S) : f39_L := [.c (f39_p 15667) 1, .blk 1, .c (f39_p 1959) 0, .j (fun σ => R_l0 (cut f39_A.loops 0 σ)), .blk 0, .c (f39_p 31) 0]
noncomputable def f39_C_r8 (k : Nat) (R_l0 : f39_S) : f39_S := fun σ => f39_a k (f39_Q_r8 k R_l0) .nx σ
def f39_s_c9 (y21 : (List Int)) (y38 : (List Int)) (x2 : Int) (x22 : Int) (x23 : Int) : St := mkS 41 128 [(2, aI x2), (9, aO 38), (21, aO 21), (22, aI x22), (23, aI x23)] [(21, .vec (.int .i64) y21), (38, .vec (.int .i64) y38)]
abbrev f39_t_c9 := (List Int) → (List Int) → Int → Int → Int → Option ((List Int) × Int × Unit)
abbrev f39_o_c9 (R : f39_S) : f39_t_c9 := (fun y21 y38 x2 x22 x23 => R (f39_s_c9 y21 y38 x2 x22 x23))
noncomputable def f39_Q_c9 (k : Nat) (R_l0 : f39_S) : f39_L := [.blk 1, .c (f39_p 1959) 0, .j (fun σ => R_l0 (cut f39_A.loops 0 σ)), .blk 0, .c (f39_p 31) 0]
noncomputable def f39_C_c9 (k : Nat) (R_l0 : f39_S) : f39_S := fun σ => f39_a k (f39_Q_c9 k R_l0) .nx σ
noncomputable def f39_F_c9 (k : Nat) (G_l0 : f39_S) : f39_L := .blk 1 :: .c (f39_p 1959) 0 :: .j (fun σ => G_l0 (cut f39_A.loops 0 σ)) :: .blk 0 :: .c (f39_p 31) 0 :: []
theorem f39_f_c9 (k : Nat) (R_l0 : f39_S) : f39_a k (f39_Q_c9 k R_l0) = f39_a k (f39_F_c9 k R_l0) := (ap_cons _ (ap_cons _ (ap_cons _ (ap_cons _ (ap_cons _ rfl)))))
noncomputable def f39_F_r8 (k : Nat) (G_l0 G_c9 : f39_S) : f39_L := .c (f39_p 15667) 1 :: .j G_c9 :: f39_F_c9 k G_l0
theorem f39_f_r8 (k : Nat) (R_l0 : f39_S) : f39_a k (f39_Q_r8 k R_l0) = f39_a k (f39_F_r8 k R_l0 (f39_C_c9 k R_l0)) := (ap_cons _ (Eq.trans (ap_pass (C := (f39_C_c9 k R_l0)) (fun _ => rfl)) (ap_cons _ (f39_f_c9 k R_l0))))
noncomputable def f39_F_l0 (k : Nat) (G_l0 G_r8 G_c9 : f39_S) : f39_L := .c (f39_p 488) 0 :: .c (f39_p 978) 0 :: .j (fun σ => f39_a k (.c (f39_p 7832) 1 :: .c (f39_p 15666) 1 :: .j G_r8 :: f39_F_r8 k G_l0 G_c9) .nx σ) :: .c (f39_p 1959) 0 :: .j (fun σ => G_l0 (cut f39_A.loops 0 σ)) :: .blk 0 :: .c (f39_p 31) 0 :: []
theorem f39_f_l0 (k : Nat) (R_l0 : f39_S) : f39_a k (f39_Q_l0 k R_l0) = f39_a k (f39_F_l0 k R_l0 (f39_C_r8 k R_l0) (f39_C_c9 k R_l0)) := (Eq.trans ap_sq (ap_cons _ (Eq.trans ap_sq (ap_cons _ (Eq.trans ap_sq (Eq.trans (ap_bl 1) (Eq.trans (ap_j (Eq.trans ap_sq (ap_cons _ (Eq.trans ap_sq (ap_cons _ (Eq.trans (ap_pass (C := (f39_C_r8 k R_l0)) (fun _ => rfl)) (ap_cons _ (f39_f_r8 k R_l0)))))))) (ap_cons _ (ap_cons _ (ap_cons _ (ap_cons _ (ap_cons _ rfl))))))))))))
def f39_entry_B (k : Nat) (g_l0 : f39_t_l0) (a0 : Td12) (a1 : Int) (a2 : Int) : Option ((List Int) × Int × Unit) := ((f64 k (a0.1, (a0.2.1, a0.2.2)) ([a1])).bind fun r1 => (if ¬ (r1.1 = 0) then some ([], r1.1, ()) else ((f28 k (a0.1, (a0.2.1, a0.2.2)) a1).bind fun r2 => (g_l0 r2.1 ([] : List Int) a2 (r2.1.length : Int) 0))))
def f39_l0_B (k : Nat) (g_r8 : f39_t_r8) (y21 : (List Int)) (y38 : (List Int)) (x2 : Int) (x22 : Int) (x23 : Int) : Option ((List Int) × Int × Unit) := (if x23 < x22 then (if 0 ≤ x23 then (if x23 < (y21.length : Int) then (if 0 ≤ (y21.getD ((x23).toNat) 0) then (g_r8 y21 y38 x23 x2 x22 (decide ((y21.getD ((x23).toNat) 0) ≤ x2))) else (g_r8 y21 y38 x23 x2 x22 false)) else none) else none) else some (y38, 0, ()))
def f39_r8_B (k : Nat) (g_c9 : f39_t_c9) (y21 : (List Int)) (y38 : (List Int)) (x10 : Int) (x2 : Int) (x22 : Int) (x34 : Bool) : Option ((List Int) × Int × Unit) := (if x34 = true then (if (y38.length + 1) * 8 ≤ 140737488355328 then (g_c9 y21 (y38 ++ [x10]) x2 x22 x10) else none) else (g_c9 y21 y38 x2 x22 x10))
def f39_c9_B (k : Nat) (g_l0 : f39_t_l0) (y21 : (List Int)) (y38 : (List Int)) (x2 : Int) (x22 : Int) (x23 : Int) : Option ((List Int) × Int × Unit) := (g_l0 y21 y38 x2 x22 (w64 (x23 + 1)))
theorem f39_c9_P (k : Nat) (G_l0 : f39_S) : f39_o_c9 (fun σ => f39_a k (f39_F_c9 k G_l0) .nx σ) = f39_c9_B k (f39_o_l0 G_l0) := by kernel_rfl
def f39_c9 (k : Nat) (r_l0 : f39_t_l0) : f39_t_c9 := f39_c9_B k r_l0
theorem f39_c9_E (k : Nat) (R_l0 : f39_S) : f39_o_c9 (f39_C_c9 k R_l0) = f39_c9 k (f39_o_l0 R_l0) :=
  Eq.trans (congrArg f39_o_c9 (ap_fn (f39_f_c9 k R_l0))) ((f39_c9_P k R_l0).trans (by rfl))
theorem f39_r8_P (k : Nat) (G_l0 G_c9 : f39_S) : f39_o_r8 (fun σ => f39_a k (f39_F_r8 k G_l0 G_c9) .nx σ) = f39_r8_B k (f39_o_c9 G_c9) := by kernel_rfl
def f39_r8 (k : Nat) (r_l0 : f39_t_l0) : f39_t_r8 := f39_r8_B k (f39_c9 k r_l0)
theorem f39_r8_E (k : Nat) (R_l0 : f39_S) : f39_o_r8 (f39_C_r8 k R_l0) = f39_r8 k (f39_o_l0 R_l0) :=
  Eq.trans (congrArg f39_o_r8 (ap_fn (f39_f_r8 k R_l0))) ((f39_r8_P k R_l0 (f39_C_c9 k R_l0)).trans (by rw [f39_c9_E k R_l0] <;> rfl))
theorem f39_l0_P (k : Nat) (G_l0 G_r8 G_c9 : f39_S) : f39_o_l0 (fun σ => f39_a k (f39_F_l0 k G_l0 G_r8 G_c9) .nx σ) = f39_l0_B k (f39_o_r8 G_r8) := by kernel_rfl
def f39_l0 (k : Nat) : Nat → f39_t_l0
  | 0 => fun _ _ _ _ _ => none
  | n + 1 => f39_l0_B k (f39_r8 k (f39_l0 k n))
theorem f39_l0_E (k : Nat) : ∀ n, f39_o_l0 (f39_C_l0 k n) = f39_l0 k n
  | 0 => rfl
  | n + 1 =>
    Eq.trans (congrArg f39_o_l0 (Eq.trans (b := fun σ => f39_a k (f39_Q_l0 k (f39_C_l0 k n)) .nx σ) (by kernel_rfl) (ap_fn (f39_f_l0 k (f39_C_l0 k n))))) ((f39_l0_P k (f39_C_l0 k n) (f39_C_r8 k (f39_C_l0 k n)) (f39_C_c9 k (f39_C_l0 k n))).trans (by rw [f39_r8_E k (f39_C_l0 k n), f39_l0_E k n] <;> rfl))
theorem f39_entry_P (k : Nat) (G_l0 : f39_S) (xs : DL f39_sig) : f39_a k (.c (f39_p 2) 0 :: .c (f39_p 6) 0 :: .c (f39_p 14) 0 :: .c (f39_p 60) 0 :: .j (fun σ => f39_a k (.j (fun σ => G_l0 (cut f39_A.loops 0 σ)) :: .blk 0 :: .c (f39_p 31) 0 :: []) .nx σ) :: .c (f39_p 31) 0 :: []) .nx (σ0 41 128 f39_sig xs) = f39_entry_B k (f39_o_l0 G_l0) xs.1 xs.2.1 xs.2.2.1 := by kernel_rfl
def f39 (k : Nat) (a0 : Td12) (a1 : Int) (a2 : Int) : Option ((List Int) × Int × Unit) := f39_entry_B k (f39_l0 k k) a0 a1 a2
theorem f39_fe (k : Nat) : f39_a k [.c (f39_p 1) 0] = f39_a k (.c (f39_p 2) 0 :: .c (f39_p 6) 0 :: .c (f39_p 14) 0 :: .c (f39_p 60) 0 :: .j (fun σ => f39_a k (.j (fun σ => (f39_C_l0 k k) (cut f39_A.loops 0 σ)) :: .blk 0 :: .c (f39_p 31) 0 :: []) .nx σ) :: .c (f39_p 31) 0 :: []) := (Eq.trans ap_sq (ap_cons _ (Eq.trans ap_sq (ap_cons _ (Eq.trans ap_sq (ap_cons _ (Eq.trans ap_sq (Eq.trans ap_sq (ap_cons _ (Eq.trans (ap_bl 0) (Eq.trans (ap_j (Eq.trans (ap_lp (C := (f39_C_l0 k)) (fun _ _ => rfl)) (ap_cons _ (ap_cons _ (ap_cons _ rfl))))) (ap_cons _ (ap_cons _ rfl)))))))))))))
theorem f39_eq (k : Nat) (xs : DL f39_sig) : den T f39_Y (f39_E k) f39_A k f39_c 0 (σ0 41 128 f39_sig xs) (Kfin T f39_rs f39_ts) = f39 k xs.1 xs.2.1 xs.2.2.1 :=
  Eq.trans (Eq.trans den_sb (ap_at (f39_fe k) _)) ((f39_entry_P k (f39_C_l0 k k) xs).trans (by rw [f39_l0_E k k] <;> rfl))
noncomputable def f39_con (k : Nat) : Con := ⟨f39_sig, f39_rs, fun xs => f39 k xs.1 xs.2.1 xs.2.2.1⟩
theorem f39_ok (k : Nat) : PureOK Try.prog 39 f39_sig f39_rs (fun xs => f39 k xs.1 xs.2.1 xs.2.2.1) :=
  (pure_of_den (k := k) (A := f39_A) (T := T) (Y := f39_Y) (E := f39_E k) (M := 128) (ts := f39_ts) T_ok ⟨f28_ok k, f64_ok k, trivial⟩ ⟨f28_ent, f64_ent, trivial⟩ mixed (f := 39) (fn := Try.f39) (c := f39_c) (by kernel_rfl) (by kernel_rfl) (by kernel_rfl) (by decide) (by kernel_rfl)).congr fun xs => (f39_eq k xs).symm
theorem f39_ent : Ent Try.prog 39 := fun args w => by kernel_rfl
/-! ### slices.Sort[[]int,int]: function 41, off the shelf -/
abbrev f41_sig : List PT := []
abbrev f41_rs : List RT := []
abbrev f41_ls : List LO := [.row (.int .i64)]
def f41 (k : Nat) (a : (List Int)) : Option (((List Int) × Unit) × Unit) := sortF a
noncomputable def f41_con (k : Nat) : BCon := ⟨0, true, f41_ls, f41_sig, f41_rs, fun x xs => f41 k x.1⟩
theorem f41_ok (k : Nat) : BoxOK Try.prog 41 0 true f41_ls f41_sig f41_rs (fun x xs => f41 k x.1) := sort_box Try.lays189
theorem f41_ent : Ent Try.prog 41 := fun args w => by kernel_rfl
/-! ### slices.Compact[[]int,int]: function 42 -/
noncomputable def f42_c : Code := Try.f42.body.getD .skip
noncomputable abbrev f42_p (n : Nat) : Code := sb f42_c n
abbrev f42_sig : List PT := []
abbrev f42_rs : List RT := []
abbrev f42_ts : List RV := [.tmp 2]
abbrev f42_ls : List LO := [.row (.int .i64)]
abbrev f42_S := St → Option (LOD f42_ls × RDL f42_rs)
abbrev f42_L := List (Fr (LOD f42_ls × RDL f42_rs))
def f42_Y : Tys := [(1000059, (.int .i64))]
noncomputable def f42_E (k : Nat) : Env := []
def f42_A : Ann := { loops := [(0, { slots := [(0, .id), (3, .id)], keys := [(0, [])] }), (2, { slots := [(0, .id), (3, .id), (4, .id), (5, .id)], keys := [(0, [])] })], conds := [(7, { slots := [(0, .id), (3, .id)], keys := [(0, [])] }), (12, { slots := [(0, .id), (3, .id), (4, .id), (5, .id)], keys := [(0, [])] })] }
noncomputable abbrev f42_a (k : Nat) (F : f42_L) : Kont (LOD f42_ls × RDL f42_rs) := ap T f42_Y (f42_E k) f42_A k (KfinB T false f42_ls f42_rs f42_ts) F
def f42_s_l0 (y0 : (List Int)) (x3 : Int) : St := mkS 61 192 [(0, aO 0), (3, aI x3)] [(0, .vec (.int .i64) y0)]
abbrev f42_t_l0 := (List Int) → Int → Option (((List Int) × Unit) × (Unit))
abbrev f42_o_l0 (R : f42_S) : f42_t_l0 := (fun y0 x3 => R (f42_s_l0 y0 x3))
noncomputable def f42_Q_l0 (k : Nat) (R_l0 : f42_S) : f42_L := [.c (f42_p 116) 0, .j (fun σ => R_l0 (cut f42_A.loops 0 σ)), .blk 0, .c (f42_p 15) 0]
noncomputable def f42_C_l0 (k : Nat) (n : Nat) (σ : St) : Option (LOD f42_ls × RDL f42_rs) := loopK (fun σ K => den T f42_Y (f42_E k) f42_A k (f42_p 116) 0 σ K) (cut f42_A.loops 0) (f42_a k [.blk 0, .c (f42_p 15) 0]) n σ
def f42_s_l2 (y0 : (List Int)) (x3 : Int) (x4_lo : Nat) (x4_n : Nat) (x5 : Int) : St := mkS 61 192 [(0, aO 0), (3, aI x3), (4, .cp (.one (.part 0 1 x4_lo x4_n))), (5, aI x5)] [(0, .vec (.int .i64) y0)]
abbrev f42_t_l2 := (List Int) → Int → Nat → Nat → Int → Option (((List Int) × Unit) × (Unit))
abbrev f42_o_l2 (R : f42_S) : f42_t_l2 := (fun y0 x3 x4_lo x4_n x5 => R (f42_s_l2 y0 x3 x4_lo x4_n x5))
noncomputable def f42_Q_l2 (k : Nat) (R_l0 R_l2 : f42_S) : f42_L := [.c (f42_p 119380) 2, .j (fun σ => R_l2 (cut f42_A.loops 2 σ)), .blk 2, .c (f42_p 14923) 1, .cond 7, .blk 1, .c (f42_p 467) 0, .j (fun σ => R_l0 (cut f42_A.loops 0 σ)), .blk 0, .c (f42_p 15) 0]
noncomputable def f42_C_l2 (k : Nat) (R_l0 : f42_S) (n : Nat) (σ : St) : Option (LOD f42_ls × RDL f42_rs) := loopK (fun σ K => den T f42_Y (f42_E k) f42_A k (f42_p 119380) 2 σ K) (cut f42_A.loops 2) (f42_a k [.blk 2, .c (f42_p 14923) 1, .cond 7, .blk 1, .c (f42_p 467) 0, .j (fun σ => R_l0 (cut f42_A.loops 0 σ)), .blk 0, .c (f42_p 15) 0]) n σ
def f42_s_c7 (y0 : (List Int)) (x3 : Int) : St := mkS 61 192 [(0, aO 0), (3, aI x3)] [(0, .vec (.int .i64) y0)]
abbrev f42_t_c7 := (List Int) → Int → Option (((List Int) × Unit) × (Unit))
abbrev f42_o_c7 (R : f42_S) : f42_t_c7 := (fun y0 x3 => R (f42_s_c7 y0 x3))
noncomputable def f42_Q_c7 (k : Nat) (R_l0 : f42_S) : f42_L := [.blk 1, .c (f42_p 467) 0, .j (fun σ => R_l0 (cut f42_A.loops 0 σ)), .blk 0, .c (f42_p 15) 0]
noncomputable def f42_C_c7 (k : Nat) (R_l0 : f42_S) : f42_S := fun σ => f42_a k (f42_Q_c7 k R_l0) .nx σ
def f42_s_c12 (y0 : (List Int)) (x3 : Int) (x4_lo : Nat) (x4_n : Nat) (x5 : Int) : St := mkS 61 192 [(0, aO 0), (3, aI x3), (4, .cp (.one (.part 0 1 x4_lo x4_n))), (5, aI x5)] [(0, .vec (.int .i64) y0)]
abbrev f42_t_c12 := (List Int) → Int → Nat → Nat → Int → Option (((List Int) × Unit) × (Unit))
abbrev f42_o_c12 (R : f42_S) : f42_t_c12 := (fun y0 x3 x4_lo x4_n x5 => R (f42_s_c12 y0 x3 x4_lo x4_n x5))
noncomputable def f42_Q_c12 (k : Nat) (R_l2 R_l0 : f42_S) : f42_L := [.blk 3, .c (f42_p 477523) 2, .j (fun σ => R_l2 (cut f42_A.loops 2 σ)), .blk 2, .c (f42_p 14923) 1, .cond 7, .blk 1, .c (f42_p 467) 0, .j (fun σ => R_l0 (cut f42_A.loops 0 σ)), .blk 0, .c (f42_p 15) 0]
noncomputable def f42_C_c12 (k : Nat) (R_l2 R_l0 : f42_S) : f42_S := fun σ => f42_a k (f42_Q_c12 k R_l2 R_l0) .nx σ
noncomputable def f42_F_c7 (k : Nat) (G_l0 : f42_S) : f42_L := .blk 1 :: .c (f42_p 467) 0 :: .j (fun σ => G_l0 (cut f42_A.loops 0 σ)) :: .blk 0 :: .c (f42_p 15) 0 :: []
theorem f42_f_c7 (k : Nat) (R_l0 : f42_S) : f42_a k (f42_Q_c7 k R_l0) = f42_a k (f42_F_c7 k R_l0) := (ap_cons _ (ap_cons _ (ap_cons _ (ap_cons _ (ap_cons _ rfl)))))
noncomputable def f42_F_l0 (k : Nat) (G_l0 G_l2 G_c7 : f42_S) : f42_L := .c (f42_p 232) 0 :: .j (fun σ => f42_a k (.c (f42_p 1864) 1 :: .i (.tmp 25) (fun σ => f42_a k (.c (f42_p 7460) 1 :: .c (f42_p 29844) 1 :: .j (fun σ => f42_a k (.j (fun σ => G_l2 (cut f42_A.loops 2 σ)) :: .blk 2 :: .c (f42_p 14923) 1 :: .j (fun σ => G_c7 (cut f42_A.conds 7 σ)) :: f42_F_c7 k G_l0) .nx σ) :: .c (f42_p 14923) 1 :: .j (fun σ => G_c7 (cut f42_A.conds 7 σ)) :: f42_F_c7 k G_l0) .nx σ) (fun σ => f42_a k (.c (f42_p 3731) 1 :: .j (fun σ => G_c7 (cut f42_A.conds 7 σ)) :: f42_F_c7 k G_l0) .nx σ) :: f42_F_c7 k G_l0) .nx σ) :: .c (f42_p 467) 0 :: .j (fun σ => G_l0 (cut f42_A.loops 0 σ)) :: .blk 0 :: .c (f42_p 15) 0 :: []
theorem f42_f_l0 (k : Nat) (R_l0 : f42_S) : f42_a k (f42_Q_l0 k R_l0) = f42_a k (f42_F_l0 k R_l0 (f42_C_l2 k R_l0 k) (f42_C_c7 k R_l0)) := (Eq.trans ap_sq (ap_cons _ (Eq.trans ap_sq (Eq.trans (ap_bl 1) (Eq.trans (ap_j (Eq.trans ap_sq (ap_cons _ (Eq.trans (ap_cn (.tmp 25) 7) (Eq.trans (ap_i (Eq.trans ap_sq (ap_cons _ (Eq.trans ap_sq (Eq.trans ap_sq (ap_cons _ (Eq.trans (ap_bl 2) (Eq.trans (ap_j (Eq.trans (ap_lp (C := (f42_C_l2 k R_l0)) (fun _ _ => rfl)) (ap_cons _ (ap_cons _ (ap_cons _ (Eq.trans (ap_condj (C := (f42_C_c7 k R_l0)) (fun _ => rfl)) (ap_cons _ (f42_f_c7 k R_l0)))))))) (ap_cons _ (ap_cons _ (Eq.trans (ap_condj (C := (f42_C_c7 k R_l0)) (fun _ => rfl)) (ap_cons _ (f42_f_c7 k R_l0)))))))))))) (ap_cons _ (Eq.trans (ap_condj (C := (f42_C_c7 k R_l0)) (fun _ => rfl)) (ap_cons _ (f42_f_c7 k R_l0))))) (ap_cons _ (f42_f_c7 k R_l0))))))) (ap_cons _ (ap_cons _ (ap_cons _ (ap_cons _ (ap_cons _ rfl))))))))))
noncomputable def f42_F_c12 (k : Nat) (G_l0 G_l2 G_c7 : f42_S) : f42_L := .blk 3 :: .c (f42_p 477523) 2 :: .j (fun σ => G_l2 (cut f42_A.loops 2 σ)) :: .blk 2 :: .c (f42_p 14923) 1 :: .j (fun σ => G_c7 (cut f42_A.conds 7 σ)) :: f42_F_c7 k G_l0
theorem f42_f_c12 (k : Nat) (R_l2 R_l0 : f42_S) : f42_a k (f42_Q_c12 k R_l2 R_l0) = f42_a k (f42_F_c12 k R_l0 R_l2 (f42_C_c7 k R_l0)) := (ap_cons _ (ap_cons _ (ap_cons _ (ap_cons _ (ap_cons _ (Eq.trans (ap_condj (C := (f42_C_c7 k R_l0)) (fun _ => rfl)) (ap_cons _ (f42_f_c7 k R_l0))))))))
noncomputable def f42_F_l2 (k : Nat) (G_l0 G_l2 G_c7 G_c12 : f42_S) : f42_L := .c (f42_p 238760) 2 :: .j (fun σ => f42_a k (.c (f42_p 1910088) 3 :: .c (f42_p 1910089) 3 :: .j G_c12 :: f42_F_c12 k G_l0 G_l2 G_c7) .nx σ) :: .c (f42_p 477523) 2 :: .j (fun σ => G_l2 (cut f42_A.loops 2 σ)) :: .blk 2 :: .c (f42_p 14923) 1 :: .j (fun σ => G_c7 (cut f42_A.conds 7 σ)) :: f42_F_c7 k G_l0
theorem f42_f_l2 (k : Nat) (R_l0 R_l2 : f42_S) : f42_a k (f42_Q_l2 k R_l0 R_l2) = f42_a k (f42_F_l2 k R_l0 R_l2 (f42_C_c7 k R_l0) (f42_C_c12 k R_l2 R_l0)) := (Eq.trans ap_sq (ap_cons _ (Eq.trans ap_sq (Eq.trans (ap_bl 3) (Eq.trans (ap_j (Eq.trans ap_sq (ap_cons _ (ap_cons _ (Eq.trans (ap_pass (C := (f42_C_c12 k R_l2 R_l0)) (fun _ => rfl)) (ap_cons _ (f42_f_c12 k R_l2 R_l0))))))) (ap_cons _ (ap_cons _ (ap_cons _ (ap_cons _ (ap_cons _ (Eq.trans (ap_condj (C := (f42_C_c7 k R_l0)) (fun _ => rfl)) (ap_cons _ (f42_f_c7 k R_l0)))))))))))))
def f42_entry_B (k : Nat) (g_l0 : f42_t_l0) (a : (List Int)) : Option (((List Int) × Unit) × (Unit)) := (if (a.length : Int) < 2 then some ((a, ()), (())) else (g_l0 a 1))
def f42_l0_B (k : Nat) (g_l2 : f42_t_l2) (g_c7 : f42_t_c7) (y0 : (List Int)) (x3 : Int) : Option (((List Int) × Unit) × (Unit)) := (if x3 < (y0.length : Int) then (if 0 ≤ x3 then (if x3 < (y0.length : Int) then (if 0 ≤ (w64 (x3 - 1)) then (if (w64 (x3 - 1)) < (y0.length : Int) then (if (y0.getD ((x3).toNat) 0) = (y0.getD ((w64 (x3 - 1)).toNat) 0) then (if 0 ≤ x3 then (if x3 ≤ (y0.length : Int) then (g_l2 y0 x3 ((x3).toNat) ((y0.length : Int).toNat - (x3).toNat) 1) else none) else none) else (g_c7 y0 x3)) else none) else none) else none) else none) else some ((y0, ()), (())))
def f42_l2_B (k : Nat) (g_c12 : f42_t_c12) (y0 : (List Int)) (x3 : Int) (x4_lo : Nat) (x4_n : Nat) (x5 : Int) : Option (((List Int) × Unit) × (Unit)) := (if x5 < (x4_n : Int) then (if 0 ≤ x5 then (if x5 < (x4_n : Int) then (if 0 ≤ (w64 (x5 - 1)) then (if (w64 (x5 - 1)) < (x4_n : Int) then (if ¬ ((y0.getD (x4_lo + (x5).toNat) 0) = (y0.getD (x4_lo + (w64 (x5 - 1)).toNat) 0)) then (if 0 ≤ x5 then (if x5 < (x4_n : Int) then (if 0 ≤ x3 then (if x3 < (y0.length : Int) then (g_c12 (y0.set ((x3).toNat) (y0.getD (x4_lo + (x5).toNat) 0)) (w64 (x3 + 1)) x4_lo x4_n x5) else none) else none) else none) else none) else (g_c12 y0 x3 x4_lo x4_n x5)) else none) else none) else none) else none) else (if 0 ≤ x3 then (if x3 ≤ (y0.length : Int) then (if 0 ≤ x3 then (if x3 ≤ ((clrL y0 (0 : Int) ((x3).toNat) ((y0.length : Int).toNat - (x3).toNat)).length : Int) then some ((((clrL y0 (0 : Int) ((x3).toNat) ((y0.length : Int).toNat - (x3).toNat)).take (x3).toNat), ()), (())) else none) else none) else none) else none))
def f42_c7_B (k : Nat) (g_l0 : f42_t_l0) (y0 : (List Int)) (x3 : Int) : Option (((List Int) × Unit) × (Unit)) := (g_l0 y0 (w64 (x3 + 1)))
def f42_c12_B (k : Nat) (g_l2 : f42_t_l2) (y0 : (List Int)) (x3 : Int) (x4_lo : Nat) (x4_n : Nat) (x5 : Int) : Option (((List Int) × Unit) × (Unit)) := (g_l2 y0 x3 x4_lo x4_n (w64 (x5 + 1)))
theorem f42_c12_P (k : Nat) (G_l0 G_l2 G_c7 : f42_S) : f42_o_c12 (fun σ => f42_a k (f42_F_c12 k G_l0 G_l2 G_c7) .nx σ) = f42_c12_B k (f42_o_l2 G_l2) := by kernel_rfl
def f42_c12 (k : Nat) (r_l2 : f42_t_l2) (r_l0 : f42_t_l0) : f42_t_c12 := f42_c12_B k r_l2
theorem f42_c12_E (k : Nat) (R_l2 R_l0 : f42_S) : f42_o_c12 (f42_C_c12 k R_l2 R_l0) = f42_c12 k (f42_o_l2 R_l2) (f42_o_l0 R_l0) :=
  Eq.trans (congrArg f42_o_c12 (ap_fn (f42_f_c12 k R_l2 R_l0))) ((f42_c12_P k R_l0 R_l2 (f42_C_c7 k R_l0)).trans (by rfl))
theorem f42_l2_P (k : Nat) (G_l0 G_l2 G_c7 G_c12 : f42_S) : f42_o_l2 (fun σ => f42_a k (f42_F_l2 k G_l0 G_l2 G_c7 G_c12) .nx σ) = f42_l2_B k (f42_o_c12 G_c12) := by kernel_rfl
def f42_l2 (k : Nat) (r_l0 : f42_t_l0) : Nat → f42_t_l2
  | 0 => fun _ _ _ _ _ => none
  | n + 1 => f42_l2_B k (f42_c12 k (f42_l2 k r_l0 n) r_l0)
theorem f42_l2_E (k : Nat) (R_l0 : f42_S) : ∀ n, f42_o_l2 (f42_C_l2 k R_l0 n) = f42_l2 k (f42_o_l0 R_l0) n
  | 0 => rfl
  | n + 1 =>
    Eq.trans (congrArg f42_o_l2 (Eq.trans (b := fun σ => f42_a k (f42_Q_l2 k R_l0 (f42_C_l2 k R_l0 n)) .nx σ) (by kernel_rfl) (ap_fn (f42_f_l2 k R_l0 (f42_C_l2 k R_l0 n))))) ((f42_l2_P k R_l0 (f42_C_l2 k R_l0 n) (f42_C_c7 k R_l0) (f42_C_c12 k (f42_C_l2 k R_l0 n) R_l0)).trans (by rw [f42_c12_E k (f42_C_l2 k R_l0 n) R_l0, f42_l2_E k R_l0 n] <;> rfl))
theorem f42_c7_P (k : Nat) (G_l0 : f42_S) : f42_o_c7 (fun σ => f42_a k (f42_F_c7 k G_l0) .nx σ) = f42_c7_B k (f42_o_l0 G_l0) := by kernel_rfl
def f42_c7 (k : Nat) (r_l0 : f42_t_l0) : f42_t_c7 := f42_c7_B k r_l0
theorem f42_c7_E (k : Nat) (R_l0 : f42_S) : f42_o_c7 (f42_C_c7 k R_l0) = f42_c7 k (f42_o_l0 R_l0) :=
  Eq.trans (congrArg f42_o_c7 (ap_fn (f42_f_c7 k R_l0))) ((f42_c7_P k R_l0).trans (by rfl))
theorem f42_l0_P (k : Nat) (G_l0 G_l2 G_c7 : f42_S) : f42_o_l0 (fun σ => f42_a k (f42_F_l0 k G_l0 G_l2 G_c7) .nx σ) = f42_l0_B k (f42_o_l2 G_l2) (f42_o_c7 G_c7) := by kernel_rfl
def f42_l0 (k : Nat) : Nat → f42_t_l0
  | 0 => fun _ _ => none
  | n + 1 => f42_l0_B k (f42_l2 k (f42_l0 k n) k) (f42_c7 k (f42_l0 k n))
theorem f42_l0_E (k : Nat) : ∀ n, f42_o_l0 (f42_C_l0 k n) = f42_l0 k n
  | 0 => rfl
  | n + 1 =>
    Eq.trans (congrArg f42_o_l0 (Eq.trans (b := fun σ => f42_a k (f42_Q_l0 k (f42_C_l0 k n)) .nx σ) (by kernel_rfl) (ap_fn (f42_f_l0 k (f42_C_l0 k n))))) ((f42_l0_P k (f42_C_l0 k n) (f42_C_l2 k (f42_C_l0 k n) k) (f42_C_c7 k (f42_C_l0 k n))).trans (by rw [f42_l2_E k (f42_C_l0 k n) k, f42_c7_E k (f42_C_l0 k n), f42_l0_E k n] <;> rfl))
theorem f42_entry_P (k : Nat) (G_l0 : f42_S) (x : LOD f42_ls) (xs : DL f42_sig) : f42_a k (.c (f42_p 2) 0 :: .c (f42_p 6) 0 :: .c (f42_p 28) 0 :: .j (fun σ => f42_a k (.j (fun σ => G_l0 (cut f42_A.loops 0 σ)) :: .blk 0 :: .c (f42_p 15) 0 :: []) .nx σ) :: .c (f42_p 15) 0 :: []) .nx (σ0B 61 192 0 f42_ls x f42_sig xs) = f42_entry_B k (f42_o_l0 G_l0) x.1 := by kernel_rfl
def f42 (k : Nat) (a : (List Int)) : Option (((List Int) × Unit) × (Unit)) := f42_entry_B k (f42_l0 k k) a
theorem f42_fe (k : Nat) : f42_a k [.c (f42_p 1) 0] = f42_a k (.c (f42_p 2) 0 :: .c (f42_p 6) 0 :: .c (f42_p 28) 0 :: .j (fun σ => f42_a k (.j (fun σ => (f42_C_l0 k k) (cut f42_A.loops 0 σ)) :: .blk 0 :: .c (f42_p 15) 0 :: []) .nx σ) :: .c (f42_p 15) 0 :: []) := (Eq.trans ap_sq (ap_cons _ (Eq.trans ap_sq (ap_cons _ (Eq.trans ap_sq (Eq.trans ap_sq (ap_cons _ (Eq.trans (ap_bl 0) (Eq.trans (ap_j (Eq.trans (ap_lp (C := (f42_C_l0 k)) (fun _ _ => rfl)) (ap_cons _ (ap_cons _ (ap_cons _ rfl))))) (ap_cons _ (ap_cons _ rfl)))))))))))
theorem f42_eq (k : Nat) (x : LOD f42_ls) (xs : DL f42_sig) : den T f42_Y (f42_E k) f42_A k f42_c 0 (σ0B 61 192 0 f42_ls x f42_sig xs) (KfinB T false f42_ls f42_rs f42_ts) = f42 k x.1 :=
  Eq.trans (Eq.trans den_sb (ap_at (f42_fe k) _)) ((f42_entry_P k (f42_C_l0 k k) x xs).trans (by rw [f42_l0_E k k] <;> rfl))
noncomputable def f42_con (k : Nat) : BCon := ⟨0, false, f42_ls, f42_sig, f42_rs, fun x xs => f42 k x.1⟩
theorem f42_ok (k : Nat) : BoxOK Try.prog 42 0 false f42_ls f42_sig f42_rs (fun x xs => f42 k x.1) :=
  (box_of_den (k := k) (A := f42_A) (T := T) (Y := f42_Y) (E := f42_E k) (M := 192) (ts := f42_ts) T_ok trivial trivial mixed (f := 42) (fn := Try.f42) (c := f42_c) (by kernel_rfl) (by kernel_rfl) (by kernel_rfl) (by decide) (by kernel_rfl) (by decide)).congr fun x xs => (f42_eq k x xs).symm
theorem f42_ent : Ent Try.prog 42 := fun args w => by kernel_rfl
/-! ### terrier/terrkeep4.IsoGrows: function 12 -/
noncomputable def f12_c : Code := Try.f12.body.getD .skip
noncomputable abbrev f12_p (n : Nat) : Code := sb f12_c n
abbrev f12_sig : List PT := [(false, Tq1), (false, (.int .i64)), (false, (.int .i64))]
abbrev f12_rs : List RT := [.d false .bool]
abbrev f12_ts : List RV := [.tmp 6]
abbrev f12_S := St → Option (RDL f12_rs)
abbrev f12_L := List (Fr (RDL f12_rs))
def f12_Y : Tys := [(3, (.int .i64))]
noncomputable def f12_E (k : Nat) : Env := [(13, .c (f13_con k)), (15, .c (f15_con k)), (20, .c (f20_con k)), (37, .c (f37_con k)), (38, .c (f38_con k)), (39, .c (f39_con k)), (40, .c (f40_con k)), (41, .b (f41_con k)), (42, .b (f42_con k))]
def f12_A : Ann := { regs := [(6, { slots := [(7, .id), (9, .id), (11, .id), (13, .id), (58, .bool)], keys := [(7, [.val false Tq2, .val false Tq6, .val false Tq2]), (27, []), (36, []), (42, [])] }), (12, { slots := [(7, .id), (9, .id), (11, .id), (15, .id), (17, .id), (60, .id), (61, .id), (62, .id), (88, .bool)], keys := [(7, [.val false Tq2, .val false Tq6, .val false Tq2]), (17, []), (27, []), (36, []), (42, []), (59, [])] })], loops := [(0, { slots := [(7, .id), (9, .id), (11, .id), (15, .id), (60, .id), (61, .id), (62, .id)], keys := [(7, [.val false Tq2, .val false Tq6, .val false Tq2]), (27, []), (36, []), (42, []), (59, [])] }), (2, { slots := [(9, .id), (11, .id), (15, .id), (112, .id), (113, .id), (114, .id)], keys := [(27, []), (36, []), (59, [])] })], conds := [(15, { slots := [(7, .id), (9, .id), (11, .id), (15, .id), (60, .id), (61, .id), (62, .id)], keys := [(7, [.val false Tq2, .val false Tq6, .val false Tq2]), (27, []), (36, []), (42, []), (59, [])] })] }
noncomputable abbrev f12_a (k : Nat) (F : f12_L) : Kont (RDL f12_rs) := ap T f12_Y (f12_E k) f12_A k (Kfin T f12_rs f12_ts) F
def f12_s_r6 (y27 : (List Int)) (y36 : (List Int)) (y42 : (List (Int × Int))) (y7_0 : (List (Int × Int))) (y7_1 : (List (Int × (Int × (Int × Int))))) (y7_2 : (List (Int × Int))) (x58 : Bool) : St := mkS 127 384 [(7, aP 7), (9, aO 27), (11, aO 36), (13, aO 42), (58, aB x58)] [(7, .box [cV Tq2 y7_0, cV Tq6 y7_1, cV Tq2 y7_2]), (27, .vec (.int .i64) y27), (36, .vec (.int .i64) y36), (42, .vec Tq2 y42)]
abbrev f12_t_r6 := (List Int) → (List Int) → (List (Int × Int)) → (List (Int × Int)) → (List (Int × (Int × (Int × Int)))) → (List (Int × Int)) → Bool → Option (Bool × Unit)
abbrev f12_o_r6 (R : f12_S) : f12_t_r6 := (fun y27 y36 y42 y7_0 y7_1 y7_2 x58 => R (f12_s_r6 y27 y36 y42 y7_0 y7_1 y7_2 x58))
noncomputable def f12_Q_r6 (k : Nat) : f12_L := [.c (f12_p 509) 0, .c (f12_p 255) 0]
noncomputable def f12_C_r6 (k : Nat) : f12_S := fun σ => f12_a k (f12_Q_r6 k) .nx σ
def f12_s_l0 (y27 : (List Int)) (y36 : (List Int)) (y42 : (List (Int × Int))) (y59 : (List Int)) (y7_0 : (List (Int × Int))) (y7_1 : (List (Int × (Int × (Int × Int))))) (y7_2 : (List (Int × Int))) (x61 : Int) (x62 : Int) : St := mkS 127 384 [(7, aP 7), (9, aO 27), (11, aO 36), (15, aO 59), (60, aO 42), (61, aI x61), (62, aI x62)] [(7, .box [cV Tq2 y7_0, cV Tq6 y7_1, cV Tq2 y7_2]), (27, .vec (.int .i64) y27), (36, .vec (.int .i64) y36), (42, .vec Tq2 y42), (59, .vec (.int .i64) y59)]
abbrev f12_t_l0 := (List Int) → (List Int) → (List (Int × Int)) → (List Int) → (List (Int × Int)) → (List (Int × (Int × (Int × Int)))) → (List (Int × Int)) → Int → Int → Option (Bool × Unit)
abbrev f12_o_l0 (R : f12_S) : f12_t_l0 := (fun y27 y36 y42 y59 y7_0 y7_1 y7_2 x61 x62 => R (f12_s_l0 y27 y36 y42 y59 y7_0 y7_1 y7_2 x61 x62))
noncomputable def f12_Q_l0 (k : Nat) (R_l0 : f12_S) : f12_L := [.c (f12_p 8180) 0, .j (fun σ => R_l0 (cut f12_A.loops 0 σ)), .blk 0, .c (f12_p 1023) 0]
noncomputable def f12_C_l0 (k : Nat) (n : Nat) (σ : St) : Option (RDL f12_rs) := loopK (fun σ K => den T f12_Y (f12_E k) f12_A k (f12_p 8180) 0 σ K) (cut f12_A.loops 0) (f12_a k [.blk 0, .c (f12_p 1023) 0]) n σ
def f12_s_r12 (y17_0 : Int) (y17_1 : Int) (y27 : (List Int)) (y36 : (List Int)) (y42 : (List (Int × Int))) (y59 : (List Int)) (y7_0 : (List (Int × Int))) (y7_1 : (List (Int × (Int × (Int × Int))))) (y7_2 : (List (Int × Int))) (x61 : Int) (x62 : Int) (x88 : Bool) : St := mkS 127 384 [(7, aP 7), (9, aO 27), (11, aO 36), (15, aO 59), (17, aP 17), (60, aO 42), (61, aI x61), (62, aI x62), (88, aB x88)] [(7, .box [cV Tq2 y7_0, cV Tq6 y7_1, cV Tq2 y7_2]), (17, .box [cI y17_0, cI y17_1]), (27, .vec (.int .i64) y27), (36, .vec (.int .i64) y36), (42, .vec Tq2 y42), (59, .vec (.int .i64) y59)]
abbrev f12_t_r12 := Int → Int → (List Int) → (List Int) → (List (Int × Int)) → (List Int) → (List (Int × Int)) → (List (Int × (Int × (Int × Int)))) → (List (Int × Int)) → Int → Int → Bool → Option (Bool × Unit)
abbrev f12_o_r12 (R : f12_S) : f12_t_r12 := (fun y17_0 y17_1 y27 y36 y42 y59 y7_0 y7_1 y7_2 x61 x62 x88 => R (f12_s_r12 y17_0 y17_1 y27 y36 y42 y59 y7_0 y7_1 y7_2 x61 x62 x88))
noncomputable def f12_Q_r12 (k : Nat) (R_l0 : f12_S) : f12_L := [.c (f12_p 1047141) 1, .c (f12_p 523571) 1, .blk 1, .c (f12_p 65447) 0, .j (fun σ => R_l0 (cut f12_A.loops 0 σ)), .blk 0, .c (f12_p 1023) 0]
noncomputable def f12_C_r12 (k : Nat) (R_l0 : f12_S) : f12_S := fun σ => f12_a k (f12_Q_r12 k R_l0) .nx σ
def f12_s_l2 (y27 : (List Int)) (y36 : (List Int)) (y59 : (List Int)) (x113 : Int) (x114 : Int) : St := mkS 127 384 [(9, aO 27), (11, aO 36), (15, aO 59), (112, aO 27), (113, aI x113), (114, aI x114)] [(27, .vec (.int .i64) y27), (36, .vec (.int .i64) y36), (59, .vec (.int .i64) y59)]
abbrev f12_t_l2 := (List Int) → (List Int) → (List Int) → Int → Int → Option (Bool × Unit)
abbrev f12_o_l2 (R : f12_S) : f12_t_l2 := (fun y27 y36 y59 x113 x114 => R (f12_s_l2 y27 y36 y59 x113 x114))
noncomputable def f12_Q_l2 (k : Nat) (R_l2 : f12_S) : f12_L := [.c (f12_p 32756) 2, .j (fun σ => R_l2 (cut f12_A.loops 2 σ)), .blk 2, .c (f12_p 4095) 0]
noncomputable def f12_C_l2 (k : Nat) (n : Nat) (σ : St) : Option (RDL f12_rs) := loopK (fun σ K => den T f12_Y (f12_E k) f12_A k (f12_p 32756) 2 σ K) (cut f12_A.loops 2) (f12_a k [.blk 2, .c (f12_p 4095) 0]) n σ
def f12_s_c15 (y27 : (List Int)) (y36 : (List Int)) (y42 : (List (Int × Int))) (y59 : (List Int)) (y7_0 : (List (Int × Int))) (y7_1 : (List (Int × (Int × (Int × Int))))) (y7_2 : (List (Int × Int))) (x61 : Int) (x62 : Int) : St := mkS 127 384 [(7, aP 7), (9, aO 27), (11, aO 36), (15, aO 59), (60, aO 42), (61, aI x61), (62, aI x62)] [(7, .box [cV Tq2 y7_0, cV Tq6 y7_1, cV Tq2 y7_2]), (27, .vec (.int .i64) y27), (36, .vec (.int .i64) y36), (42, .vec Tq2 y42), (59, .vec (.int .i64) y59)]
abbrev f12_t_c15 := (List Int) → (List Int) → (List (Int × Int)) → (List Int) → (List (Int × Int)) → (List (Int × (Int × (Int × Int)))) → (List (Int × Int)) → Int → Int → Option (Bool × Unit)
abbrev f12_o_c15 (R : f12_S) : f12_t_c15 := (fun y27 y36 y42 y59 y7_0 y7_1 y7_2 x61 x62 => R (f12_s_c15 y27 y36 y42 y59 y7_0 y7_1 y7_2 x61 x62))
noncomputable def f12_Q_c15 (k : Nat) (R_l0 : f12_S) : f12_L := [.blk 1, .c (f12_p 65447) 0, .j (fun σ => R_l0 (cut f12_A.loops 0 σ)), .blk 0, .c (f12_p 1023) 0]
noncomputable def f12_C_c15 (k : Nat) (R_l0 : f12_S) : f12_S := fun σ => f12_a k (f12_Q_c15 k R_l0) .nx σ
noncomputable def f12_F_r6 (k : Nat) (G_l0 G_l2 : f12_S) : f12_L := .c (f12_p 509) 0 :: .c (f12_p 510) 0 :: .c (f12_p 2044) 0 :: .j (fun σ => f12_a k (.j (fun σ => G_l0 (cut f12_A.loops 0 σ)) :: .blk 0 :: .c (f12_p 2046) 0 :: .c (f12_p 8188) 0 :: .j (fun σ => f12_a k (.j (fun σ => G_l2 (cut f12_A.loops 2 σ)) :: .blk 2 :: .c (f12_p 4095) 0 :: []) .nx σ) :: .c (f12_p 4095) 0 :: []) .nx σ) :: .c (f12_p 2046) 0 :: .c (f12_p 8188) 0 :: .j (fun σ => f12_a k (.j (fun σ => G_l2 (cut f12_A.loops 2 σ)) :: .blk 2 :: .c (f12_p 4095) 0 :: []) .nx σ) :: .c (f12_p 4095) 0 :: []
theorem f12_f_r6 (k : Nat) : f12_a k (f12_Q_r6 k) = f12_a k (f12_F_r6 k (f12_C_l0 k k) (f12_C_l2 k k)) := (ap_cons _ (Eq.trans ap_sq (ap_cons _ (Eq.trans ap_sq (Eq.trans ap_sq (ap_cons _ (Eq.trans (ap_bl 0) (Eq.trans (ap_j (Eq.trans (ap_lp (C := (f12_C_l0 k)) (fun _ _ => rfl)) (ap_cons _ (ap_cons _ (Eq.trans ap_sq (ap_cons _ (Eq.trans ap_sq (Eq.trans ap_sq (ap_cons _ (Eq.trans (ap_bl 2) (Eq.trans (ap_j (Eq.trans (ap_lp (C := (f12_C_l2 k)) (fun _ _ => rfl)) (ap_cons _ (ap_cons _ (ap_cons _ rfl))))) (ap_cons _ (ap_cons _ rfl))))))))))))) (ap_cons _ (Eq.trans ap_sq (ap_cons _ (Eq.trans ap_sq (Eq.trans ap_sq (ap_cons _ (Eq.trans (ap_bl 2) (Eq.trans (ap_j (Eq.trans (ap_lp (C := (f12_C_l2 k)) (fun _ _ => rfl)) (ap_cons _ (ap_cons _ (ap_cons _ rfl))))) (ap_cons _ (ap_cons _ rfl))))))))))))))))))
noncomputable def f12_F_c15 (k : Nat) (G_l0 G_l2 : f12_S) : f12_L := .blk 1 :: .c (f12_p 65447) 0 :: .j (fun σ => G_l0 (cut f12_A.loops 0 σ)) :: .blk 0 :: .c (f12_p 2046) 0 :: .c (f12_p 8188) 0 :: .j (fun σ => f12_a k (.j (fun σ => G_l2 (cut f12_A.loops 2 σ)) :: .blk 2 :: .c (f12_p 4095) 0 :: []) .nx σ) :: .c (f12_p 4095) 0 :: []
theorem f12_f_c15 (k : Nat) (R_l0 : f12_S) : f12_a k (f12_Q_c15 k R_l0) = f12_a k (f12_F_c15 k R_l0 (f12_C_l2 k k)) := (ap_cons _ (ap_cons _ (ap_cons _ (ap_cons _ (Eq.trans ap_sq (ap_cons _ (Eq.trans ap_sq (Eq.trans ap_sq (ap_cons _ (Eq.trans (ap_bl 2) (Eq.trans (ap_j (Eq.trans (ap_lp (C := (f12_C_l2 k)) (fun _ _ => rfl)) (ap_cons _ (ap_cons _ (ap_cons _ rfl))))) (ap_cons _ (ap_cons _ rfl)))))))))))))
noncomputable def f12_F_r12 (k : Nat) (G_l0 G_l2 G_c15 : f12_S) : f12_L := .c (f12_p 1047141) 1 :: .c (f12_p 1047142) 1 :: .c (f12_p 1047143) 1 :: .j G_c15 :: f12_F_c15 k G_l0 G_l2
theorem f12_f_r12 (k : Nat) (R_l0 : f12_S) : f12_a k (f12_Q_r12 k R_l0) = f12_a k (f12_F_r12 k R_l0 (f12_C_l2 k k) (f12_C_c15 k R_l0)) := (ap_cons _ (Eq.trans ap_sq (ap_cons _ (ap_cons _ (Eq.trans (ap_pass (C := (f12_C_c15 k R_l0)) (fun _ => rfl)) (ap_cons _ (f12_f_c15 k R_l0)))))))
noncomputable def f12_F_l0 (k : Nat) (G_l0 G_r12 G_l2 G_c15 : f12_S) : f12_L := .c (f12_p 16360) 0 :: .c (f12_p 32722) 0 :: .j (fun σ => f12_a k (.c (f12_p 261784) 1 :: .c (f12_p 1047140) 1 :: .j G_r12 :: f12_F_r12 k G_l0 G_l2 G_c15) .nx σ) :: .c (f12_p 65447) 0 :: .j (fun σ => G_l0 (cut f12_A.loops 0 σ)) :: .blk 0 :: .c (f12_p 2046) 0 :: .c (f12_p 8188) 0 :: .j (fun σ => f12_a k (.j (fun σ => G_l2 (cut f12_A.loops 2 σ)) :: .blk 2 :: .c (f12_p 4095) 0 :: []) .nx σ) :: .c (f12_p 4095) 0 :: []
theorem f12_f_l0 (k : Nat) (R_l0 : f12_S) : f12_a k (f12_Q_l0 k R_l0) = f12_a k (f12_F_l0 k R_l0 (f12_C_r12 k R_l0) (f12_C_l2 k k) (f12_C_c15 k R_l0)) := (Eq.trans ap_sq (ap_cons _ (Eq.trans ap_sq (ap_cons _ (Eq.trans ap_sq (Eq.trans (ap_bl 1) (Eq.trans (ap_j (Eq.trans ap_sq (ap_cons _ (Eq.trans ap_sq (Eq.trans ap_sq (ap_cons _ (Eq.trans (ap_pass (C := (f12_C_r12 k R_l0)) (fun _ => rfl)) (ap_cons _ (f12_f_r12 k R_l0))))))))) (ap_cons _ (ap_cons _ (ap_cons _ (ap_cons _ (Eq.trans ap_sq (ap_cons _ (Eq.trans ap_sq (Eq.trans ap_sq (ap_cons _ (Eq.trans (ap_bl 2) (Eq.trans (ap_j (Eq.trans (ap_lp (C := (f12_C_l2 k)) (fun _ _ => rfl)) (ap_cons _ (ap_cons _ (ap_cons _ rfl))))) (ap_cons _ (ap_cons _ rfl))))))))))))))))))))
noncomputable def f12_F_l2 (k : Nat) (G_l2 : f12_S) : f12_L := .c (f12_p 32756) 2 :: .j (fun σ => G_l2 (cut f12_A.loops 2 σ)) :: .blk 2 :: .c (f12_p 4095) 0 :: []
theorem f12_f_l2 (k : Nat) (R_l2 : f12_S) : f12_a k (f12_Q_l2 k R_l2) = f12_a k (f12_F_l2 k R_l2) := (ap_cons _ (ap_cons _ (ap_cons _ (ap_cons _ rfl))))
def f12_entry_B (k : Nat) (g_r6 : f12_t_r6) (a0 : (List Int)) (a1 : Int) (a2 : Int) : Option (Bool × Unit) := ((f13 k a0).bind fun r1 => ((f15 k a1 60).bind fun r2 => ((f39 k (r1.1.1, (r1.1.2.1, r1.1.2.2)) 0 r2.1).bind fun r3 => ((f15 k a2 20).bind fun r4 => ((f39 k (r1.1.1, (r1.1.2.1, r1.1.2.2)) 0 (w64 (r2.1 + r4.1))).bind fun r5 => ((f40 k (r1.1.1, (r1.1.2.1, r1.1.2.2)) 0 r2.1).bind fun r6 => ((f37 k ).bind fun r7 => (if ¬ (r7.1 = true) then (g_r6 r3.1 r5.1 r6.1 r1.1.1 r1.1.2.1 r1.1.2.2 true) else (if ¬ (r3.2.1 = 0) then (g_r6 r3.1 r5.1 r6.1 r1.1.1 r1.1.2.1 r1.1.2.2 true) else (if ¬ (r5.2.1 = 0) then (g_r6 r3.1 r5.1 r6.1 r1.1.1 r1.1.2.1 r1.1.2.2 true) else (g_r6 r3.1 r5.1 r6.1 r1.1.1 r1.1.2.1 r1.1.2.2 (decide (¬ (r6.2.1 = 0))))))))))))))
def f12_r6_B (k : Nat) (g_l0 : f12_t_l0) (y27 : (List Int)) (y36 : (List Int)) (y42 : (List (Int × Int))) (y7_0 : (List (Int × Int))) (y7_1 : (List (Int × (Int × (Int × Int))))) (y7_2 : (List (Int × Int))) (x58 : Bool) : Option (Bool × Unit) := (if x58 = true then some (false, ()) else (g_l0 y27 y36 y42 ([0]) y7_0 y7_1 y7_2 (y42.length : Int) 0))
def f12_l0_B (k : Nat) (g_r12 : f12_t_r12) (g_l2 : f12_t_l2) (y27 : (List Int)) (y36 : (List Int)) (y42 : (List (Int × Int))) (y59 : (List Int)) (y7_0 : (List (Int × Int))) (y7_1 : (List (Int × (Int × (Int × Int))))) (y7_2 : (List (Int × Int))) (x61 : Int) (x62 : Int) : Option (Bool × Unit) := (if x62 < x61 then (if 0 ≤ x62 then (if x62 < (y42.length : Int) then (if ((y42.getD ((x62).toNat) (0, 0)).1) < 0 then (g_r12 ((y42.getD ((x62).toNat) (0, 0)).1) ((y42.getD ((x62).toNat) (0, 0)).2) y27 y36 y42 y59 y7_0 y7_1 y7_2 x61 x62 true) else (if (y7_1.length : Int) ≤ ((y42.getD ((x62).toNat) (0, 0)).1) then (g_r12 ((y42.getD ((x62).toNat) (0, 0)).1) ((y42.getD ((x62).toNat) (0, 0)).2) y27 y36 y42 y59 y7_0 y7_1 y7_2 x61 x62 true) else (if 0 ≤ ((y42.getD ((x62).toNat) (0, 0)).1) then (if ((y42.getD ((x62).toNat) (0, 0)).1) < (y7_1.length : Int) then (g_r12 ((y42.getD ((x62).toNat) (0, 0)).1) ((y42.getD ((x62).toNat) (0, 0)).2) y27 y36 y42 y59 y7_0 y7_1 y7_2 x61 x62 (decide (((((y7_1.getD ((y42.getD ((x62).toNat) (0, 0)).1).toNat (0, (0, (0, 0)))).2).2).1) < ((y42.getD ((x62).toNat) (0, 0)).2)))) else none) else none))) else none) else none) else ((f41 k y59).bind fun r1 => (g_l2 y27 y36 r1.1.1 (y27.length : Int) 0)))
def f12_r12_B (k : Nat) (g_c15 : f12_t_c15) (y17_0 : Int) (y17_1 : Int) (y27 : (List Int)) (y36 : (List Int)) (y42 : (List (Int × Int))) (y59 : (List Int)) (y7_0 : (List (Int × Int))) (y7_1 : (List (Int × (Int × (Int × Int))))) (y7_2 : (List (Int × Int))) (x61 : Int) (x62 : Int) (x88 : Bool) : Option (Bool × Unit) := (if x88 = true then some (false, ()) else (if 0 ≤ y17_0 then (if y17_0 < (y7_1.length : Int) then (if y17_1 = ((((y7_1.getD (y17_0).toNat (0, (0, (0, 0)))).2).2).1) then (if 0 ≤ y17_0 then (if y17_0 < (y7_1.length : Int) then (if (y59.length + 1) * 8 ≤ 140737488355328 then (g_c15 y27 y36 y42 (y59 ++ [((y7_1.getD (y17_0).toNat (0, (0, (0, 0)))).2).1]) y7_0 y7_1 y7_2 x61 x62) else none) else none) else none) else (g_c15 y27 y36 y42 y59 y7_0 y7_1 y7_2 x61 x62)) else none) else none))
def f12_l2_B (k : Nat) (g_l2 : f12_t_l2) (y27 : (List Int)) (y36 : (List Int)) (y59 : (List Int)) (x113 : Int) (x114 : Int) : Option (Bool × Unit) := (if x114 < x113 then (if 0 ≤ x114 then (if x114 < (y27.length : Int) then ((f38 k y36 (y27.getD ((x114).toNat) 0)).bind fun r1 => (if ¬ (r1.1 = true) then some (false, ()) else (g_l2 y27 y36 y59 x113 (w64 (x114 + 1))))) else none) else none) else ((f42 k y59).bind fun r2 => ((f20 k y27 r2.1.1).bind fun r3 => some (decide (r3.1 = true), ()))))
def f12_c15_B (k : Nat) (g_l0 : f12_t_l0) (y27 : (List Int)) (y36 : (List Int)) (y42 : (List (Int × Int))) (y59 : (List Int)) (y7_0 : (List (Int × Int))) (y7_1 : (List (Int × (Int × (Int × Int))))) (y7_2 : (List (Int × Int))) (x61 : Int) (x62 : Int) : Option (Bool × Unit) := (g_l0 y27 y36 y42 y59 y7_0 y7_1 y7_2 x61 (w64 (x62 + 1)))
theorem f12_c15_P (k : Nat) (G_l0 G_l2 : f12_S) : f12_o_c15 (fun σ => f12_a k (f12_F_c15 k G_l0 G_l2) .nx σ) = f12_c15_B k (f12_o_l0 G_l0) := by kernel_rfl
def f12_c15 (k : Nat) (r_l0 : f12_t_l0) : f12_t_c15 := f12_c15_B k r_l0
theorem f12_c15_E (k : Nat) (R_l0 : f12_S) : f12_o_c15 (f12_C_c15 k R_l0) = f12_c15 k (f12_o_l0 R_l0) :=
  Eq.trans (congrArg f12_o_c15 (ap_fn (f12_f_c15 k R_l0))) ((f12_c15_P k R_l0 (f12_C_l2 k k)).trans (by rfl))
theorem f12_r12_P (k : Nat) (G_l0 G_l2 G_c15 : f12_S) : f12_o_r12 (fun σ => f12_a k (f12_F_r12 k G_l0 G_l2 G_c15) .nx σ) = f12_r12_B k (f12_o_c15 G_c15) := by kernel_rfl
def f12_r12 (k : Nat) (r_l0 : f12_t_l0) : f12_t_r12 := f12_r12_B k (f12_c15 k r_l0)
theorem f12_r12_E (k : Nat) (R_l0 : f12_S) : f12_o_r12 (f12_C_r12 k R_l0) = f12_r12 k (f12_o_l0 R_l0) :=
  Eq.trans (congrArg f12_o_r12 (ap_fn (f12_f_r12 k R_l0))) ((f12_r12_P k R_l0 (f12_C_l2 k k) (f12_C_c15 k R_l0)).trans (by rw [f12_c15_E k R_l0] <;> rfl))
theorem f12_l2_P (k : Nat) (G_l2 : f12_S) : f12_o_l2 (fun σ => f12_a k (f12_F_l2 k G_l2) .nx σ) = f12_l2_B k (f12_o_l2 G_l2) := by kernel_rfl
def f12_l2 (k : Nat) : Nat → f12_t_l2
  | 0 => fun _ _ _ _ _ => none
  | n + 1 => f12_l2_B k (f12_l2 k n)
theorem f12_l2_E (k : Nat) : ∀ n, f12_o_l2 (f12_C_l2 k n) = f12_l2 k n
  | 0 => rfl
  | n + 1 =>
    Eq.trans (congrArg f12_o_l2 (Eq.trans (b := fun σ => f12_a k (f12_Q_l2 k (f12_C_l2 k n)) .nx σ) (by kernel_rfl) (ap_fn (f12_f_l2 k (f12_C_l2 k n))))) ((f12_l2_P k (f12_C_l2 k n)).trans (by rw [f12_l2_E k n] <;> rfl))
theorem f12_l0_P (k : Nat) (G_l0 G_r12 G_l2 G_c15 : f12_S) : f12_o_l0 (fun σ => f12_a k (f12_F_l0 k G_l0 G_r12 G_l2 G_c15) .nx σ) = f12_l0_B k (f12_o_r12 G_r12) (f12_o_l2 G_l2) := by kernel_rfl
def f12_l0 (k : Nat) : Nat → f12_t_l0
  | 0 => fun _ _ _ _ _ _ _ _ _ => none
  | n + 1 => f12_l0_B k (f12_r12 k (f12_l0 k n)) (f12_l2 k k)
theorem f12_l0_E (k : Nat) : ∀ n, f12_o_l0 (f12_C_l0 k n) = f12_l0 k n
  | 0 => rfl
  | n + 1 =>
    Eq.trans (congrArg f12_o_l0 (Eq.trans (b := fun σ => f12_a k (f12_Q_l0 k (f12_C_l0 k n)) .nx σ) (by kernel_rfl) (ap_fn (f12_f_l0 k (f12_C_l0 k n))))) ((f12_l0_P k (f12_C_l0 k n) (f12_C_r12 k (f12_C_l0 k n)) (f12_C_l2 k k) (f12_C_c15 k (f12_C_l0 k n))).trans (by rw [f12_r12_E k (f12_C_l0 k n), f12_l2_E k k, f12_l0_E k n] <;> rfl))
theorem f12_r6_P (k : Nat) (G_l0 G_l2 : f12_S) : f12_o_r6 (fun σ => f12_a k (f12_F_r6 k G_l0 G_l2) .nx σ) = f12_r6_B k (f12_o_l0 G_l0) := by kernel_rfl
def f12_r6 (k : Nat) : f12_t_r6 := f12_r6_B k (f12_l0 k k)
theorem f12_r6_E (k : Nat) : f12_o_r6 (f12_C_r6 k) = f12_r6 k :=
  Eq.trans (congrArg f12_o_r6 (ap_fn (f12_f_r6 k))) ((f12_r6_P k (f12_C_l0 k k) (f12_C_l2 k k)).trans (by rw [f12_l0_E k k] <;> rfl))
theorem f12_entry_P (k : Nat) (G_r6 G_l0 G_l2 : f12_S) (xs : DL f12_sig) : f12_a k (.c (f12_p 2) 0 :: .c (f12_p 6) 0 :: .c (f12_p 14) 0 :: .c (f12_p 30) 0 :: .c (f12_p 62) 0 :: .c (f12_p 126) 0 :: .c (f12_p 508) 0 :: .j G_r6 :: f12_F_r6 k G_l0 G_l2) .nx (σ0 127 384 f12_sig xs) = f12_entry_B k (f12_o_r6 G_r6) xs.1 xs.2.1 xs.2.2.1 := by kernel_rfl
def f12 (k : Nat) (a0 : (List Int)) (a1 : Int) (a2 : Int) : Option (Bool × Unit) := f12_entry_B k (f12_r6 k) a0 a1 a2
theorem f12_fe (k : Nat) : f12_a k [.c (f12_p 1) 0] = f12_a k (.c (f12_p 2) 0 :: .c (f12_p 6) 0 :: .c (f12_p 14) 0 :: .c (f12_p 30) 0 :: .c (f12_p 62) 0 :: .c (f12_p 126) 0 :: .c (f12_p 508) 0 :: .j (f12_C_r6 k) :: f12_F_r6 k (f12_C_l0 k k) (f12_C_l2 k k)) := (Eq.trans ap_sq (ap_cons _ (Eq.trans ap_sq (ap_cons _ (Eq.trans ap_sq (ap_cons _ (Eq.trans ap_sq (ap_cons _ (Eq.trans ap_sq (ap_cons _ (Eq.trans ap_sq (ap_cons _ (Eq.trans ap_sq (Eq.trans ap_sq (ap_cons _ (Eq.trans (ap_pass (C := (f12_C_r6 k)) (fun _ => rfl)) (ap_cons _ (f12_f_r6 k))))))))))))))))))
theorem f12_eq (k : Nat) (xs : DL f12_sig) : den T f12_Y (f12_E k) f12_A k f12_c 0 (σ0 127 384 f12_sig xs) (Kfin T f12_rs f12_ts) = f12 k xs.1 xs.2.1 xs.2.2.1 :=
  Eq.trans (Eq.trans den_sb (ap_at (f12_fe k) _)) ((f12_entry_P k (f12_C_r6 k) (f12_C_l0 k k) (f12_C_l2 k k) xs).trans (by rw [f12_r6_E k] <;> rfl))
noncomputable def f12_con (k : Nat) : Con := ⟨f12_sig, f12_rs, fun xs => f12 k xs.1 xs.2.1 xs.2.2.1⟩
theorem f12_ok (k : Nat) : PureOK Try.prog 12 f12_sig f12_rs (fun xs => f12 k xs.1 xs.2.1 xs.2.2.1) :=
  (pure_of_den (k := k) (A := f12_A) (T := T) (Y := f12_Y) (E := f12_E k) (M := 384) (ts := f12_ts) T_ok ⟨f13_ok k, f15_ok k, f20_ok k, f37_ok k, f38_ok k, f39_ok k, f40_ok k, f41_ok k, f42_ok k, trivial⟩ ⟨f13_ent, f15_ent, f20_ent, f37_ent, f38_ent, f39_ent, f40_ent, f41_ent, f42_ent, trivial⟩ mixed (f := 12) (fn := Try.f12) (c := f12_c) (by kernel_rfl) (by kernel_rfl) (by kernel_rfl) (by decide) (by kernel_rfl)).congr fun xs => (f12_eq k xs).symm
theorem f12_ent : Ent Try.prog 12 := fun args w => by kernel_rfl
def Pure_IsoGrows : Prop := ∀ xs : DL f12_sig, wfs f12_sig xs → ∃ k, f12 k xs.1 xs.2.1 xs.2.2.1 = some (true, ())
end Go.Proofs.Ytoebjlimpnmaoaa.Rw
