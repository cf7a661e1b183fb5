/- What the functions that the law RouteSound reaches come to, part 2. No condition. -/
import Derived.Test.YtoebjlimpnmaoaaRwRouteSounda
namespace Go.Proofs.Ytoebjlimpnmaoaa.Rw
open Go.Rx Go.Proofs
set_option linter.unusedVariables false
set_option maxRecDepth 100000
/-! ### slices.Repeat[[]int,int]: function 54 -/
noncomputable def f54_c : Code := Try.f54.body.getD .skip
noncomputable abbrev f54_p (n : Nat) : Code := sb f54_c n
abbrev f54_sig : List PT := [(false, Tq1), (false, (.int .i64))]
abbrev f54_rs : List RT := [.new (.int .i64)]
abbrev f54_ts : List RV := [.tmp 4]
abbrev f54_S := St → Option (RDL f54_rs)
abbrev f54_L := List (Fr (RDL f54_rs))
def f54_Y : Tys := [(3, (.int .i64))]
noncomputable def f54_E (k : Nat) : Env := [(77, .c (f77_con k))]
def f54_A : Ann := { conds := [(2, { slots := [(0, .val false (.int .i64)), (1, .id)] }), (5, { slots := [(0, .val false (.int .i64)), (6, .id)] })], regs := [(4, { slots := [(0, .val false (.int .i64)), (6, .id), (26, .bool)] })], loops := [(0, { slots := [(7, .id), (8, .id)], keys := [(30, [])] })] }
noncomputable abbrev f54_a (k : Nat) (F : f54_L) : Kont (RDL f54_rs) := ap T f54_Y (f54_E k) f54_A k (Kfin T f54_rs f54_ts) F
def f54_s_c2 (x0 : (List Int)) (x1 : Int) : St := mkS 48 144 [(0, aV (.int .i64) x0), (1, aI x1)] []
abbrev f54_t_c2 := (List Int) → Int → Option ((List Int) × Unit)
abbrev f54_o_c2 (R : f54_S) : f54_t_c2 := (fun x0 x1 => R (f54_s_c2 x0 x1))
noncomputable def f54_Q_c2 (k : Nat) : f54_L := [.c (f54_p 7) 0]
noncomputable def f54_C_c2 (k : Nat) : f54_S := fun σ => f54_a k (f54_Q_c2 k) .nx σ
def f54_s_r4 (x0 : (List Int)) (x26 : Bool) (x6 : Int) : St := mkS 48 144 [(0, aV (.int .i64) x0), (6, .cp (.one (.int .u64 x6))), (26, aB x26)] []
abbrev f54_t_r4 := (List Int) → Bool → Int → Option ((List Int) × Unit)
abbrev f54_o_r4 (R : f54_S) : f54_t_r4 := (fun x0 x26 x6 => R (f54_s_r4 x0 x26 x6))
noncomputable def f54_Q_r4 (k : Nat) : f54_L := [.c (f54_p 61) 0, .c (f54_p 31) 0]
noncomputable def f54_C_r4 (k : Nat) : f54_S := fun σ => f54_a k (f54_Q_r4 k) .nx σ
def f54_s_c5 (x0 : (List Int)) (x6 : Int) : St := mkS 48 144 [(0, aV (.int .i64) x0), (6, .cp (.one (.int .u64 x6)))] []
abbrev f54_t_c5 := (List Int) → Int → Option ((List Int) × Unit)
abbrev f54_o_c5 (R : f54_S) : f54_t_c5 := (fun x0 x6 => R (f54_s_c5 x0 x6))
noncomputable def f54_Q_c5 (k : Nat) : f54_L := [.c (f54_p 31) 0]
noncomputable def f54_C_c5 (k : Nat) : f54_S := fun σ => f54_a k (f54_Q_c5 k) .nx σ
def f54_s_l0 (y30 : (List Int)) (x8 : Int) : St := mkS 48 144 [(7, aO 30), (8, aI x8)] [(30, .vec (.int .i64) y30)]
abbrev f54_t_l0 := (List Int) → Int → Option ((List Int) × Unit)
abbrev f54_o_l0 (R : f54_S) : f54_t_l0 := (fun y30 x8 => R (f54_s_l0 y30 x8))
noncomputable def f54_Q_l0 (k : Nat) (R_l0 : f54_S) : f54_L := [.c (f54_p 1016) 0, .j (fun σ => R_l0 (cut f54_A.loops 0 σ)), .blk 0, .c (f54_p 255) 0]
noncomputable def f54_C_l0 (k : Nat) (n : Nat) (σ : St) : Option (RDL f54_rs) := loopK (fun σ K => den T f54_Y (f54_E k) f54_A k (f54_p 1016) 0 σ K) (cut f54_A.loops 0) (f54_a k [.blk 0, .c (f54_p 255) 0]) n σ
noncomputable def f54_F_c5 (k : Nat) (G_l0 : f54_S) : f54_L := .c (f54_p 62) 0 :: .c (f54_p 126) 0 :: .j (fun σ => f54_a k (.j (fun σ => G_l0 (cut f54_A.loops 0 σ)) :: .blk 0 :: .c (f54_p 255) 0 :: []) .nx σ) :: .c (f54_p 255) 0 :: []
theorem f54_f_c5 (k : Nat) : f54_a k (f54_Q_c5 k) = f54_a k (f54_F_c5 k (f54_C_l0 k k)) := (Eq.trans ap_sq (ap_cons _ (Eq.trans ap_sq (ap_cons _ (Eq.trans ap_sq (Eq.trans (ap_bl 0) (Eq.trans (ap_j (Eq.trans (ap_lp (C := (f54_C_l0 k)) (fun _ _ => rfl)) (ap_cons _ (ap_cons _ (ap_cons _ rfl))))) (ap_cons _ (ap_cons _ rfl)))))))))
noncomputable def f54_F_r4 (k : Nat) (G_c5 G_l0 : f54_S) : f54_L := .c (f54_p 61) 0 :: .j G_c5 :: f54_F_c5 k G_l0
theorem f54_f_r4 (k : Nat) : f54_a k (f54_Q_r4 k) = f54_a k (f54_F_r4 k (f54_C_c5 k) (f54_C_l0 k k)) := (ap_cons _ (Eq.trans (ap_pass (C := (f54_C_c5 k)) (fun _ => rfl)) (ap_cons _ (f54_f_c5 k))))
noncomputable def f54_F_c2 (k : Nat) (G_r4 G_c5 G_l0 : f54_S) : f54_L := .c (f54_p 14) 0 :: .c (f54_p 60) 0 :: .j G_r4 :: f54_F_r4 k G_c5 G_l0
theorem f54_f_c2 (k : Nat) : f54_a k (f54_Q_c2 k) = f54_a k (f54_F_c2 k (f54_C_r4 k) (f54_C_c5 k) (f54_C_l0 k k)) := (Eq.trans ap_sq (ap_cons _ (Eq.trans ap_sq (Eq.trans ap_sq (ap_cons _ (Eq.trans (ap_pass (C := (f54_C_r4 k)) (fun _ => rfl)) (ap_cons _ (f54_f_r4 k))))))))
noncomputable def f54_F_l0 (k : Nat) (G_l0 : f54_S) : f54_L := .c (f54_p 1016) 0 :: .j (fun σ => G_l0 (cut f54_A.loops 0 σ)) :: .blk 0 :: .c (f54_p 255) 0 :: []
theorem f54_f_l0 (k : Nat) (R_l0 : f54_S) : f54_a k (f54_Q_l0 k R_l0) = f54_a k (f54_F_l0 k R_l0) := (ap_cons _ (ap_cons _ (ap_cons _ (ap_cons _ rfl))))
def f54_entry_B (k : Nat) (g_c2 : f54_t_c2) (a0 : (List Int)) (a1 : Int) : Option ((List Int) × Unit) := (if a1 < 0 then none else (g_c2 a0 a1))
def f54_c2_B (k : Nat) (g_r4 : f54_t_r4) (x0 : (List Int)) (x1 : Int) : Option ((List Int) × Unit) := ((f77 k (IntKind.u64.wrap ((x0.length : Int))) (IntKind.u64.wrap (x1))).bind fun r1 => (if 0 < r1.1 then (g_r4 x0 true r1.2.1) else (g_r4 x0 (decide (9223372036854775807 < r1.2.1)) r1.2.1)))
def f54_r4_B (k : Nat) (g_c5 : f54_t_c5) (x0 : (List Int)) (x26 : Bool) (x6 : Int) : Option ((List Int) × Unit) := (if x26 = true then none else (g_c5 x0 x6))
def f54_c5_B (k : Nat) (g_l0 : f54_t_l0) (x0 : (List Int)) (x6 : Int) : Option ((List Int) × Unit) := (if 0 ≤ (w64 (x6)) then (if (w64 (x6)) ≤ 1073741824 then (g_l0 (copyL (List.replicate (w64 (x6)).toNat (0 : Int)) x0 0 ((List.replicate (w64 (x6)).toNat (0 : Int)).length)) ((min ((List.replicate (w64 (x6)).toNat (0 : Int)).length) x0.length : Nat) : Int)) else none) else none)
def f54_l0_B (k : Nat) (g_l0 : f54_t_l0) (y30 : (List Int)) (x8 : Int) : Option ((List Int) × Unit) := (if x8 < (y30.length : Int) then (if 0 ≤ x8 then (if x8 ≤ (y30.length : Int) then (if 0 ≤ x8 then (if x8 ≤ (y30.length : Int) then (g_l0 (copyL y30 (List.take ((x8).toNat - (0 : Int).toNat) (List.drop ((0 : Int).toNat) y30)) ((x8).toNat) ((y30.length : Int).toNat - (x8).toNat)) (w64 (x8 + ((min ((y30.length : Int).toNat - (x8).toNat) (List.take ((x8).toNat - (0 : Int).toNat) (List.drop ((0 : Int).toNat) y30)).length : Nat) : Int)))) else none) else none) else none) else none) else some (y30, ()))
theorem f54_l0_P (k : Nat) (G_l0 : f54_S) : f54_o_l0 (fun σ => f54_a k (f54_F_l0 k G_l0) .nx σ) = f54_l0_B k (f54_o_l0 G_l0) := by kernel_rfl
def f54_l0 (k : Nat) : Nat → f54_t_l0
  | 0 => fun _ _ => none
  | n + 1 => f54_l0_B k (f54_l0 k n)
theorem f54_l0_E (k : Nat) : ∀ n, f54_o_l0 (f54_C_l0 k n) = f54_l0 k n
  | 0 => rfl
  | n + 1 =>
    Eq.trans (congrArg f54_o_l0 (Eq.trans (b := fun σ => f54_a k (f54_Q_l0 k (f54_C_l0 k n)) .nx σ) (by kernel_rfl) (ap_fn (f54_f_l0 k (f54_C_l0 k n))))) ((f54_l0_P k (f54_C_l0 k n)).trans (by rw [f54_l0_E k n] <;> rfl))
theorem f54_c5_P (k : Nat) (G_l0 : f54_S) : f54_o_c5 (fun σ => f54_a k (f54_F_c5 k G_l0) .nx σ) = f54_c5_B k (f54_o_l0 G_l0) := by kernel_rfl
def f54_c5 (k : Nat) : f54_t_c5 := f54_c5_B k (f54_l0 k k)
theorem f54_c5_E (k : Nat) : f54_o_c5 (f54_C_c5 k) = f54_c5 k :=
  Eq.trans (congrArg f54_o_c5 (ap_fn (f54_f_c5 k))) ((f54_c5_P k (f54_C_l0 k k)).trans (by rw [f54_l0_E k k] <;> rfl))
theorem f54_r4_P (k : Nat) (G_c5 G_l0 : f54_S) : f54_o_r4 (fun σ => f54_a k (f54_F_r4 k G_c5 G_l0) .nx σ) = f54_r4_B k (f54_o_c5 G_c5) := by kernel_rfl
def f54_r4 (k : Nat) : f54_t_r4 := f54_r4_B k (f54_c5 k)
theorem f54_r4_E (k : Nat) : f54_o_r4 (f54_C_r4 k) = f54_r4 k :=
  Eq.trans (congrArg f54_o_r4 (ap_fn (f54_f_r4 k))) ((f54_r4_P k (f54_C_c5 k) (f54_C_l0 k k)).trans (by rw [f54_c5_E k] <;> rfl))
theorem f54_c2_P (k : Nat) (G_r4 G_c5 G_l0 : f54_S) : f54_o_c2 (fun σ => f54_a k (f54_F_c2 k G_r4 G_c5 G_l0) .nx σ) = f54_c2_B k (f54_o_r4 G_r4) := by kernel_rfl
def f54_c2 (k : Nat) : f54_t_c2 := f54_c2_B k (f54_r4 k)
theorem f54_c2_E (k : Nat) : f54_o_c2 (f54_C_c2 k) = f54_c2 k :=
  Eq.trans (congrArg f54_o_c2 (ap_fn (f54_f_c2 k))) ((f54_c2_P k (f54_C_r4 k) (f54_C_c5 k) (f54_C_l0 k k)).trans (by rw [f54_r4_E k] <;> rfl))
theorem f54_entry_P (k : Nat) (G_c2 G_r4 G_c5 G_l0 : f54_S) (xs : DL f54_sig) : f54_a k (.c (f54_p 2) 0 :: .c (f54_p 12) 0 :: .c (f54_p 13) 0 :: .j G_c2 :: f54_F_c2 k G_r4 G_c5 G_l0) .nx (σ0 48 144 f54_sig xs) = f54_entry_B k (f54_o_c2 G_c2) xs.1 xs.2.1 := by kernel_rfl
def f54 (k : Nat) (a0 : (List Int)) (a1 : Int) : Option ((List Int) × Unit) := f54_entry_B k (f54_c2 k) a0 a1
theorem f54_fe (k : Nat) : f54_a k [.c (f54_p 1) 0] = f54_a k (.c (f54_p 2) 0 :: .c (f54_p 12) 0 :: .c (f54_p 13) 0 :: .j (f54_C_c2 k) :: f54_F_c2 k (f54_C_r4 k) (f54_C_c5 k) (f54_C_l0 k k)) := (Eq.trans ap_sq (ap_cons _ (Eq.trans ap_sq (Eq.trans ap_sq (ap_cons _ (ap_cons _ (Eq.trans (ap_pass (C := (f54_C_c2 k)) (fun _ => rfl)) (ap_cons _ (f54_f_c2 k)))))))))
theorem f54_eq (k : Nat) (xs : DL f54_sig) : den T f54_Y (f54_E k) f54_A k f54_c 0 (σ0 48 144 f54_sig xs) (Kfin T f54_rs f54_ts) = f54 k xs.1 xs.2.1 :=
  Eq.trans (Eq.trans den_sb (ap_at (f54_fe k) _)) ((f54_entry_P k (f54_C_c2 k) (f54_C_r4 k) (f54_C_c5 k) (f54_C_l0 k k) xs).trans (by rw [f54_c2_E k] <;> rfl))
noncomputable def f54_con (k : Nat) : Con := ⟨f54_sig, f54_rs, fun xs => f54 k xs.1 xs.2.1⟩
theorem f54_ok (k : Nat) : PureOK Try.prog 54 f54_sig f54_rs (fun xs => f54 k xs.1 xs.2.1) :=
  (pure_of_den (k := k) (A := f54_A) (T := T) (Y := f54_Y) (E := f54_E k) (M := 144) (ts := f54_ts) T_ok ⟨f77_ok k, trivial⟩ ⟨f77_ent, trivial⟩ mixed (f := 54) (fn := Try.f54) (c := f54_c) (by kernel_rfl) (by kernel_rfl) (by kernel_rfl) (by decide) (by kernel_rfl)).congr fun xs => (f54_eq k xs).symm
theorem f54_ent : Ent Try.prog 54 := fun args w => by kernel_rfl
/-! ### terrier/route.Costs: function 28 -/
noncomputable def f28_c : Code := Try.f28.body.getD .skip
noncomputable abbrev f28_p (n : Nat) : Code := sb f28_c n
abbrev f28_sig : List PT := [(true, Tq9), (false, (.int .i64))]
abbrev f28_rs : List RT := [.new (.int .i64)]
abbrev f28_ts : List RV := [.tmp 4]
abbrev f28_S := St → Option (RDL f28_rs)
abbrev f28_L := List (Fr (RDL f28_rs))
def f28_Y : Tys := [(3, (.int .i64))]
noncomputable def f28_E (k : Nat) : Env := [(29, .c (f29_con k)), (54, .c (f54_con k)), (57, .c (f57_con k))]
def f28_A : Ann := { loops := [(0, { slots := [(1, .id), (2, .id), (5, .id), (21, .id), (22, .id), (23, .id)], keys := [(2, [.val false Tq2, .val false Tq6, .val false Tq2]), (18, []), (21, [])] })], regs := [(8, { slots := [(1, .id), (2, .id), (5, .id), (7, .id), (8, .id), (21, .id), (22, .id), (23, .id), (50, .bool)], keys := [(2, [.val false Tq2, .val false Tq6, .val false Tq2]), (18, []), (21, [])] })], conds := [(9, { slots := [(1, .id), (2, .id), (5, .id), (21, .id), (22, .id), (23, .id)], keys := [(2, [.val false Tq2, .val false Tq6, .val false Tq2]), (18, []), (21, [])] })] }
noncomputable abbrev f28_a (k : Nat) (F : f28_L) : Kont (RDL f28_rs) := ap T f28_Y (f28_E k) f28_A k (Kfin T f28_rs f28_ts) F
def f28_s_l0 (y18 : (List Int)) (y2_0 : (List (Int × Int))) (y2_1 : (List (Int × (Int × (Int × Int))))) (y2_2 : (List (Int × Int))) (y21 : (List Int)) (x1 : Int) (x22 : Int) (x23 : Int) : St := mkS 60 192 [(1, aI x1), (2, aP 2), (5, aO 18), (21, aO 21), (22, aI x22), (23, aI x23)] [(2, .box [cV Tq2 y2_0, cV Tq6 y2_1, cV Tq2 y2_2]), (18, .vec (.int .i64) y18), (21, .vec (.int .i64) y21)]
abbrev f28_t_l0 := (List Int) → (List (Int × Int)) → (List (Int × (Int × (Int × Int)))) → (List (Int × Int)) → (List Int) → Int → Int → Int → Option ((List Int) × Unit)
abbrev f28_o_l0 (R : f28_S) : f28_t_l0 := (fun y18 y2_0 y2_1 y2_2 y21 x1 x22 x23 => R (f28_s_l0 y18 y2_0 y2_1 y2_2 y21 x1 x22 x23))
noncomputable def f28_Q_l0 (k : Nat) (R_l0 : f28_S) : f28_L := [.c (f28_p 244) 0, .j (fun σ => R_l0 (cut f28_A.loops 0 σ)), .blk 0, .c (f28_p 31) 0]
noncomputable def f28_C_l0 (k : Nat) (n : Nat) (σ : St) : Option (RDL f28_rs) := loopK (fun σ K => den T f28_Y (f28_E k) f28_A k (f28_p 244) 0 σ K) (cut f28_A.loops 0) (f28_a k [.blk 0, .c (f28_p 31) 0]) n σ
def f28_s_r8 (y18 : (List Int)) (y2_0 : (List (Int × Int))) (y2_1 : (List (Int × (Int × (Int × Int))))) (y2_2 : (List (Int × Int))) (y21 : (List Int)) (x1 : Int) (x22 : Int) (x23 : Int) (x50 : Bool) (x7 : Int) (x8 : Int) : St := mkS 60 192 [(1, aI x1), (2, aP 2), (5, aO 18), (7, aI x7), (8, aI x8), (21, aO 21), (22, aI x22), (23, aI x23), (50, aB x50)] [(2, .box [cV Tq2 y2_0, cV Tq6 y2_1, cV Tq2 y2_2]), (18, .vec (.int .i64) y18), (21, .vec (.int .i64) y21)]
abbrev f28_t_r8 := (List Int) → (List (Int × Int)) → (List (Int × (Int × (Int × Int)))) → (List (Int × Int)) → (List Int) → Int → Int → Int → Bool → Int → Int → Option ((List Int) × Unit)
abbrev f28_o_r8 (R : f28_S) : f28_t_r8 := (fun y18 y2_0 y2_1 y2_2 y21 x1 x22 x23 x50 x7 x8 => R (f28_s_r8 y18 y2_0 y2_1 y2_2 y21 x1 x22 x23 x50 x7 x8))
noncomputable def f28_Q_r8 (k : Nat) (R_l0 : f28_S) : f28_L := [.c (f28_p 31335) 1, .blk 1, .c (f28_p 1959) 0, .j (fun σ => R_l0 (cut f28_A.loops 0 σ)), .blk 0, .c (f28_p 31) 0]
noncomputable def f28_C_r8 (k : Nat) (R_l0 : f28_S) : f28_S := fun σ => f28_a k (f28_Q_r8 k R_l0) .nx σ
def f28_s_c9 (y18 : (List Int)) (y2_0 : (List (Int × Int))) (y2_1 : (List (Int × (Int × (Int × Int))))) (y2_2 : (List (Int × Int))) (y21 : (List Int)) (x1 : Int) (x22 : Int) (x23 : Int) : St := mkS 60 192 [(1, aI x1), (2, aP 2), (5, aO 18), (21, aO 21), (22, aI x22), (23, aI x23)] [(2, .box [cV Tq2 y2_0, cV Tq6 y2_1, cV Tq2 y2_2]), (18, .vec (.int .i64) y18), (21, .vec (.int .i64) y21)]
abbrev f28_t_c9 := (List Int) → (List (Int × Int)) → (List (Int × (Int × (Int × Int)))) → (List (Int × Int)) → (List Int) → Int → Int → Int → Option ((List Int) × Unit)
abbrev f28_o_c9 (R : f28_S) : f28_t_c9 := (fun y18 y2_0 y2_1 y2_2 y21 x1 x22 x23 => R (f28_s_c9 y18 y2_0 y2_1 y2_2 y21 x1 x22 x23))
noncomputable def f28_Q_c9 (k : Nat) (R_l0 : f28_S) : f28_L := [.blk 1, .c (f28_p 1959) 0, .j (fun σ => R_l0 (cut f28_A.loops 0 σ)), .blk 0, .c (f28_p 31) 0]
noncomputable def f28_C_c9 (k : Nat) (R_l0 : f28_S) : f28_S := fun σ => f28_a k (f28_Q_c9 k R_l0) .nx σ
noncomputable def f28_F_c9 (k : Nat) (G_l0 : f28_S) : f28_L := .blk 1 :: .c (f28_p 1959) 0 :: .j (fun σ => G_l0 (cut f28_A.loops 0 σ)) :: .blk 0 :: .c (f28_p 31) 0 :: []
theorem f28_f_c9 (k : Nat) (R_l0 : f28_S) : f28_a k (f28_Q_c9 k R_l0) = f28_a k (f28_F_c9 k R_l0) := (ap_cons _ (ap_cons _ (ap_cons _ (ap_cons _ (ap_cons _ rfl)))))
noncomputable def f28_F_r8 (k : Nat) (G_l0 G_c9 : f28_S) : f28_L := .c (f28_p 31335) 1 :: .j G_c9 :: f28_F_c9 k G_l0
theorem f28_f_r8 (k : Nat) (R_l0 : f28_S) : f28_a k (f28_Q_r8 k R_l0) = f28_a k (f28_F_r8 k R_l0 (f28_C_c9 k R_l0)) := (ap_cons _ (Eq.trans (ap_pass (C := (f28_C_c9 k R_l0)) (fun _ => rfl)) (ap_cons _ (f28_f_c9 k R_l0))))
noncomputable def f28_F_l0 (k : Nat) (G_l0 G_r8 G_c9 : f28_S) : f28_L := .c (f28_p 488) 0 :: .c (f28_p 978) 0 :: .j (fun σ => f28_a k (.c (f28_p 7832) 1 :: .c (f28_p 15666) 1 :: .c (f28_p 31334) 1 :: .j G_r8 :: f28_F_r8 k G_l0 G_c9) .nx σ) :: .c (f28_p 1959) 0 :: .j (fun σ => G_l0 (cut f28_A.loops 0 σ)) :: .blk 0 :: .c (f28_p 31) 0 :: []
theorem f28_f_l0 (k : Nat) (R_l0 : f28_S) : f28_a k (f28_Q_l0 k R_l0) = f28_a k (f28_F_l0 k R_l0 (f28_C_r8 k R_l0) (f28_C_c9 k R_l0)) := (Eq.trans ap_sq (ap_cons _ (Eq.trans ap_sq (ap_cons _ (Eq.trans ap_sq (Eq.trans (ap_bl 1) (Eq.trans (ap_j (Eq.trans ap_sq (ap_cons _ (Eq.trans ap_sq (ap_cons _ (Eq.trans ap_sq (ap_cons _ (Eq.trans (ap_pass (C := (f28_C_r8 k R_l0)) (fun _ => rfl)) (ap_cons _ (f28_f_r8 k R_l0)))))))))) (ap_cons _ (ap_cons _ (ap_cons _ (ap_cons _ (ap_cons _ rfl))))))))))))
def f28_entry_B (k : Nat) (g_l0 : f28_t_l0) (a0 : Td12) (a1 : Int) : Option ((List Int) × Unit) := ((f57 k (a0.1, (a0.2.1, a0.2.2)) ([a1])).bind fun r1 => (if ¬ (r1.1 = 0) then some ([], ()) else ((f54 k ([(-1)]) (a0.1.length : Int)).bind fun r2 => ((f29 k (a0.1, (a0.2.1, a0.2.2)) a1).bind fun r3 => (g_l0 r2.1 a0.1 a0.2.1 a0.2.2 r3.1 a1 (r3.1.length : Int) 0)))))
def f28_l0_B (k : Nat) (g_r8 : f28_t_r8) (y18 : (List Int)) (y2_0 : (List (Int × Int))) (y2_1 : (List (Int × (Int × (Int × Int))))) (y2_2 : (List (Int × Int))) (y21 : (List Int)) (x1 : Int) (x22 : Int) (x23 : Int) : Option ((List Int) × Unit) := (if x23 < x22 then (if 0 ≤ x23 then (if x23 < (y21.length : Int) then (if 0 ≤ x23 then (if x23 < (y2_1.length : Int) then (if 0 ≤ (y21.getD ((x23).toNat) 0) then (if 0 ≤ (((y2_1.getD (x23).toNat (0, (0, (0, 0)))).2).1) then (if (((y2_1.getD (x23).toNat (0, (0, (0, 0)))).2).1) < (y18.length : Int) then (if (y18.getD ((((y2_1.getD (x23).toNat (0, (0, (0, 0)))).2).1).toNat) 0) < 0 then (g_r8 y18 y2_0 y2_1 y2_2 y21 x1 x22 x23 true (y21.getD ((x23).toNat) 0) (((y2_1.getD (x23).toNat (0, (0, (0, 0)))).2).1)) else (if 0 ≤ (((y2_1.getD (x23).toNat (0, (0, (0, 0)))).2).1) then (if (((y2_1.getD (x23).toNat (0, (0, (0, 0)))).2).1) < (y18.length : Int) then (g_r8 y18 y2_0 y2_1 y2_2 y21 x1 x22 x23 (decide ((y21.getD ((x23).toNat) 0) < (y18.getD ((((y2_1.getD (x23).toNat (0, (0, (0, 0)))).2).1).toNat) 0))) (y21.getD ((x23).toNat) 0) (((y2_1.getD (x23).toNat (0, (0, (0, 0)))).2).1)) else none) else none)) else none) else none) else (g_r8 y18 y2_0 y2_1 y2_2 y21 x1 x22 x23 false (y21.getD ((x23).toNat) 0) (((y2_1.getD (x23).toNat (0, (0, (0, 0)))).2).1))) else none) else none) else none) else none) else (if 0 ≤ x1 then (if x1 < (y18.length : Int) then some ((y18.set ((x1).toNat) 0), ()) else none) else none))
def f28_r8_B (k : Nat) (g_c9 : f28_t_c9) (y18 : (List Int)) (y2_0 : (List (Int × Int))) (y2_1 : (List (Int × (Int × (Int × Int))))) (y2_2 : (List (Int × Int))) (y21 : (List Int)) (x1 : Int) (x22 : Int) (x23 : Int) (x50 : Bool) (x7 : Int) (x8 : Int) : Option ((List Int) × Unit) := (if x50 = true then (if 0 ≤ x8 then (if x8 < (y18.length : Int) then (g_c9 (y18.set ((x8).toNat) x7) y2_0 y2_1 y2_2 y21 x1 x22 x23) else none) else none) else (g_c9 y18 y2_0 y2_1 y2_2 y21 x1 x22 x23))
def f28_c9_B (k : Nat) (g_l0 : f28_t_l0) (y18 : (List Int)) (y2_0 : (List (Int × Int))) (y2_1 : (List (Int × (Int × (Int × Int))))) (y2_2 : (List (Int × Int))) (y21 : (List Int)) (x1 : Int) (x22 : Int) (x23 : Int) : Option ((List Int) × Unit) := (g_l0 y18 y2_0 y2_1 y2_2 y21 x1 x22 (w64 (x23 + 1)))
theorem f28_c9_P (k : Nat) (G_l0 : f28_S) : f28_o_c9 (fun σ => f28_a k (f28_F_c9 k G_l0) .nx σ) = f28_c9_B k (f28_o_l0 G_l0) := by kernel_rfl
def f28_c9 (k : Nat) (r_l0 : f28_t_l0) : f28_t_c9 := f28_c9_B k r_l0
theorem f28_c9_E (k : Nat) (R_l0 : f28_S) : f28_o_c9 (f28_C_c9 k R_l0) = f28_c9 k (f28_o_l0 R_l0) :=
  Eq.trans (congrArg f28_o_c9 (ap_fn (f28_f_c9 k R_l0))) ((f28_c9_P k R_l0).trans (by rfl))
theorem f28_r8_P (k : Nat) (G_l0 G_c9 : f28_S) : f28_o_r8 (fun σ => f28_a k (f28_F_r8 k G_l0 G_c9) .nx σ) = f28_r8_B k (f28_o_c9 G_c9) := by kernel_rfl
def f28_r8 (k : Nat) (r_l0 : f28_t_l0) : f28_t_r8 := f28_r8_B k (f28_c9 k r_l0)
theorem f28_r8_E (k : Nat) (R_l0 : f28_S) : f28_o_r8 (f28_C_r8 k R_l0) = f28_r8 k (f28_o_l0 R_l0) :=
  Eq.trans (congrArg f28_o_r8 (ap_fn (f28_f_r8 k R_l0))) ((f28_r8_P k R_l0 (f28_C_c9 k R_l0)).trans (by rw [f28_c9_E k R_l0] <;> rfl))
theorem f28_l0_P (k : Nat) (G_l0 G_r8 G_c9 : f28_S) : f28_o_l0 (fun σ => f28_a k (f28_F_l0 k G_l0 G_r8 G_c9) .nx σ) = f28_l0_B k (f28_o_r8 G_r8) := by kernel_rfl
def f28_l0 (k : Nat) : Nat → f28_t_l0
  | 0 => fun _ _ _ _ _ _ _ _ => none
  | n + 1 => f28_l0_B k (f28_r8 k (f28_l0 k n))
theorem f28_l0_E (k : Nat) : ∀ n, f28_o_l0 (f28_C_l0 k n) = f28_l0 k n
  | 0 => rfl
  | n + 1 =>
    Eq.trans (congrArg f28_o_l0 (Eq.trans (b := fun σ => f28_a k (f28_Q_l0 k (f28_C_l0 k n)) .nx σ) (by kernel_rfl) (ap_fn (f28_f_l0 k (f28_C_l0 k n))))) ((f28_l0_P k (f28_C_l0 k n) (f28_C_r8 k (f28_C_l0 k n)) (f28_C_c9 k (f28_C_l0 k n))).trans (by rw [f28_r8_E k (f28_C_l0 k n), f28_l0_E k n] <;> rfl))
theorem f28_entry_P (k : Nat) (G_l0 : f28_S) (xs : DL f28_sig) : f28_a k (.c (f28_p 2) 0 :: .c (f28_p 6) 0 :: .c (f28_p 14) 0 :: .c (f28_p 60) 0 :: .j (fun σ => f28_a k (.j (fun σ => G_l0 (cut f28_A.loops 0 σ)) :: .blk 0 :: .c (f28_p 31) 0 :: []) .nx σ) :: .c (f28_p 31) 0 :: []) .nx (σ0 60 192 f28_sig xs) = f28_entry_B k (f28_o_l0 G_l0) xs.1 xs.2.1 := by kernel_rfl
def f28 (k : Nat) (a0 : Td12) (a1 : Int) : Option ((List Int) × Unit) := f28_entry_B k (f28_l0 k k) a0 a1
theorem f28_fe (k : Nat) : f28_a k [.c (f28_p 1) 0] = f28_a k (.c (f28_p 2) 0 :: .c (f28_p 6) 0 :: .c (f28_p 14) 0 :: .c (f28_p 60) 0 :: .j (fun σ => f28_a k (.j (fun σ => (f28_C_l0 k k) (cut f28_A.loops 0 σ)) :: .blk 0 :: .c (f28_p 31) 0 :: []) .nx σ) :: .c (f28_p 31) 0 :: []) := (Eq.trans ap_sq (ap_cons _ (Eq.trans ap_sq (ap_cons _ (Eq.trans ap_sq (ap_cons _ (Eq.trans ap_sq (Eq.trans ap_sq (ap_cons _ (Eq.trans (ap_bl 0) (Eq.trans (ap_j (Eq.trans (ap_lp (C := (f28_C_l0 k)) (fun _ _ => rfl)) (ap_cons _ (ap_cons _ (ap_cons _ rfl))))) (ap_cons _ (ap_cons _ rfl)))))))))))))
theorem f28_eq (k : Nat) (xs : DL f28_sig) : den T f28_Y (f28_E k) f28_A k f28_c 0 (σ0 60 192 f28_sig xs) (Kfin T f28_rs f28_ts) = f28 k xs.1 xs.2.1 :=
  Eq.trans (Eq.trans den_sb (ap_at (f28_fe k) _)) ((f28_entry_P k (f28_C_l0 k k) xs).trans (by rw [f28_l0_E k k] <;> rfl))
noncomputable def f28_con (k : Nat) : Con := ⟨f28_sig, f28_rs, fun xs => f28 k xs.1 xs.2.1⟩
theorem f28_ok (k : Nat) : PureOK Try.prog 28 f28_sig f28_rs (fun xs => f28 k xs.1 xs.2.1) :=
  (pure_of_den (k := k) (A := f28_A) (T := T) (Y := f28_Y) (E := f28_E k) (M := 192) (ts := f28_ts) T_ok ⟨f29_ok k, f54_ok k, f57_ok k, trivial⟩ ⟨f29_ent, f54_ent, f57_ent, trivial⟩ mixed (f := 28) (fn := Try.f28) (c := f28_c) (by kernel_rfl) (by kernel_rfl) (by kernel_rfl) (by decide) (by kernel_rfl)).congr fun xs => (f28_eq k xs).symm
theorem f28_ent : Ent Try.prog 28 := fun args w => by kernel_rfl
/-! ### slices.Equal[[]int,int]: function 20 -/
noncomputable def f20_c : Code := Try.f20.body.getD .skip
noncomputable abbrev f20_p (n : Nat) : Code := sb f20_c n
abbrev f20_sig : List PT := [(false, Tq1), (false, Tq1)]
abbrev f20_rs : List RT := [.d false .bool]
abbrev f20_ts : List RV := [.tmp 4]
abbrev f20_S := St → Option (RDL f20_rs)
abbrev f20_L := List (Fr (RDL f20_rs))
def f20_Y : Tys := []
noncomputable def f20_E (k : Nat) : Env := []
def f20_A : Ann := { loops := [(0, { slots := [(0, .val false (.int .i64)), (1, .val false (.int .i64)), (12, .id), (13, .id)] })] }
noncomputable abbrev f20_a (k : Nat) (F : f20_L) : Kont (RDL f20_rs) := ap T f20_Y (f20_E k) f20_A k (Kfin T f20_rs f20_ts) F
def f20_s_l0 (x0 : (List Int)) (x1 : (List Int)) (x12 : Int) (x13 : Int) : St := mkS 26 80 [(0, aV (.int .i64) x0), (1, aV (.int .i64) x1), (12, aI x12), (13, aI x13)] []
abbrev f20_t_l0 := (List Int) → (List Int) → Int → Int → Option (Bool × Unit)
abbrev f20_o_l0 (R : f20_S) : f20_t_l0 := (fun x0 x1 x12 x13 => R (f20_s_l0 x0 x1 x12 x13))
noncomputable def f20_Q_l0 (k : Nat) (R_l0 : f20_S) : f20_L := [.c (f20_p 116) 0, .j (fun σ => R_l0 (cut f20_A.loops 0 σ)), .blk 0, .c (f20_p 15) 0]
noncomputable def f20_C_l0 (k : Nat) (n : Nat) (σ : St) : Option (RDL f20_rs) := loopK (fun σ K => den T f20_Y (f20_E k) f20_A k (f20_p 116) 0 σ K) (cut f20_A.loops 0) (f20_a k [.blk 0, .c (f20_p 15) 0]) n σ
noncomputable def f20_F_l0 (k : Nat) (G_l0 : f20_S) : f20_L := .c (f20_p 116) 0 :: .j (fun σ => G_l0 (cut f20_A.loops 0 σ)) :: .blk 0 :: .c (f20_p 15) 0 :: []
theorem f20_f_l0 (k : Nat) (R_l0 : f20_S) : f20_a k (f20_Q_l0 k R_l0) = f20_a k (f20_F_l0 k R_l0) := (ap_cons _ (ap_cons _ (ap_cons _ (ap_cons _ rfl))))
def f20_entry_B (k : Nat) (g_l0 : f20_t_l0) (a0 : (List Int)) (a1 : (List Int)) : Option (Bool × Unit) := (if ¬ ((a0.length : Int) = (a1.length : Int)) then some (false, ()) else (g_l0 a0 a1 (a0.length : Int) 0))
def f20_l0_B (k : Nat) (g_l0 : f20_t_l0) (x0 : (List Int)) (x1 : (List Int)) (x12 : Int) (x13 : Int) : Option (Bool × Unit) := (if x13 < x12 then (if 0 ≤ x13 then (if x13 < (x0.length : Int) then (if 0 ≤ x13 then (if x13 < (x1.length : Int) then (if ¬ ((x0.getD (x13).toNat 0) = (x1.getD (x13).toNat 0)) then some (false, ()) else (g_l0 x0 x1 x12 (w64 (x13 + 1)))) else none) else none) else none) else none) else some (true, ()))
theorem f20_l0_P (k : Nat) (G_l0 : f20_S) : f20_o_l0 (fun σ => f20_a k (f20_F_l0 k G_l0) .nx σ) = f20_l0_B k (f20_o_l0 G_l0) := by kernel_rfl
def f20_l0 (k : Nat) : Nat → f20_t_l0
  | 0 => fun _ _ _ _ => none
  | n + 1 => f20_l0_B k (f20_l0 k n)
theorem f20_l0_E (k : Nat) : ∀ n, f20_o_l0 (f20_C_l0 k n) = f20_l0 k n
  | 0 => rfl
  | n + 1 =>
    Eq.trans (congrArg f20_o_l0 (Eq.trans (b := fun σ => f20_a k (f20_Q_l0 k (f20_C_l0 k n)) .nx σ) (by kernel_rfl) (ap_fn (f20_f_l0 k (f20_C_l0 k n))))) ((f20_l0_P k (f20_C_l0 k n)).trans (by rw [f20_l0_E k n] <;> rfl))
theorem f20_entry_P (k : Nat) (G_l0 : f20_S) (xs : DL f20_sig) : f20_a k (.c (f20_p 2) 0 :: .c (f20_p 6) 0 :: .c (f20_p 28) 0 :: .j (fun σ => f20_a k (.j (fun σ => G_l0 (cut f20_A.loops 0 σ)) :: .blk 0 :: .c (f20_p 15) 0 :: []) .nx σ) :: .c (f20_p 15) 0 :: []) .nx (σ0 26 80 f20_sig xs) = f20_entry_B k (f20_o_l0 G_l0) xs.1 xs.2.1 := by kernel_rfl
def f20 (k : Nat) (a0 : (List Int)) (a1 : (List Int)) : Option (Bool × Unit) := f20_entry_B k (f20_l0 k k) a0 a1
theorem f20_fe (k : Nat) : f20_a k [.c (f20_p 1) 0] = f20_a k (.c (f20_p 2) 0 :: .c (f20_p 6) 0 :: .c (f20_p 28) 0 :: .j (fun σ => f20_a k (.j (fun σ => (f20_C_l0 k k) (cut f20_A.loops 0 σ)) :: .blk 0 :: .c (f20_p 15) 0 :: []) .nx σ) :: .c (f20_p 15) 0 :: []) := (Eq.trans ap_sq (ap_cons _ (Eq.trans ap_sq (ap_cons _ (Eq.trans ap_sq (Eq.trans ap_sq (ap_cons _ (Eq.trans (ap_bl 0) (Eq.trans (ap_j (Eq.trans (ap_lp (C := (f20_C_l0 k)) (fun _ _ => rfl)) (ap_cons _ (ap_cons _ (ap_cons _ rfl))))) (ap_cons _ (ap_cons _ rfl)))))))))))
theorem f20_eq (k : Nat) (xs : DL f20_sig) : den T f20_Y (f20_E k) f20_A k f20_c 0 (σ0 26 80 f20_sig xs) (Kfin T f20_rs f20_ts) = f20 k xs.1 xs.2.1 :=
  Eq.trans (Eq.trans den_sb (ap_at (f20_fe k) _)) ((f20_entry_P k (f20_C_l0 k k) xs).trans (by rw [f20_l0_E k k] <;> rfl))
noncomputable def f20_con (k : Nat) : Con := ⟨f20_sig, f20_rs, fun xs => f20 k xs.1 xs.2.1⟩
theorem f20_ok (k : Nat) : PureOK Try.prog 20 f20_sig f20_rs (fun xs => f20 k xs.1 xs.2.1) :=
  (pure_of_den (k := k) (A := f20_A) (T := T) (Y := f20_Y) (E := f20_E k) (M := 80) (ts := f20_ts) T_ok trivial trivial mixed (f := 20) (fn := Try.f20) (c := f20_c) (by kernel_rfl) (by kernel_rfl) (by kernel_rfl) (by decide) (by kernel_rfl)).congr fun xs => (f20_eq k xs).symm
theorem f20_ent : Ent Try.prog 20 := fun args w => by kernel_rfl
/-! ### terrier/net.In: function 22 -/
noncomputable def f22_c : Code := Try.f22.body.getD .skip
noncomputable abbrev f22_p (n : Nat) : Code := sb f22_c n
abbrev f22_sig : List PT := [(true, Tq9), (false, (.int .i64))]
abbrev f22_rs : List RT := [.new (.int .i64)]
abbrev f22_ts : List RV := [.tmp 4]
abbrev f22_S := St → Option (RDL f22_rs)
abbrev f22_L := List (Fr (RDL f22_rs))
def f22_Y : Tys := [(3, (.int .i64))]
noncomputable def f22_E (k : Nat) : Env := []
def f22_A : Ann := { loops := [(0, { mat := [(5, 23, (.int .i64))], slots := [(1, .id), (5, .id), (9, .val false Tq6), (10, .id), (11, .id)], keys := [(23, [])] })], conds := [(6, { mat := [(5, 23, (.int .i64))], slots := [(1, .id), (5, .id), (9, .val false Tq6), (10, .id), (11, .id)], keys := [(23, [])] })] }
noncomputable abbrev f22_a (k : Nat) (F : f22_L) : Kont (RDL f22_rs) := ap T f22_Y (f22_E k) f22_A k (Kfin T f22_rs f22_ts) F
def f22_s_l0 (y23 : (List Int)) (x1 : Int) (x10 : Int) (x11 : Int) (x9 : (List (Int × (Int × (Int × Int))))) : St := mkS 26 80 [(1, aI x1), (5, aO 23), (9, aV Tq6 x9), (10, aI x10), (11, aI x11)] [(23, .vec (.int .i64) y23)]
abbrev f22_t_l0 := (List Int) → Int → Int → Int → (List (Int × (Int × (Int × Int)))) → Option ((List Int) × Unit)
abbrev f22_o_l0 (R : f22_S) : f22_t_l0 := (fun y23 x1 x10 x11 x9 => R (f22_s_l0 y23 x1 x10 x11 x9))
noncomputable def f22_Q_l0 (k : Nat) (R_l0 : f22_S) : f22_L := [.c (f22_p 116) 0, .j (fun σ => R_l0 (cut f22_A.loops 0 σ)), .blk 0, .c (f22_p 15) 0]
noncomputable def f22_C_l0 (k : Nat) (n : Nat) (σ : St) : Option (RDL f22_rs) := loopK (fun σ K => den T f22_Y (f22_E k) f22_A k (f22_p 116) 0 σ K) (cut f22_A.loops 0) (f22_a k [.blk 0, .c (f22_p 15) 0]) n σ
def f22_s_c6 (y23 : (List Int)) (x1 : Int) (x10 : Int) (x11 : Int) (x9 : (List (Int × (Int × (Int × Int))))) : St := mkS 26 80 [(1, aI x1), (5, aO 23), (9, aV Tq6 x9), (10, aI x10), (11, aI x11)] [(23, .vec (.int .i64) y23)]
abbrev f22_t_c6 := (List Int) → Int → Int → Int → (List (Int × (Int × (Int × Int)))) → Option ((List Int) × Unit)
abbrev f22_o_c6 (R : f22_S) : f22_t_c6 := (fun y23 x1 x10 x11 x9 => R (f22_s_c6 y23 x1 x10 x11 x9))
noncomputable def f22_Q_c6 (k : Nat) (R_l0 : f22_S) : f22_L := [.blk 1, .c (f22_p 935) 0, .j (fun σ => R_l0 (cut f22_A.loops 0 σ)), .blk 0, .c (f22_p 15) 0]
noncomputable def f22_C_c6 (k : Nat) (R_l0 : f22_S) : f22_S := fun σ => f22_a k (f22_Q_c6 k R_l0) .nx σ
noncomputable def f22_F_c6 (k : Nat) (G_l0 : f22_S) : f22_L := .blk 1 :: .c (f22_p 935) 0 :: .j (fun σ => G_l0 (cut f22_A.loops 0 σ)) :: .blk 0 :: .c (f22_p 15) 0 :: []
theorem f22_f_c6 (k : Nat) (R_l0 : f22_S) : f22_a k (f22_Q_c6 k R_l0) = f22_a k (f22_F_c6 k R_l0) := (ap_cons _ (ap_cons _ (ap_cons _ (ap_cons _ (ap_cons _ rfl)))))
noncomputable def f22_F_l0 (k : Nat) (G_l0 G_c6 : f22_S) : f22_L := .c (f22_p 232) 0 :: .c (f22_p 466) 0 :: .j (fun σ => f22_a k (.c (f22_p 3736) 1 :: .c (f22_p 7474) 1 :: .c (f22_p 7475) 1 :: .j G_c6 :: f22_F_c6 k G_l0) .nx σ) :: .c (f22_p 935) 0 :: .j (fun σ => G_l0 (cut f22_A.loops 0 σ)) :: .blk 0 :: .c (f22_p 15) 0 :: []
theorem f22_f_l0 (k : Nat) (R_l0 : f22_S) : f22_a k (f22_Q_l0 k R_l0) = f22_a k (f22_F_l0 k R_l0 (f22_C_c6 k R_l0)) := (Eq.trans ap_sq (ap_cons _ (Eq.trans ap_sq (ap_cons _ (Eq.trans ap_sq (Eq.trans (ap_bl 1) (Eq.trans (ap_j (Eq.trans ap_sq (ap_cons _ (Eq.trans ap_sq (ap_cons _ (ap_cons _ (Eq.trans (ap_pass (C := (f22_C_c6 k R_l0)) (fun _ => rfl)) (ap_cons _ (f22_f_c6 k R_l0))))))))) (ap_cons _ (ap_cons _ (ap_cons _ (ap_cons _ (ap_cons _ rfl))))))))))))
def f22_entry_B (k : Nat) (g_l0 : f22_t_l0) (a0 : Td12) (a1 : Int) : Option ((List Int) × Unit) := (g_l0 ([] : List Int) a1 (a0.2.1.length : Int) 0 a0.2.1)
def f22_l0_B (k : Nat) (g_c6 : f22_t_c6) (y23 : (List Int)) (x1 : Int) (x10 : Int) (x11 : Int) (x9 : (List (Int × (Int × (Int × Int))))) : Option ((List Int) × Unit) := (if x11 < x10 then (if 0 ≤ x11 then (if x11 < (x9.length : Int) then (if (((x9.getD (x11).toNat (0, (0, (0, 0)))).2).1) = x1 then (if (y23.length + 1) * 8 ≤ 140737488355328 then (g_c6 (y23 ++ [x11]) x1 x10 x11 x9) else none) else (g_c6 y23 x1 x10 x11 x9)) else none) else none) else some (y23, ()))
def f22_c6_B (k : Nat) (g_l0 : f22_t_l0) (y23 : (List Int)) (x1 : Int) (x10 : Int) (x11 : Int) (x9 : (List (Int × (Int × (Int × Int))))) : Option ((List Int) × Unit) := (g_l0 y23 x1 x10 (w64 (x11 + 1)) x9)
theorem f22_c6_P (k : Nat) (G_l0 : f22_S) : f22_o_c6 (fun σ => f22_a k (f22_F_c6 k G_l0) .nx σ) = f22_c6_B k (f22_o_l0 G_l0) := by kernel_rfl
def f22_c6 (k : Nat) (r_l0 : f22_t_l0) : f22_t_c6 := f22_c6_B k r_l0
theorem f22_c6_E (k : Nat) (R_l0 : f22_S) : f22_o_c6 (f22_C_c6 k R_l0) = f22_c6 k (f22_o_l0 R_l0) :=
  Eq.trans (congrArg f22_o_c6 (ap_fn (f22_f_c6 k R_l0))) ((f22_c6_P k R_l0).trans (by rfl))
theorem f22_l0_P (k : Nat) (G_l0 G_c6 : f22_S) : f22_o_l0 (fun σ => f22_a k (f22_F_l0 k G_l0 G_c6) .nx σ) = f22_l0_B k (f22_o_c6 G_c6) := by kernel_rfl
def f22_l0 (k : Nat) : Nat → f22_t_l0
  | 0 => fun _ _ _ _ _ => none
  | n + 1 => f22_l0_B k (f22_c6 k (f22_l0 k n))
theorem f22_l0_E (k : Nat) : ∀ n, f22_o_l0 (f22_C_l0 k n) = f22_l0 k n
  | 0 => rfl
  | n + 1 =>
    Eq.trans (congrArg f22_o_l0 (Eq.trans (b := fun σ => f22_a k (f22_Q_l0 k (f22_C_l0 k n)) .nx σ) (by kernel_rfl) (ap_fn (f22_f_l0 k (f22_C_l0 k n))))) ((f22_l0_P k (f22_C_l0 k n) (f22_C_c6 k (f22_C_l0 k n))).trans (by rw [f22_c6_E k (f22_C_l0 k n), f22_l0_E k n] <;> rfl))
theorem f22_entry_P (k : Nat) (G_l0 : f22_S) (xs : DL f22_sig) : f22_a k (.c (f22_p 2) 0 :: .c (f22_p 6) 0 :: .c (f22_p 28) 0 :: .j (fun σ => f22_a k (.j (fun σ => G_l0 (cut f22_A.loops 0 σ)) :: .blk 0 :: .c (f22_p 15) 0 :: []) .nx σ) :: .c (f22_p 15) 0 :: []) .nx (σ0 26 80 f22_sig xs) = f22_entry_B k (f22_o_l0 G_l0) xs.1 xs.2.1 := by kernel_rfl
def f22 (k : Nat) (a0 : Td12) (a1 : Int) : Option ((List Int) × Unit) := f22_entry_B k (f22_l0 k k) a0 a1
theorem f22_fe (k : Nat) : f22_a k [.c (f22_p 1) 0] = f22_a k (.c (f22_p 2) 0 :: .c (f22_p 6) 0 :: .c (f22_p 28) 0 :: .j (fun σ => f22_a k (.j (fun σ => (f22_C_l0 k k) (cut f22_A.loops 0 σ)) :: .blk 0 :: .c (f22_p 15) 0 :: []) .nx σ) :: .c (f22_p 15) 0 :: []) := (Eq.trans ap_sq (ap_cons _ (Eq.trans ap_sq (ap_cons _ (Eq.trans ap_sq (Eq.trans ap_sq (ap_cons _ (Eq.trans (ap_bl 0) (Eq.trans (ap_j (Eq.trans (ap_lp (C := (f22_C_l0 k)) (fun _ _ => rfl)) (ap_cons _ (ap_cons _ (ap_cons _ rfl))))) (ap_cons _ (ap_cons _ rfl)))))))))))
theorem f22_eq (k : Nat) (xs : DL f22_sig) : den T f22_Y (f22_E k) f22_A k f22_c 0 (σ0 26 80 f22_sig xs) (Kfin T f22_rs f22_ts) = f22 k xs.1 xs.2.1 :=
  Eq.trans (Eq.trans den_sb (ap_at (f22_fe k) _)) ((f22_entry_P k (f22_C_l0 k k) xs).trans (by rw [f22_l0_E k k] <;> rfl))
noncomputable def f22_con (k : Nat) : Con := ⟨f22_sig, f22_rs, fun xs => f22 k xs.1 xs.2.1⟩
theorem f22_ok (k : Nat) : PureOK Try.prog 22 f22_sig f22_rs (fun xs => f22 k xs.1 xs.2.1) :=
  (pure_of_den (k := k) (A := f22_A) (T := T) (Y := f22_Y) (E := f22_E k) (M := 80) (ts := f22_ts) T_ok trivial trivial mixed (f := 22) (fn := Try.f22) (c := f22_c) (by kernel_rfl) (by kernel_rfl) (by kernel_rfl) (by decide) (by kernel_rfl)).congr fun xs => (f22_eq k xs).symm
theorem f22_ent : Ent Try.prog 22 := fun args w => by kernel_rfl
/-! ### terrier/route.Find: function 32 -/
noncomputable def f32_c : Code := Try.f32.body.getD .skip
noncomputable abbrev f32_p (n : Nat) : Code := sb f32_c n
abbrev f32_sig : List PT := [(true, Tq9), (false, (.int .i64)), (false, (.int .i64))]
abbrev f32_rs : List RT := [.new (.int .i64), .d false (.int .i64), .d false (.int .i64)]
abbrev f32_ts : List RV := [.tmp 6, .tmp 7, .tmp 8]
abbrev f32_S := St → Option (RDL f32_rs)
abbrev f32_L := List (Fr (RDL f32_rs))
def f32_Y : Tys := [(3, (.int .i64))]
noncomputable def f32_E (k : Nat) : Env := [(22, .c (f22_con k)), (57, .c (f57_con k)), (58, .c (f58_con k)), (59, .b (f59_con k)), (60, .c (f60_con k)), (61, .c (f61_con k))]
def f32_A : Ann := { loops := [(0, { slots := [(10, .id), (11, .id), (32, .id), (33, .id), (34, .id)], keys := [(26, [.val false Tq2, .val false Tq6, .val false Tq2, .id, .val false Tq1]), (32, []), (97, [])] })], regs := [(12, { slots := [(10, .id), (11, .id), (13, .id), (32, .id), (33, .id), (34, .id), (55, .bool)], keys := [(26, [.val false Tq2, .val false Tq6, .val false Tq2, .id, .val false Tq1]), (32, []), (97, [])] })], conds := [(13, { slots := [(10, .id), (11, .id), (32, .id), (33, .id), (34, .id)], keys := [(26, [.val false Tq2, .val false Tq6, .val false Tq2, .id, .val false Tq1]), (32, []), (97, [])] })] }
noncomputable abbrev f32_a (k : Nat) (F : f32_L) : Kont (RDL f32_rs) := ap T f32_Y (f32_E k) f32_A k (Kfin T f32_rs f32_ts) F
def f32_s_l0 (y26_0 : (List (Int × Int))) (y26_1 : (List (Int × (Int × (Int × Int))))) (y26_2 : (List (Int × Int))) (y26_4 : (List (List Int))) (y32 : (List Int)) (y97 : (List (Int × (Int × (Int × (Bool × Bool)))))) (x11 : Int) (x33 : Int) (x34 : Int) : St := mkS 71 224 [(10, aP 26), (11, aI x11), (32, aO 32), (33, aI x33), (34, aI x34)] [(26, .box [cV Tq2 y26_0, cV Tq6 y26_1, cV Tq2 y26_2, .own 97, cV Tq1 y26_4]), (32, .vec (.int .i64) y32), (97, .vec Tq17 y97)]
abbrev f32_t_l0 := (List (Int × Int)) → (List (Int × (Int × (Int × Int)))) → (List (Int × Int)) → (List (List Int)) → (List Int) → (List (Int × (Int × (Int × (Bool × Bool))))) → Int → Int → Int → Option ((List Int) × Int × Int × Unit)
abbrev f32_o_l0 (R : f32_S) : f32_t_l0 := (fun y26_0 y26_1 y26_2 y26_4 y32 y97 x11 x33 x34 => R (f32_s_l0 y26_0 y26_1 y26_2 y26_4 y32 y97 x11 x33 x34))
noncomputable def f32_Q_l0 (k : Nat) (R_l0 : f32_S) : f32_L := [.c (f32_p 2036) 0, .j (fun σ => R_l0 (cut f32_A.loops 0 σ)), .blk 0, .c (f32_p 255) 0]
noncomputable def f32_C_l0 (k : Nat) (n : Nat) (σ : St) : Option (RDL f32_rs) := loopK (fun σ K => den T f32_Y (f32_E k) f32_A k (f32_p 2036) 0 σ K) (cut f32_A.loops 0) (f32_a k [.blk 0, .c (f32_p 255) 0]) n σ
def f32_s_r12 (y26_0 : (List (Int × Int))) (y26_1 : (List (Int × (Int × (Int × Int))))) (y26_2 : (List (Int × Int))) (y26_4 : (List (List Int))) (y32 : (List Int)) (y97 : (List (Int × (Int × (Int × (Bool × Bool)))))) (x11 : Int) (x13 : Int) (x33 : Int) (x34 : Int) (x55 : Bool) : St := mkS 71 224 [(10, aP 26), (11, aI x11), (13, aI x13), (32, aO 32), (33, aI x33), (34, aI x34), (55, aB x55)] [(26, .box [cV Tq2 y26_0, cV Tq6 y26_1, cV Tq2 y26_2, .own 97, cV Tq1 y26_4]), (32, .vec (.int .i64) y32), (97, .vec Tq17 y97)]
abbrev f32_t_r12 := (List (Int × Int)) → (List (Int × (Int × (Int × Int)))) → (List (Int × Int)) → (List (List Int)) → (List Int) → (List (Int × (Int × (Int × (Bool × Bool))))) → Int → Int → Int → Int → Bool → Option ((List Int) × Int × Int × Unit)
abbrev f32_o_r12 (R : f32_S) : f32_t_r12 := (fun y26_0 y26_1 y26_2 y26_4 y32 y97 x11 x13 x33 x34 x55 => R (f32_s_r12 y26_0 y26_1 y26_2 y26_4 y32 y97 x11 x13 x33 x34 x55))
noncomputable def f32_Q_r12 (k : Nat) (R_l0 : f32_S) : f32_L := [.c (f32_p 130355) 1, .blk 1, .c (f32_p 16295) 0, .j (fun σ => R_l0 (cut f32_A.loops 0 σ)), .blk 0, .c (f32_p 255) 0]
noncomputable def f32_C_r12 (k : Nat) (R_l0 : f32_S) : f32_S := fun σ => f32_a k (f32_Q_r12 k R_l0) .nx σ
def f32_s_c13 (y26_0 : (List (Int × Int))) (y26_1 : (List (Int × (Int × (Int × Int))))) (y26_2 : (List (Int × Int))) (y26_4 : (List (List Int))) (y32 : (List Int)) (y97 : (List (Int × (Int × (Int × (Bool × Bool)))))) (x11 : Int) (x33 : Int) (x34 : Int) : St := mkS 71 224 [(10, aP 26), (11, aI x11), (32, aO 32), (33, aI x33), (34, aI x34)] [(26, .box [cV Tq2 y26_0, cV Tq6 y26_1, cV Tq2 y26_2, .own 97, cV Tq1 y26_4]), (32, .vec (.int .i64) y32), (97, .vec Tq17 y97)]
abbrev f32_t_c13 := (List (Int × Int)) → (List (Int × (Int × (Int × Int)))) → (List (Int × Int)) → (List (List Int)) → (List Int) → (List (Int × (Int × (Int × (Bool × Bool))))) → Int → Int → Int → Option ((List Int) × Int × Int × Unit)
abbrev f32_o_c13 (R : f32_S) : f32_t_c13 := (fun y26_0 y26_1 y26_2 y26_4 y32 y97 x11 x33 x34 => R (f32_s_c13 y26_0 y26_1 y26_2 y26_4 y32 y97 x11 x33 x34))
noncomputable def f32_Q_c13 (k : Nat) (R_l0 : f32_S) : f32_L := [.blk 1, .c (f32_p 16295) 0, .j (fun σ => R_l0 (cut f32_A.loops 0 σ)), .blk 0, .c (f32_p 255) 0]
noncomputable def f32_C_c13 (k : Nat) (R_l0 : f32_S) : f32_S := fun σ => f32_a k (f32_Q_c13 k R_l0) .nx σ
noncomputable def f32_F_c13 (k : Nat) (G_l0 : f32_S) : f32_L := .blk 1 :: .c (f32_p 16295) 0 :: .j (fun σ => G_l0 (cut f32_A.loops 0 σ)) :: .blk 0 :: .c (f32_p 255) 0 :: []
theorem f32_f_c13 (k : Nat) (R_l0 : f32_S) : f32_a k (f32_Q_c13 k R_l0) = f32_a k (f32_F_c13 k R_l0) := (ap_cons _ (ap_cons _ (ap_cons _ (ap_cons _ (ap_cons _ rfl)))))
noncomputable def f32_F_r12 (k : Nat) (G_l0 G_c13 : f32_S) : f32_L := .c (f32_p 130355) 1 :: .j G_c13 :: f32_F_c13 k G_l0
theorem f32_f_r12 (k : Nat) (R_l0 : f32_S) : f32_a k (f32_Q_r12 k R_l0) = f32_a k (f32_F_r12 k R_l0 (f32_C_c13 k R_l0)) := (ap_cons _ (Eq.trans (ap_pass (C := (f32_C_c13 k R_l0)) (fun _ => rfl)) (ap_cons _ (f32_f_c13 k R_l0))))
noncomputable def f32_F_l0 (k : Nat) (G_l0 G_r12 G_c13 : f32_S) : f32_L := .c (f32_p 4072) 0 :: .c (f32_p 8146) 0 :: .j (fun σ => f32_a k (.c (f32_p 65176) 1 :: .c (f32_p 130354) 1 :: .j G_r12 :: f32_F_r12 k G_l0 G_c13) .nx σ) :: .c (f32_p 16295) 0 :: .j (fun σ => G_l0 (cut f32_A.loops 0 σ)) :: .blk 0 :: .c (f32_p 255) 0 :: []
theorem f32_f_l0 (k : Nat) (R_l0 : f32_S) : f32_a k (f32_Q_l0 k R_l0) = f32_a k (f32_F_l0 k R_l0 (f32_C_r12 k R_l0) (f32_C_c13 k R_l0)) := (Eq.trans ap_sq (ap_cons _ (Eq.trans ap_sq (ap_cons _ (Eq.trans ap_sq (Eq.trans (ap_bl 1) (Eq.trans (ap_j (Eq.trans ap_sq (ap_cons _ (Eq.trans ap_sq (ap_cons _ (Eq.trans (ap_pass (C := (f32_C_r12 k R_l0)) (fun _ => rfl)) (ap_cons _ (f32_f_r12 k R_l0)))))))) (ap_cons _ (ap_cons _ (ap_cons _ (ap_cons _ (ap_cons _ rfl))))))))))))
def f32_entry_B (k : Nat) (g_l0 : f32_t_l0) (a0 : Td12) (a1 : Int) (a2 : Int) : Option ((List Int) × Int × Int × Unit) := ((f57 k (a0.1, (a0.2.1, a0.2.2)) ([a1, a2])).bind fun r1 => (if ¬ (r1.1 = 0) then some ([], 0, r1.1, ()) else (if a1 = a2 then some ([], 0, 0, ()) else ((f58 k (a0.1, (a0.2.1, a0.2.2))).bind fun r2 => ((f59 k (r2.1.1.1.1, (r2.1.1.1.2.1, r2.1.1.1.2.2)) r2.1.1.2.1 r2.1.2.1 a1).bind fun r3 => ((f22 k (a0.1, (a0.2.1, a0.2.2)) a2).bind fun r4 => (g_l0 r3.1.1.1.1 r3.1.1.1.2.1 r3.1.1.1.2.2 r3.1.1.2.1 r4.1 r3.1.2.1 (-1) (r4.1.length : Int) 0)))))))
def f32_l0_B (k : Nat) (g_r12 : f32_t_r12) (y26_0 : (List (Int × Int))) (y26_1 : (List (Int × (Int × (Int × Int))))) (y26_2 : (List (Int × Int))) (y26_4 : (List (List Int))) (y32 : (List Int)) (y97 : (List (Int × (Int × (Int × (Bool × Bool)))))) (x11 : Int) (x33 : Int) (x34 : Int) : Option ((List Int) × Int × Int × Unit) := (if x34 < x33 then (if 0 ≤ x34 then (if x34 < (y32.length : Int) then (if 0 ≤ (y32.getD ((x34).toNat) 0) then (if (y32.getD ((x34).toNat) 0) < (y97.length : Int) then (if (((((y97.getD (((y32.getD ((x34).toNat) 0)).toNat) (0, (0, (0, (false, false))))).2).2).2).1) = true then (if x11 < 0 then (g_r12 y26_0 y26_1 y26_2 y26_4 y32 y97 x11 (y32.getD ((x34).toNat) 0) x33 x34 true) else ((f60 k ((y26_0, (y26_1, y26_2)), (y97, y26_4)) (y32.getD ((x34).toNat) 0) x11).bind fun r1 => (g_r12 y26_0 y26_1 y26_2 y26_4 y32 y97 x11 (y32.getD ((x34).toNat) 0) x33 x34 (decide (r1.1 = true))))) else (g_r12 y26_0 y26_1 y26_2 y26_4 y32 y97 x11 (y32.getD ((x34).toNat) 0) x33 x34 false)) else none) else none) else none) else none) else (if x11 < 0 then some ([], 0, 17, ()) else ((f61 k ((y26_0, (y26_1, y26_2)), (y97, y26_4)) x11).bind fun r2 => (if 0 ≤ x11 then (if x11 < (y97.length : Int) then some (r2.1, (y97.getD ((x11).toNat) (0, (0, (0, (false, false))))).1, 0, ()) else none) else none))))
def f32_r12_B (k : Nat) (g_c13 : f32_t_c13) (y26_0 : (List (Int × Int))) (y26_1 : (List (Int × (Int × (Int × Int))))) (y26_2 : (List (Int × Int))) (y26_4 : (List (List Int))) (y32 : (List Int)) (y97 : (List (Int × (Int × (Int × (Bool × Bool)))))) (x11 : Int) (x13 : Int) (x33 : Int) (x34 : Int) (x55 : Bool) : Option ((List Int) × Int × Int × Unit) := (if x55 = true then (g_c13 y26_0 y26_1 y26_2 y26_4 y32 y97 x13 x33 x34) else (g_c13 y26_0 y26_1 y26_2 y26_4 y32 y97 x11 x33 x34))
def f32_c13_B (k : Nat) (g_l0 : f32_t_l0) (y26_0 : (List (Int × Int))) (y26_1 : (List (Int × (Int × (Int × Int))))) (y26_2 : (List (Int × Int))) (y26_4 : (List (List Int))) (y32 : (List Int)) (y97 : (List (Int × (Int × (Int × (Bool × Bool)))))) (x11 : Int) (x33 : Int) (x34 : Int) : Option ((List Int) × Int × Int × Unit) := (g_l0 y26_0 y26_1 y26_2 y26_4 y32 y97 x11 x33 (w64 (x34 + 1)))
theorem f32_c13_P (k : Nat) (G_l0 : f32_S) : f32_o_c13 (fun σ => f32_a k (f32_F_c13 k G_l0) .nx σ) = f32_c13_B k (f32_o_l0 G_l0) := by kernel_rfl
def f32_c13 (k : Nat) (r_l0 : f32_t_l0) : f32_t_c13 := f32_c13_B k r_l0
theorem f32_c13_E (k : Nat) (R_l0 : f32_S) : f32_o_c13 (f32_C_c13 k R_l0) = f32_c13 k (f32_o_l0 R_l0) :=
  Eq.trans (congrArg f32_o_c13 (ap_fn (f32_f_c13 k R_l0))) ((f32_c13_P k R_l0).trans (by rfl))
theorem f32_r12_P (k : Nat) (G_l0 G_c13 : f32_S) : f32_o_r12 (fun σ => f32_a k (f32_F_r12 k G_l0 G_c13) .nx σ) = f32_r12_B k (f32_o_c13 G_c13) := by kernel_rfl
def f32_r12 (k : Nat) (r_l0 : f32_t_l0) : f32_t_r12 := f32_r12_B k (f32_c13 k r_l0)
theorem f32_r12_E (k : Nat) (R_l0 : f32_S) : f32_o_r12 (f32_C_r12 k R_l0) = f32_r12 k (f32_o_l0 R_l0) :=
  Eq.trans (congrArg f32_o_r12 (ap_fn (f32_f_r12 k R_l0))) ((f32_r12_P k R_l0 (f32_C_c13 k R_l0)).trans (by rw [f32_c13_E k R_l0] <;> rfl))
theorem f32_l0_P (k : Nat) (G_l0 G_r12 G_c13 : f32_S) : f32_o_l0 (fun σ => f32_a k (f32_F_l0 k G_l0 G_r12 G_c13) .nx σ) = f32_l0_B k (f32_o_r12 G_r12) := by kernel_rfl
def f32_l0 (k : Nat) : Nat → f32_t_l0
  | 0 => fun _ _ _ _ _ _ _ _ _ => none
  | n + 1 => f32_l0_B k (f32_r12 k (f32_l0 k n))
theorem f32_l0_E (k : Nat) : ∀ n, f32_o_l0 (f32_C_l0 k n) = f32_l0 k n
  | 0 => rfl
  | n + 1 =>
    Eq.trans (congrArg f32_o_l0 (Eq.trans (b := fun σ => f32_a k (f32_Q_l0 k (f32_C_l0 k n)) .nx σ) (by kernel_rfl) (ap_fn (f32_f_l0 k (f32_C_l0 k n))))) ((f32_l0_P k (f32_C_l0 k n) (f32_C_r12 k (f32_C_l0 k n)) (f32_C_c13 k (f32_C_l0 k n))).trans (by rw [f32_r12_E k (f32_C_l0 k n), f32_l0_E k n] <;> rfl))
theorem f32_entry_P (k : Nat) (G_l0 : f32_S) (xs : DL f32_sig) : f32_a k (.c (f32_p 2) 0 :: .c (f32_p 6) 0 :: .c (f32_p 14) 0 :: .c (f32_p 30) 0 :: .c (f32_p 62) 0 :: .c (f32_p 126) 0 :: .c (f32_p 508) 0 :: .j (fun σ => f32_a k (.j (fun σ => G_l0 (cut f32_A.loops 0 σ)) :: .blk 0 :: .c (f32_p 255) 0 :: []) .nx σ) :: .c (f32_p 255) 0 :: []) .nx (σ0 71 224 f32_sig xs) = f32_entry_B k (f32_o_l0 G_l0) xs.1 xs.2.1 xs.2.2.1 := by kernel_rfl
def f32 (k : Nat) (a0 : Td12) (a1 : Int) (a2 : Int) : Option ((List Int) × Int × Int × Unit) := f32_entry_B k (f32_l0 k k) a0 a1 a2
theorem f32_fe (k : Nat) : f32_a k [.c (f32_p 1) 0] = f32_a k (.c (f32_p 2) 0 :: .c (f32_p 6) 0 :: .c (f32_p 14) 0 :: .c (f32_p 30) 0 :: .c (f32_p 62) 0 :: .c (f32_p 126) 0 :: .c (f32_p 508) 0 :: .j (fun σ => f32_a k (.j (fun σ => (f32_C_l0 k k) (cut f32_A.loops 0 σ)) :: .blk 0 :: .c (f32_p 255) 0 :: []) .nx σ) :: .c (f32_p 255) 0 :: []) := (Eq.trans ap_sq (ap_cons _ (Eq.trans ap_sq (ap_cons _ (Eq.trans ap_sq (ap_cons _ (Eq.trans ap_sq (ap_cons _ (Eq.trans ap_sq (ap_cons _ (Eq.trans ap_sq (ap_cons _ (Eq.trans ap_sq (Eq.trans ap_sq (ap_cons _ (Eq.trans (ap_bl 0) (Eq.trans (ap_j (Eq.trans (ap_lp (C := (f32_C_l0 k)) (fun _ _ => rfl)) (ap_cons _ (ap_cons _ (ap_cons _ rfl))))) (ap_cons _ (ap_cons _ rfl)))))))))))))))))))
theorem f32_eq (k : Nat) (xs : DL f32_sig) : den T f32_Y (f32_E k) f32_A k f32_c 0 (σ0 71 224 f32_sig xs) (Kfin T f32_rs f32_ts) = f32 k xs.1 xs.2.1 xs.2.2.1 :=
  Eq.trans (Eq.trans den_sb (ap_at (f32_fe k) _)) ((f32_entry_P k (f32_C_l0 k k) xs).trans (by rw [f32_l0_E k k] <;> rfl))
noncomputable def f32_con (k : Nat) : Con := ⟨f32_sig, f32_rs, fun xs => f32 k xs.1 xs.2.1 xs.2.2.1⟩
theorem f32_ok (k : Nat) : PureOK Try.prog 32 f32_sig f32_rs (fun xs => f32 k xs.1 xs.2.1 xs.2.2.1) :=
  (pure_of_den (k := k) (A := f32_A) (T := T) (Y := f32_Y) (E := f32_E k) (M := 224) (ts := f32_ts) T_ok ⟨f22_ok k, f57_ok k, f58_ok k, f59_ok k, f60_ok k, f61_ok k, trivial⟩ ⟨f22_ent, f57_ent, f58_ent, f59_ent, f60_ent, f61_ent, trivial⟩ mixed (f := 32) (fn := Try.f32) (c := f32_c) (by kernel_rfl) (by kernel_rfl) (by kernel_rfl) (by decide) (by kernel_rfl)).congr fun xs => (f32_eq k xs).symm
theorem f32_ent : Ent Try.prog 32 := fun args w => by kernel_rfl
/-! ### terrier/terrkeep4.pair: function 51 -/
noncomputable def f51_c : Code := Try.f51.body.getD .skip
noncomputable abbrev f51_p (n : Nat) : Code := sb f51_c n
abbrev f51_sig : List PT := []
abbrev f51_rs : List RT := [.d true Tq9]
abbrev f51_ts : List RV := [.cell 0 27]
abbrev f51_S := St → Option (RDL f51_rs)
abbrev f51_L := List (Fr (RDL f51_rs))
def f51_Y : Tys := [(36, Tq2), (39, Tq6)]
noncomputable def f51_E (k : Nat) : Env := []
def f51_A : Ann := {}
noncomputable abbrev f51_a (k : Nat) (F : f51_L) : Kont (RDL f51_rs) := ap T f51_Y (f51_E k) f51_A k (Kfin T f51_rs f51_ts) F
def f51_entry_B (k : Nat)  : Option (Td12 × Unit) := some (([(0, 0), (1, 0)], ([(0, (1, (7, 0)))], [])), ())
theorem f51_entry_P (k : Nat) (xs : DL f51_sig) : f51_a k (.c (f51_p 1) 0 :: []) .nx (σ0 7 32 f51_sig xs) = f51_entry_B k  := by kernel_rfl
def f51 (k : Nat)  : Option (Td12 × Unit) := f51_entry_B k 
theorem f51_eq (k : Nat) (xs : DL f51_sig) : den T f51_Y (f51_E k) f51_A k f51_c 0 (σ0 7 32 f51_sig xs) (Kfin T f51_rs f51_ts) = f51 k  :=
  Eq.trans (Eq.trans den_sb (ap_at (ap_cons _ rfl) _)) ((f51_entry_P k xs).trans (by rfl))
noncomputable def f51_con (k : Nat) : Con := ⟨f51_sig, f51_rs, fun xs => f51 k ⟩
theorem f51_ok (k : Nat) : PureOK Try.prog 51 f51_sig f51_rs (fun xs => f51 k ) :=
  (pure_of_den (k := k) (A := f51_A) (T := T) (Y := f51_Y) (E := f51_E k) (M := 32) (ts := f51_ts) T_ok trivial trivial mixed (f := 51) (fn := Try.f51) (c := f51_c) (by kernel_rfl) (by kernel_rfl) (by kernel_rfl) (by decide) (by kernel_rfl)).congr fun xs => (f51_eq k xs).symm
theorem f51_ent : Ent Try.prog 51 := fun args w => by kernel_rfl
/-! ### terrier/terrkeep4.routed: function 31 -/
noncomputable def f31_c : Code := Try.f31.body.getD .skip
noncomputable abbrev f31_p (n : Nat) : Code := sb f31_c n
abbrev f31_sig : List PT := []
abbrev f31_rs : List RT := [.d false .bool]
abbrev f31_ts : List RV := [.tmp 0]
abbrev f31_S := St → Option (RDL f31_rs)
abbrev f31_L := List (Fr (RDL f31_rs))
def f31_Y : Tys := [(3, (.int .i64))]
noncomputable def f31_E (k : Nat) : Env := [(20, .c (f20_con k)), (32, .c (f32_con k)), (51, .c (f51_con k))]
def f31_A : Ann := { regs := [(2, { slots := [(0, .bool)] })] }
noncomputable abbrev f31_a (k : Nat) (F : f31_L) : Kont (RDL f31_rs) := ap T f31_Y (f31_E k) f31_A k (Kfin T f31_rs f31_ts) F
def f31_s_r2 (x0 : Bool) : St := mkS 21 64 [(0, aB x0)] []
abbrev f31_t_r2 := Bool → Option (Bool × Unit)
abbrev f31_o_r2 (R : f31_S) : f31_t_r2 := (fun x0 => R (f31_s_r2 x0))
noncomputable def f31_Q_r2 (k : Nat) : f31_L := [.c (f31_p 15) 0]
noncomputable def f31_C_r2 (k : Nat) : f31_S := fun σ => f31_a k (f31_Q_r2 k) .nx σ
noncomputable def f31_F_r2 (k : Nat) : f31_L := .c (f31_p 15) 0 :: []
theorem f31_f_r2 (k : Nat) : f31_a k (f31_Q_r2 k) = f31_a k (f31_F_r2 k) := (ap_cons _ rfl)
def f31_entry_B (k : Nat) (g_r2 : f31_t_r2)  : Option (Bool × Unit) := ((f51 k ).bind fun r1 => ((f32 k (r1.1.1, (r1.1.2.1, r1.1.2.2)) 0 1).bind fun r2 => (if r2.2.2.1 = 0 then (if r2.2.1 = 7 then ((f20 k r2.1 ([0])).bind fun r3 => (g_r2 (decide (r3.1 = true)))) else (g_r2 false)) else (g_r2 false))))
def f31_r2_B (k : Nat) (x0 : Bool) : Option (Bool × Unit) := some (decide (x0 = true), ())
theorem f31_r2_P (k : Nat) : f31_o_r2 (fun σ => f31_a k (f31_F_r2 k) .nx σ) = f31_r2_B k := by kernel_rfl
def f31_r2 (k : Nat) : f31_t_r2 := f31_r2_B k
theorem f31_r2_E (k : Nat) : f31_o_r2 (f31_C_r2 k) = f31_r2 k :=
  Eq.trans (congrArg f31_o_r2 (ap_fn (f31_f_r2 k))) ((f31_r2_P k).trans (by rfl))
theorem f31_entry_P (k : Nat) (G_r2 : f31_S) (xs : DL f31_sig) : f31_a k (.c (f31_p 2) 0 :: .c (f31_p 6) 0 :: .c (f31_p 14) 0 :: .j G_r2 :: f31_F_r2 k) .nx (σ0 21 64 f31_sig xs) = f31_entry_B k (f31_o_r2 G_r2)  := by kernel_rfl
def f31 (k : Nat)  : Option (Bool × Unit) := f31_entry_B k (f31_r2 k) 
theorem f31_fe (k : Nat) : f31_a k [.c (f31_p 1) 0] = f31_a k (.c (f31_p 2) 0 :: .c (f31_p 6) 0 :: .c (f31_p 14) 0 :: .j (f31_C_r2 k) :: f31_F_r2 k) := (Eq.trans ap_sq (ap_cons _ (Eq.trans ap_sq (ap_cons _ (Eq.trans ap_sq (ap_cons _ (Eq.trans (ap_pass (C := (f31_C_r2 k)) (fun _ => rfl)) (ap_cons _ (f31_f_r2 k)))))))))
theorem f31_eq (k : Nat) (xs : DL f31_sig) : den T f31_Y (f31_E k) f31_A k f31_c 0 (σ0 21 64 f31_sig xs) (Kfin T f31_rs f31_ts) = f31 k  :=
  Eq.trans (Eq.trans den_sb (ap_at (f31_fe k) _)) ((f31_entry_P k (f31_C_r2 k) xs).trans (by rw [f31_r2_E k] <;> rfl))
noncomputable def f31_con (k : Nat) : Con := ⟨f31_sig, f31_rs, fun xs => f31 k ⟩
theorem f31_ok (k : Nat) : PureOK Try.prog 31 f31_sig f31_rs (fun xs => f31 k ) :=
  (pure_of_den (k := k) (A := f31_A) (T := T) (Y := f31_Y) (E := f31_E k) (M := 64) (ts := f31_ts) T_ok ⟨f20_ok k, f32_ok k, f51_ok k, trivial⟩ ⟨f20_ent, f32_ent, f51_ent, trivial⟩ mixed (f := 31) (fn := Try.f31) (c := f31_c) (by kernel_rfl) (by kernel_rfl) (by kernel_rfl) (by decide) (by kernel_rfl)).congr fun xs => (f31_eq k xs).symm
theorem f31_ent : Ent Try.prog 31 := fun args w => by kernel_rfl
/-! ### terrier/route.Sound: function 34 -/
noncomputable def f34_c : Code := Try.f34.body.getD .skip
noncomputable abbrev f34_p (n : Nat) : Code := sb f34_c n
abbrev f34_sig : List PT := [(true, Tq9), (false, (.int .i64)), (false, Tq1)]
abbrev f34_rs : List RT := [.d false .bool]
abbrev f34_ts : List RV := [.tmp 6]
abbrev f34_S := St → Option (RDL f34_rs)
abbrev f34_L := List (Fr (RDL f34_rs))
def f34_Y : Tys := [(3, (.int .i64)), (4, .bool)]
noncomputable def f34_E (k : Nat) : Env := [(57, .c (f57_con k))]
def f34_A : Ann := { regs := [(1, { slots := [(1, .id), (2, .val false (.int .i64)), (3, .id), (42, .bool)], keys := [(3, [.val false Tq2, .val false Tq6, .val false Tq2])] }), (6, { slots := [(1, .id), (2, .val false (.int .i64)), (3, .id), (43, .val false (.int .i64)), (44, .id), (45, .id), (54, .bool)], keys := [(3, [.val false Tq2, .val false Tq6, .val false Tq2])] }), (12, { slots := [(1, .id), (2, .val false (.int .i64)), (3, .id), (57, .val false Tq6), (58, .id), (59, .id), (92, .bool)], keys := [(3, [.val false Tq2, .val false Tq6, .val false Tq2])] }), (23, { slots := [(2, .val false (.int .i64)), (3, .id), (11, .id), (12, .bool), (14, .id), (102, .val false Tq6), (103, .id), (104, .id), (136, .bool)], keys := [(3, [.val false Tq2, .val false Tq6, .val false Tq2]), (14, []), (96, [])] })], loops := [(0, { slots := [(1, .id), (2, .val false (.int .i64)), (3, .id), (43, .val false (.int .i64)), (44, .id), (45, .id)], keys := [(3, [.val false Tq2, .val false Tq6, .val false Tq2])] }), (2, { slots := [(1, .id), (2, .val false (.int .i64)), (3, .id), (57, .val false Tq6), (58, .id), (59, .id)], keys := [(3, [.val false Tq2, .val false Tq6, .val false Tq2])] }), (4, { slots := [(2, .val false (.int .i64)), (3, .id), (11, .id), (12, .bool)], keys := [(3, [.val false Tq2, .val false Tq6, .val false Tq2]), (96, [])] }), (6, { slots := [(2, .val false (.int .i64)), (3, .id), (11, .id), (12, .bool), (102, .val false Tq6), (103, .id), (104, .id)], keys := [(3, [.val false Tq2, .val false Tq6, .val false Tq2]), (96, [])] }), (8, { slots := [(11, .id), (142, .val false (.int .i64)), (143, .id), (144, .id)], keys := [(96, [])] })], conds := [(24, { slots := [(2, .val false (.int .i64)), (3, .id), (11, .id), (12, .bool), (102, .val false Tq6), (103, .id), (104, .id)], keys := [(3, [.val false Tq2, .val false Tq6, .val false Tq2]), (96, [])] })] }
noncomputable abbrev f34_a (k : Nat) (F : f34_L) : Kont (RDL f34_rs) := ap T f34_Y (f34_E k) f34_A k (Kfin T f34_rs f34_ts) F
def f34_s_r1 (y3_0 : (List (Int × Int))) (y3_1 : (List (Int × (Int × (Int × Int))))) (y3_2 : (List (Int × Int))) (x1 : Int) (x2 : (List Int)) (x42 : Bool) : St := mkS 157 480 [(1, aI x1), (2, aV (.int .i64) x2), (3, aP 3), (42, aB x42)] [(3, .box [cV Tq2 y3_0, cV Tq6 y3_1, cV Tq2 y3_2])]
abbrev f34_t_r1 := (List (Int × Int)) → (List (Int × (Int × (Int × Int)))) → (List (Int × Int)) → Int → (List Int) → Bool → Option (Bool × Unit)
abbrev f34_o_r1 (R : f34_S) : f34_t_r1 := (fun y3_0 y3_1 y3_2 x1 x2 x42 => R (f34_s_r1 y3_0 y3_1 y3_2 x1 x2 x42))
noncomputable def f34_Q_r1 (k : Nat) : f34_L := [.c (f34_p 13) 0, .c (f34_p 7) 0]
noncomputable def f34_C_r1 (k : Nat) : f34_S := fun σ => f34_a k (f34_Q_r1 k) .nx σ
def f34_s_l0 (y3_0 : (List (Int × Int))) (y3_1 : (List (Int × (Int × (Int × Int))))) (y3_2 : (List (Int × Int))) (x1 : Int) (x2 : (List Int)) (x44 : Int) (x45 : Int) : St := mkS 157 480 [(1, aI x1), (2, aV (.int .i64) x2), (3, aP 3), (43, aV (.int .i64) x2), (44, aI x44), (45, aI x45)] [(3, .box [cV Tq2 y3_0, cV Tq6 y3_1, cV Tq2 y3_2])]
abbrev f34_t_l0 := (List (Int × Int)) → (List (Int × (Int × (Int × Int)))) → (List (Int × Int)) → Int → (List Int) → Int → Int → Option (Bool × Unit)
abbrev f34_o_l0 (R : f34_S) : f34_t_l0 := (fun y3_0 y3_1 y3_2 x1 x2 x44 x45 => R (f34_s_l0 y3_0 y3_1 y3_2 x1 x2 x44 x45))
noncomputable def f34_Q_l0 (k : Nat) (R_l0 : f34_S) : f34_L := [.c (f34_p 116) 0, .j (fun σ => R_l0 (cut f34_A.loops 0 σ)), .blk 0, .c (f34_p 15) 0]
noncomputable def f34_C_l0 (k : Nat) (n : Nat) (σ : St) : Option (RDL f34_rs) := loopK (fun σ K => den T f34_Y (f34_E k) f34_A k (f34_p 116) 0 σ K) (cut f34_A.loops 0) (f34_a k [.blk 0, .c (f34_p 15) 0]) n σ
def f34_s_r6 (y3_0 : (List (Int × Int))) (y3_1 : (List (Int × (Int × (Int × Int))))) (y3_2 : (List (Int × Int))) (x1 : Int) (x2 : (List Int)) (x44 : Int) (x45 : Int) (x54 : Bool) : St := mkS 157 480 [(1, aI x1), (2, aV (.int .i64) x2), (3, aP 3), (43, aV (.int .i64) x2), (44, aI x44), (45, aI x45), (54, aB x54)] [(3, .box [cV Tq2 y3_0, cV Tq6 y3_1, cV Tq2 y3_2])]
abbrev f34_t_r6 := (List (Int × Int)) → (List (Int × (Int × (Int × Int)))) → (List (Int × Int)) → Int → (List Int) → Int → Int → Bool → Option (Bool × Unit)
abbrev f34_o_r6 (R : f34_S) : f34_t_r6 := (fun y3_0 y3_1 y3_2 x1 x2 x44 x45 x54 => R (f34_s_r6 y3_0 y3_1 y3_2 x1 x2 x44 x45 x54))
noncomputable def f34_Q_r6 (k : Nat) (R_l0 : f34_S) : f34_L := [.c (f34_p 7475) 1, .blk 1, .c (f34_p 935) 0, .j (fun σ => R_l0 (cut f34_A.loops 0 σ)), .blk 0, .c (f34_p 15) 0]
noncomputable def f34_C_r6 (k : Nat) (R_l0 : f34_S) : f34_S := fun σ => f34_a k (f34_Q_r6 k R_l0) .nx σ
def f34_s_l2 (y3_0 : (List (Int × Int))) (y3_1 : (List (Int × (Int × (Int × Int))))) (y3_2 : (List (Int × Int))) (x1 : Int) (x2 : (List Int)) (x58 : Int) (x59 : Int) : St := mkS 157 480 [(1, aI x1), (2, aV (.int .i64) x2), (3, aP 3), (57, aV Tq6 y3_1), (58, aI x58), (59, aI x59)] [(3, .box [cV Tq2 y3_0, cV Tq6 y3_1, cV Tq2 y3_2])]
abbrev f34_t_l2 := (List (Int × Int)) → (List (Int × (Int × (Int × Int)))) → (List (Int × Int)) → Int → (List Int) → Int → Int → Option (Bool × Unit)
abbrev f34_o_l2 (R : f34_S) : f34_t_l2 := (fun y3_0 y3_1 y3_2 x1 x2 x58 x59 => R (f34_s_l2 y3_0 y3_1 y3_2 x1 x2 x58 x59))
noncomputable def f34_Q_l2 (k : Nat) (R_l2 : f34_S) : f34_L := [.c (f34_p 244) 2, .j (fun σ => R_l2 (cut f34_A.loops 2 σ)), .blk 2, .c (f34_p 31) 0]
noncomputable def f34_C_l2 (k : Nat) (n : Nat) (σ : St) : Option (RDL f34_rs) := loopK (fun σ K => den T f34_Y (f34_E k) f34_A k (f34_p 244) 2 σ K) (cut f34_A.loops 2) (f34_a k [.blk 2, .c (f34_p 31) 0]) n σ
def f34_s_r12 (y3_0 : (List (Int × Int))) (y3_1 : (List (Int × (Int × (Int × Int))))) (y3_2 : (List (Int × Int))) (x1 : Int) (x2 : (List Int)) (x58 : Int) (x59 : Int) (x92 : Bool) : St := mkS 157 480 [(1, aI x1), (2, aV (.int .i64) x2), (3, aP 3), (57, aV Tq6 y3_1), (58, aI x58), (59, aI x59), (92, aB x92)] [(3, .box [cV Tq2 y3_0, cV Tq6 y3_1, cV Tq2 y3_2])]
abbrev f34_t_r12 := (List (Int × Int)) → (List (Int × (Int × (Int × Int)))) → (List (Int × Int)) → Int → (List Int) → Int → Int → Bool → Option (Bool × Unit)
abbrev f34_o_r12 (R : f34_S) : f34_t_r12 := (fun y3_0 y3_1 y3_2 x1 x2 x58 x59 x92 => R (f34_s_r12 y3_0 y3_1 y3_2 x1 x2 x58 x59 x92))
noncomputable def f34_Q_r12 (k : Nat) (R_l2 : f34_S) : f34_L := [.c (f34_p 15667) 3, .blk 3, .c (f34_p 1959) 2, .j (fun σ => R_l2 (cut f34_A.loops 2 σ)), .blk 2, .c (f34_p 31) 0]
noncomputable def f34_C_r12 (k : Nat) (R_l2 : f34_S) : f34_S := fun σ => f34_a k (f34_Q_r12 k R_l2) .nx σ
def f34_s_l4 (y3_0 : (List (Int × Int))) (y3_1 : (List (Int × (Int × (Int × Int))))) (y3_2 : (List (Int × Int))) (y96 : (List Bool)) (x12 : Bool) (x2 : (List Int)) : St := mkS 157 480 [(2, aV (.int .i64) x2), (3, aP 3), (11, aO 96), (12, aB x12)] [(3, .box [cV Tq2 y3_0, cV Tq6 y3_1, cV Tq2 y3_2]), (96, .vec .bool y96)]
abbrev f34_t_l4 := (List (Int × Int)) → (List (Int × (Int × (Int × Int)))) → (List (Int × Int)) → (List Bool) → Bool → (List Int) → Option (Bool × Unit)
abbrev f34_o_l4 (R : f34_S) : f34_t_l4 := (fun y3_0 y3_1 y3_2 y96 x12 x2 => R (f34_s_l4 y3_0 y3_1 y3_2 y96 x12 x2))
noncomputable def f34_Q_l4 (k : Nat) (R_l4 : f34_S) : f34_L := [.c (f34_p 2036) 4, .j (fun σ => R_l4 (cut f34_A.loops 4 σ)), .blk 4, .c (f34_p 255) 0]
noncomputable def f34_C_l4 (k : Nat) (n : Nat) (σ : St) : Option (RDL f34_rs) := loopK (fun σ K => den T f34_Y (f34_E k) f34_A k (f34_p 2036) 4 σ K) (cut f34_A.loops 4) (f34_a k [.blk 4, .c (f34_p 255) 0]) n σ
def f34_s_l6 (y3_0 : (List (Int × Int))) (y3_1 : (List (Int × (Int × (Int × Int))))) (y3_2 : (List (Int × Int))) (y96 : (List Bool)) (x103 : Int) (x104 : Int) (x12 : Bool) (x2 : (List Int)) : St := mkS 157 480 [(2, aV (.int .i64) x2), (3, aP 3), (11, aO 96), (12, aB x12), (102, aV Tq6 y3_1), (103, aI x103), (104, aI x104)] [(3, .box [cV Tq2 y3_0, cV Tq6 y3_1, cV Tq2 y3_2]), (96, .vec .bool y96)]
abbrev f34_t_l6 := (List (Int × Int)) → (List (Int × (Int × (Int × Int)))) → (List (Int × Int)) → (List Bool) → Int → Int → Bool → (List Int) → Option (Bool × Unit)
abbrev f34_o_l6 (R : f34_S) : f34_t_l6 := (fun y3_0 y3_1 y3_2 y96 x103 x104 x12 x2 => R (f34_s_l6 y3_0 y3_1 y3_2 y96 x103 x104 x12 x2))
noncomputable def f34_Q_l6 (k : Nat) (R_l4 R_l6 : f34_S) : f34_L := [.c (f34_p 130348) 6, .j (fun σ => R_l6 (cut f34_A.loops 6 σ)), .blk 6, .blk 5, .j (fun σ => R_l4 (cut f34_A.loops 4 σ)), .blk 4, .c (f34_p 255) 0]
noncomputable def f34_C_l6 (k : Nat) (R_l4 : f34_S) (n : Nat) (σ : St) : Option (RDL f34_rs) := loopK (fun σ K => den T f34_Y (f34_E k) f34_A k (f34_p 130348) 6 σ K) (cut f34_A.loops 6) (f34_a k [.blk 6, .blk 5, .j (fun σ => R_l4 (cut f34_A.loops 4 σ)), .blk 4, .c (f34_p 255) 0]) n σ
def f34_s_r23 (y14_0 : Int) (y14_1 : Int) (y14_2 : Int) (y14_3 : Int) (y3_0 : (List (Int × Int))) (y3_1 : (List (Int × (Int × (Int × Int))))) (y3_2 : (List (Int × Int))) (y96 : (List Bool)) (x103 : Int) (x104 : Int) (x12 : Bool) (x136 : Bool) (x2 : (List Int)) : St := mkS 157 480 [(2, aV (.int .i64) x2), (3, aP 3), (11, aO 96), (12, aB x12), (14, aP 14), (102, aV Tq6 y3_1), (103, aI x103), (104, aI x104), (136, aB x136)] [(3, .box [cV Tq2 y3_0, cV Tq6 y3_1, cV Tq2 y3_2]), (14, .box [cI y14_0, cI y14_1, cI y14_2, cI y14_3]), (96, .vec .bool y96)]
abbrev f34_t_r23 := Int → Int → Int → Int → (List (Int × Int)) → (List (Int × (Int × (Int × Int)))) → (List (Int × Int)) → (List Bool) → Int → Int → Bool → Bool → (List Int) → Option (Bool × Unit)
abbrev f34_o_r23 (R : f34_S) : f34_t_r23 := (fun y14_0 y14_1 y14_2 y14_3 y3_0 y3_1 y3_2 y96 x103 x104 x12 x136 x2 => R (f34_s_r23 y14_0 y14_1 y14_2 y14_3 y3_0 y3_1 y3_2 y96 x103 x104 x12 x136 x2))
noncomputable def f34_Q_r23 (k : Nat) (R_l6 R_l4 : f34_S) : f34_L := [.c (f34_p 8342323) 7, .blk 7, .c (f34_p 1042791) 6, .j (fun σ => R_l6 (cut f34_A.loops 6 σ)), .blk 6, .blk 5, .j (fun σ => R_l4 (cut f34_A.loops 4 σ)), .blk 4, .c (f34_p 255) 0]
noncomputable def f34_C_r23 (k : Nat) (R_l6 R_l4 : f34_S) : f34_S := fun σ => f34_a k (f34_Q_r23 k R_l6 R_l4) .nx σ
def f34_s_l8 (y96 : (List Bool)) (x142 : (List Int)) (x143 : Int) (x144 : Int) : St := mkS 157 480 [(11, aO 96), (142, aV (.int .i64) x142), (143, aI x143), (144, aI x144)] [(96, .vec .bool y96)]
abbrev f34_t_l8 := (List Bool) → (List Int) → Int → Int → Option (Bool × Unit)
abbrev f34_o_l8 (R : f34_S) : f34_t_l8 := (fun y96 x142 x143 x144 => R (f34_s_l8 y96 x142 x143 x144))
noncomputable def f34_Q_l8 (k : Nat) (R_l8 : f34_S) : f34_L := [.c (f34_p 4084) 8, .j (fun σ => R_l8 (cut f34_A.loops 8 σ)), .blk 8, .c (f34_p 511) 0]
noncomputable def f34_C_l8 (k : Nat) (n : Nat) (σ : St) : Option (RDL f34_rs) := loopK (fun σ K => den T f34_Y (f34_E k) f34_A k (f34_p 4084) 8 σ K) (cut f34_A.loops 8) (f34_a k [.blk 8, .c (f34_p 511) 0]) n σ
def f34_s_c24 (y3_0 : (List (Int × Int))) (y3_1 : (List (Int × (Int × (Int × Int))))) (y3_2 : (List (Int × Int))) (y96 : (List Bool)) (x103 : Int) (x104 : Int) (x12 : Bool) (x2 : (List Int)) : St := mkS 157 480 [(2, aV (.int .i64) x2), (3, aP 3), (11, aO 96), (12, aB x12), (102, aV Tq6 y3_1), (103, aI x103), (104, aI x104)] [(3, .box [cV Tq2 y3_0, cV Tq6 y3_1, cV Tq2 y3_2]), (96, .vec .bool y96)]
abbrev f34_t_c24 := (List (Int × Int)) → (List (Int × (Int × (Int × Int)))) → (List (Int × Int)) → (List Bool) → Int → Int → Bool → (List Int) → Option (Bool × Unit)
abbrev f34_o_c24 (R : f34_S) : f34_t_c24 := (fun y3_0 y3_1 y3_2 y96 x103 x104 x12 x2 => R (f34_s_c24 y3_0 y3_1 y3_2 y96 x103 x104 x12 x2))
noncomputable def f34_Q_c24 (k : Nat) (R_l6 R_l4 : f34_S) : f34_L := [.blk 7, .c (f34_p 1042791) 6, .j (fun σ => R_l6 (cut f34_A.loops 6 σ)), .blk 6, .blk 5, .j (fun σ => R_l4 (cut f34_A.loops 4 σ)), .blk 4, .c (f34_p 255) 0]
noncomputable def f34_C_c24 (k : Nat) (R_l6 R_l4 : f34_S) : f34_S := fun σ => f34_a k (f34_Q_c24 k R_l6 R_l4) .nx σ
noncomputable def f34_F_r1 (k : Nat) (G_l0 G_l2 G_l4 G_l8 : f34_S) : f34_L := .c (f34_p 13) 0 :: .c (f34_p 28) 0 :: .j (fun σ => f34_a k (.j (fun σ => G_l0 (cut f34_A.loops 0 σ)) :: .blk 0 :: .c (f34_p 60) 0 :: .j (fun σ => f34_a k (.j (fun σ => G_l2 (cut f34_A.loops 2 σ)) :: .blk 2 :: .c (f34_p 62) 0 :: .c (f34_p 126) 0 :: .c (f34_p 508) 0 :: .j (fun σ => f34_a k (.j (fun σ => G_l4 (cut f34_A.loops 4 σ)) :: .blk 4 :: .c (f34_p 1020) 0 :: .j (fun σ => f34_a k (.j (fun σ => G_l8 (cut f34_A.loops 8 σ)) :: .blk 8 :: .c (f34_p 511) 0 :: []) .nx σ) :: .c (f34_p 511) 0 :: []) .nx σ) :: .c (f34_p 1020) 0 :: .j (fun σ => f34_a k (.j (fun σ => G_l8 (cut f34_A.loops 8 σ)) :: .blk 8 :: .c (f34_p 511) 0 :: []) .nx σ) :: .c (f34_p 511) 0 :: []) .nx σ) :: .c (f34_p 62) 0 :: .c (f34_p 126) 0 :: .c (f34_p 508) 0 :: .j (fun σ => f34_a k (.j (fun σ => G_l4 (cut f34_A.loops 4 σ)) :: .blk 4 :: .c (f34_p 1020) 0 :: .j (fun σ => f34_a k (.j (fun σ => G_l8 (cut f34_A.loops 8 σ)) :: .blk 8 :: .c (f34_p 511) 0 :: []) .nx σ) :: .c (f34_p 511) 0 :: []) .nx σ) :: .c (f34_p 1020) 0 :: .j (fun σ => f34_a k (.j (fun σ => G_l8 (cut f34_A.loops 8 σ)) :: .blk 8 :: .c (f34_p 511) 0 :: []) .nx σ) :: .c (f34_p 511) 0 :: []) .nx σ) :: .c (f34_p 60) 0 :: .j (fun σ => f34_a k (.j (fun σ => G_l2 (cut f34_A.loops 2 σ)) :: .blk 2 :: .c (f34_p 62) 0 :: .c (f34_p 126) 0 :: .c (f34_p 508) 0 :: .j (fun σ => f34_a k (.j (fun σ => G_l4 (cut f34_A.loops 4 σ)) :: .blk 4 :: .c (f34_p 1020) 0 :: .j (fun σ => f34_a k (.j (fun σ => G_l8 (cut f34_A.loops 8 σ)) :: .blk 8 :: .c (f34_p 511) 0 :: []) .nx σ) :: .c (f34_p 511) 0 :: []) .nx σ) :: .c (f34_p 1020) 0 :: .j (fun σ => f34_a k (.j (fun σ => G_l8 (cut f34_A.loops 8 σ)) :: .blk 8 :: .c (f34_p 511) 0 :: []) .nx σ) :: .c (f34_p 511) 0 :: []) .nx σ) :: .c (f34_p 62) 0 :: .c (f34_p 126) 0 :: .c (f34_p 508) 0 :: .j (fun σ => f34_a k (.j (fun σ => G_l4 (cut f34_A.loops 4 σ)) :: .blk 4 :: .c (f34_p 1020) 0 :: .j (fun σ => f34_a k (.j (fun σ => G_l8 (cut f34_A.loops 8 σ)) :: .blk 8 :: .c (f34_p 511) 0 :: []) .nx σ) :: .c (f34_p 511) 0 :: []) .nx σ) :: .c (f34_p 1020) 0 :: .j (fun σ => f34_a k (.j (fun σ => G_l8 (cut f34_A.loops 8 σ)) :: .blk 8 :: .c (f34_p 511) 0 :: []) .nx σ) :: .c (f34_p 511) 0 :: []
theorem f34_f_r1 (k : Nat) : f34_a k (f34_Q_r1 k) = f34_a k (f34_F_r1 k (f34_C_l0 k k) (f34_C_l2 k k) (f34_C_l4 k k) (f34_C_l8 k k)) := (ap_cons _ (Eq.trans ap_sq (Eq.trans ap_sq (ap_cons _ (Eq.trans (ap_bl 0) (Eq.trans (ap_j (Eq.trans (ap_lp (C := (f34_C_l0 k)) (fun _ _ => rfl)) (ap_cons _ (ap_cons _ (Eq.trans ap_sq (Eq.trans ap_sq (ap_cons _ (Eq.trans (ap_bl 2) (Eq.trans (ap_j (Eq.trans (ap_lp (C := (f34_C_l2 k)) (fun _ _ => rfl)) (ap_cons _ (ap_cons _ (Eq.trans ap_sq (ap_cons _ (Eq.trans ap_sq (ap_cons _ (Eq.trans ap_sq (Eq.trans ap_sq (ap_cons _ (Eq.trans (ap_bl 4) (Eq.trans (ap_j (Eq.trans (ap_lp (C := (f34_C_l4 k)) (fun _ _ => rfl)) (ap_cons _ (ap_cons _ (Eq.trans ap_sq (Eq.trans ap_sq (ap_cons _ (Eq.trans (ap_bl 8) (Eq.trans (ap_j (Eq.trans (ap_lp (C := (f34_C_l8 k)) (fun _ _ => rfl)) (ap_cons _ (ap_cons _ (ap_cons _ rfl))))) (ap_cons _ (ap_cons _ rfl))))))))))) (ap_cons _ (Eq.trans ap_sq (Eq.trans ap_sq (ap_cons _ (Eq.trans (ap_bl 8) (Eq.trans (ap_j (Eq.trans (ap_lp (C := (f34_C_l8 k)) (fun _ _ => rfl)) (ap_cons _ (ap_cons _ (ap_cons _ rfl))))) (ap_cons _ (ap_cons _ rfl))))))))))))))))))))) (ap_cons _ (Eq.trans ap_sq (ap_cons _ (Eq.trans ap_sq (ap_cons _ (Eq.trans ap_sq (Eq.trans ap_sq (ap_cons _ (Eq.trans (ap_bl 4) (Eq.trans (ap_j (Eq.trans (ap_lp (C := (f34_C_l4 k)) (fun _ _ => rfl)) (ap_cons _ (ap_cons _ (Eq.trans ap_sq (Eq.trans ap_sq (ap_cons _ (Eq.trans (ap_bl 8) (Eq.trans (ap_j (Eq.trans (ap_lp (C := (f34_C_l8 k)) (fun _ _ => rfl)) (ap_cons _ (ap_cons _ (ap_cons _ rfl))))) (ap_cons _ (ap_cons _ rfl))))))))))) (ap_cons _ (Eq.trans ap_sq (Eq.trans ap_sq (ap_cons _ (Eq.trans (ap_bl 8) (Eq.trans (ap_j (Eq.trans (ap_lp (C := (f34_C_l8 k)) (fun _ _ => rfl)) (ap_cons _ (ap_cons _ (ap_cons _ rfl))))) (ap_cons _ (ap_cons _ rfl))))))))))))))))))))))))))) (ap_cons _ (Eq.trans ap_sq (Eq.trans ap_sq (ap_cons _ (Eq.trans (ap_bl 2) (Eq.trans (ap_j (Eq.trans (ap_lp (C := (f34_C_l2 k)) (fun _ _ => rfl)) (ap_cons _ (ap_cons _ (Eq.trans ap_sq (ap_cons _ (Eq.trans ap_sq (ap_cons _ (Eq.trans ap_sq (Eq.trans ap_sq (ap_cons _ (Eq.trans (ap_bl 4) (Eq.trans (ap_j (Eq.trans (ap_lp (C := (f34_C_l4 k)) (fun _ _ => rfl)) (ap_cons _ (ap_cons _ (Eq.trans ap_sq (Eq.trans ap_sq (ap_cons _ (Eq.trans (ap_bl 8) (Eq.trans (ap_j (Eq.trans (ap_lp (C := (f34_C_l8 k)) (fun _ _ => rfl)) (ap_cons _ (ap_cons _ (ap_cons _ rfl))))) (ap_cons _ (ap_cons _ rfl))))))))))) (ap_cons _ (Eq.trans ap_sq (Eq.trans ap_sq (ap_cons _ (Eq.trans (ap_bl 8) (Eq.trans (ap_j (Eq.trans (ap_lp (C := (f34_C_l8 k)) (fun _ _ => rfl)) (ap_cons _ (ap_cons _ (ap_cons _ rfl))))) (ap_cons _ (ap_cons _ rfl))))))))))))))))))))) (ap_cons _ (Eq.trans ap_sq (ap_cons _ (Eq.trans ap_sq (ap_cons _ (Eq.trans ap_sq (Eq.trans ap_sq (ap_cons _ (Eq.trans (ap_bl 4) (Eq.trans (ap_j (Eq.trans (ap_lp (C := (f34_C_l4 k)) (fun _ _ => rfl)) (ap_cons _ (ap_cons _ (Eq.trans ap_sq (Eq.trans ap_sq (ap_cons _ (Eq.trans (ap_bl 8) (Eq.trans (ap_j (Eq.trans (ap_lp (C := (f34_C_l8 k)) (fun _ _ => rfl)) (ap_cons _ (ap_cons _ (ap_cons _ rfl))))) (ap_cons _ (ap_cons _ rfl))))))))))) (ap_cons _ (Eq.trans ap_sq (Eq.trans ap_sq (ap_cons _ (Eq.trans (ap_bl 8) (Eq.trans (ap_j (Eq.trans (ap_lp (C := (f34_C_l8 k)) (fun _ _ => rfl)) (ap_cons _ (ap_cons _ (ap_cons _ rfl))))) (ap_cons _ (ap_cons _ rfl))))))))))))))))))))))))))))))
noncomputable def f34_F_r6 (k : Nat) (G_l0 G_l2 G_l4 G_l8 : f34_S) : f34_L := .c (f34_p 7475) 1 :: .blk 1 :: .c (f34_p 935) 0 :: .j (fun σ => G_l0 (cut f34_A.loops 0 σ)) :: .blk 0 :: .c (f34_p 60) 0 :: .j (fun σ => f34_a k (.j (fun σ => G_l2 (cut f34_A.loops 2 σ)) :: .blk 2 :: .c (f34_p 62) 0 :: .c (f34_p 126) 0 :: .c (f34_p 508) 0 :: .j (fun σ => f34_a k (.j (fun σ => G_l4 (cut f34_A.loops 4 σ)) :: .blk 4 :: .c (f34_p 1020) 0 :: .j (fun σ => f34_a k (.j (fun σ => G_l8 (cut f34_A.loops 8 σ)) :: .blk 8 :: .c (f34_p 511) 0 :: []) .nx σ) :: .c (f34_p 511) 0 :: []) .nx σ) :: .c (f34_p 1020) 0 :: .j (fun σ => f34_a k (.j (fun σ => G_l8 (cut f34_A.loops 8 σ)) :: .blk 8 :: .c (f34_p 511) 0 :: []) .nx σ) :: .c (f34_p 511) 0 :: []) .nx σ) :: .c (f34_p 62) 0 :: .c (f34_p 126) 0 :: .c (f34_p 508) 0 :: .j (fun σ => f34_a k (.j (fun σ => G_l4 (cut f34_A.loops 4 σ)) :: .blk 4 :: .c (f34_p 1020) 0 :: .j (fun σ => f34_a k (.j (fun σ => G_l8 (cut f34_A.loops 8 σ)) :: .blk 8 :: .c (f34_p 511) 0 :: []) .nx σ) :: .c (f34_p 511) 0 :: []) .nx σ) :: .c (f34_p 1020) 0 :: .j (fun σ => f34_a k (.j (fun σ => G_l8 (cut f34_A.loops 8 σ)) :: .blk 8 :: .c (f34_p 511) 0 :: []) .nx σ) :: .c (f34_p 511) 0 :: []
theorem f34_f_r6 (k : Nat) (R_l0 : f34_S) : f34_a k (f34_Q_r6 k R_l0) = f34_a k (f34_F_r6 k R_l0 (f34_C_l2 k k) (f34_C_l4 k k) (f34_C_l8 k k)) := (ap_cons _ (ap_cons _ (ap_cons _ (ap_cons _ (ap_cons _ (Eq.trans ap_sq (Eq.trans ap_sq (ap_cons _ (Eq.trans (ap_bl 2) (Eq.trans (ap_j (Eq.trans (ap_lp (C := (f34_C_l2 k)) (fun _ _ => rfl)) (ap_cons _ (ap_cons _ (Eq.trans ap_sq (ap_cons _ (Eq.trans ap_sq (ap_cons _ (Eq.trans ap_sq (Eq.trans ap_sq (ap_cons _ (Eq.trans (ap_bl 4) (Eq.trans (ap_j (Eq.trans (ap_lp (C := (f34_C_l4 k)) (fun _ _ => rfl)) (ap_cons _ (ap_cons _ (Eq.trans ap_sq (Eq.trans ap_sq (ap_cons _ (Eq.trans (ap_bl 8) (Eq.trans (ap_j (Eq.trans (ap_lp (C := (f34_C_l8 k)) (fun _ _ => rfl)) (ap_cons _ (ap_cons _ (ap_cons _ rfl))))) (ap_cons _ (ap_cons _ rfl))))))))))) (ap_cons _ (Eq.trans ap_sq (Eq.trans ap_sq (ap_cons _ (Eq.trans (ap_bl 8) (Eq.trans (ap_j (Eq.trans (ap_lp (C := (f34_C_l8 k)) (fun _ _ => rfl)) (ap_cons _ (ap_cons _ (ap_cons _ rfl))))) (ap_cons _ (ap_cons _ rfl))))))))))))))))))))) (ap_cons _ (Eq.trans ap_sq (ap_cons _ (Eq.trans ap_sq (ap_cons _ (Eq.trans ap_sq (Eq.trans ap_sq (ap_cons _ (Eq.trans (ap_bl 4) (Eq.trans (ap_j (Eq.trans (ap_lp (C := (f34_C_l4 k)) (fun _ _ => rfl)) (ap_cons _ (ap_cons _ (Eq.trans ap_sq (Eq.trans ap_sq (ap_cons _ (Eq.trans (ap_bl 8) (Eq.trans (ap_j (Eq.trans (ap_lp (C := (f34_C_l8 k)) (fun _ _ => rfl)) (ap_cons _ (ap_cons _ (ap_cons _ rfl))))) (ap_cons _ (ap_cons _ rfl))))))))))) (ap_cons _ (Eq.trans ap_sq (Eq.trans ap_sq (ap_cons _ (Eq.trans (ap_bl 8) (Eq.trans (ap_j (Eq.trans (ap_lp (C := (f34_C_l8 k)) (fun _ _ => rfl)) (ap_cons _ (ap_cons _ (ap_cons _ rfl))))) (ap_cons _ (ap_cons _ rfl))))))))))))))))))))))))))))
noncomputable def f34_F_l0 (k : Nat) (G_l0 G_r6 G_l2 G_l4 G_l8 : f34_S) : f34_L := .c (f34_p 232) 0 :: .c (f34_p 466) 0 :: .j (fun σ => f34_a k (.c (f34_p 3736) 1 :: .c (f34_p 7474) 1 :: .j G_r6 :: f34_F_r6 k G_l0 G_l2 G_l4 G_l8) .nx σ) :: .c (f34_p 935) 0 :: .j (fun σ => G_l0 (cut f34_A.loops 0 σ)) :: .blk 0 :: .c (f34_p 60) 0 :: .j (fun σ => f34_a k (.j (fun σ => G_l2 (cut f34_A.loops 2 σ)) :: .blk 2 :: .c (f34_p 62) 0 :: .c (f34_p 126) 0 :: .c (f34_p 508) 0 :: .j (fun σ => f34_a k (.j (fun σ => G_l4 (cut f34_A.loops 4 σ)) :: .blk 4 :: .c (f34_p 1020) 0 :: .j (fun σ => f34_a k (.j (fun σ => G_l8 (cut f34_A.loops 8 σ)) :: .blk 8 :: .c (f34_p 511) 0 :: []) .nx σ) :: .c (f34_p 511) 0 :: []) .nx σ) :: .c (f34_p 1020) 0 :: .j (fun σ => f34_a k (.j (fun σ => G_l8 (cut f34_A.loops 8 σ)) :: .blk 8 :: .c (f34_p 511) 0 :: []) .nx σ) :: .c (f34_p 511) 0 :: []) .nx σ) :: .c (f34_p 62) 0 :: .c (f34_p 126) 0 :: .c (f34_p 508) 0 :: .j (fun σ => f34_a k (.j (fun σ => G_l4 (cut f34_A.loops 4 σ)) :: .blk 4 :: .c (f34_p 1020) 0 :: .j (fun σ => f34_a k (.j (fun σ => G_l8 (cut f34_A.loops 8 σ)) :: .blk 8 :: .c (f34_p 511) 0 :: []) .nx σ) :: .c (f34_p 511) 0 :: []) .nx σ) :: .c (f34_p 1020) 0 :: .j (fun σ => f34_a k (.j (fun σ => G_l8 (cut f34_A.loops 8 σ)) :: .blk 8 :: .c (f34_p 511) 0 :: []) .nx σ) :: .c (f34_p 511) 0 :: []
theorem f34_f_l0 (k : Nat) (R_l0 : f34_S) : f34_a k (f34_Q_l0 k R_l0) = f34_a k (f34_F_l0 k R_l0 (f34_C_r6 k R_l0) (f34_C_l2 k k) (f34_C_l4 k k) (f34_C_l8 k k)) := (Eq.trans ap_sq (ap_cons _ (Eq.trans ap_sq (ap_cons _ (Eq.trans ap_sq (Eq.trans (ap_bl 1) (Eq.trans (ap_j (Eq.trans ap_sq (ap_cons _ (Eq.trans ap_sq (ap_cons _ (Eq.trans (ap_pass (C := (f34_C_r6 k R_l0)) (fun _ => rfl)) (ap_cons _ (f34_f_r6 k R_l0)))))))) (ap_cons _ (ap_cons _ (ap_cons _ (ap_cons _ (Eq.trans ap_sq (Eq.trans ap_sq (ap_cons _ (Eq.trans (ap_bl 2) (Eq.trans (ap_j (Eq.trans (ap_lp (C := (f34_C_l2 k)) (fun _ _ => rfl)) (ap_cons _ (ap_cons _ (Eq.trans ap_sq (ap_cons _ (Eq.trans ap_sq (ap_cons _ (Eq.trans ap_sq (Eq.trans ap_sq (ap_cons _ (Eq.trans (ap_bl 4) (Eq.trans (ap_j (Eq.trans (ap_lp (C := (f34_C_l4 k)) (fun _ _ => rfl)) (ap_cons _ (ap_cons _ (Eq.trans ap_sq (Eq.trans ap_sq (ap_cons _ (Eq.trans (ap_bl 8) (Eq.trans (ap_j (Eq.trans (ap_lp (C := (f34_C_l8 k)) (fun _ _ => rfl)) (ap_cons _ (ap_cons _ (ap_cons _ rfl))))) (ap_cons _ (ap_cons _ rfl))))))))))) (ap_cons _ (Eq.trans ap_sq (Eq.trans ap_sq (ap_cons _ (Eq.trans (ap_bl 8) (Eq.trans (ap_j (Eq.trans (ap_lp (C := (f34_C_l8 k)) (fun _ _ => rfl)) (ap_cons _ (ap_cons _ (ap_cons _ rfl))))) (ap_cons _ (ap_cons _ rfl))))))))))))))))))))) (ap_cons _ (Eq.trans ap_sq (ap_cons _ (Eq.trans ap_sq (ap_cons _ (Eq.trans ap_sq (Eq.trans ap_sq (ap_cons _ (Eq.trans (ap_bl 4) (Eq.trans (ap_j (Eq.trans (ap_lp (C := (f34_C_l4 k)) (fun _ _ => rfl)) (ap_cons _ (ap_cons _ (Eq.trans ap_sq (Eq.trans ap_sq (ap_cons _ (Eq.trans (ap_bl 8) (Eq.trans (ap_j (Eq.trans (ap_lp (C := (f34_C_l8 k)) (fun _ _ => rfl)) (ap_cons _ (ap_cons _ (ap_cons _ rfl))))) (ap_cons _ (ap_cons _ rfl))))))))))) (ap_cons _ (Eq.trans ap_sq (Eq.trans ap_sq (ap_cons _ (Eq.trans (ap_bl 8) (Eq.trans (ap_j (Eq.trans (ap_lp (C := (f34_C_l8 k)) (fun _ _ => rfl)) (ap_cons _ (ap_cons _ (ap_cons _ rfl))))) (ap_cons _ (ap_cons _ rfl))))))))))))))))))))))))))))))))))
noncomputable def f34_F_r12 (k : Nat) (G_l2 G_l4 G_l8 : f34_S) : f34_L := .c (f34_p 15667) 3 :: .blk 3 :: .c (f34_p 1959) 2 :: .j (fun σ => G_l2 (cut f34_A.loops 2 σ)) :: .blk 2 :: .c (f34_p 62) 0 :: .c (f34_p 126) 0 :: .c (f34_p 508) 0 :: .j (fun σ => f34_a k (.j (fun σ => G_l4 (cut f34_A.loops 4 σ)) :: .blk 4 :: .c (f34_p 1020) 0 :: .j (fun σ => f34_a k (.j (fun σ => G_l8 (cut f34_A.loops 8 σ)) :: .blk 8 :: .c (f34_p 511) 0 :: []) .nx σ) :: .c (f34_p 511) 0 :: []) .nx σ) :: .c (f34_p 1020) 0 :: .j (fun σ => f34_a k (.j (fun σ => G_l8 (cut f34_A.loops 8 σ)) :: .blk 8 :: .c (f34_p 511) 0 :: []) .nx σ) :: .c (f34_p 511) 0 :: []
theorem f34_f_r12 (k : Nat) (R_l2 : f34_S) : f34_a k (f34_Q_r12 k R_l2) = f34_a k (f34_F_r12 k R_l2 (f34_C_l4 k k) (f34_C_l8 k k)) := (ap_cons _ (ap_cons _ (ap_cons _ (ap_cons _ (ap_cons _ (Eq.trans ap_sq (ap_cons _ (Eq.trans ap_sq (ap_cons _ (Eq.trans ap_sq (Eq.trans ap_sq (ap_cons _ (Eq.trans (ap_bl 4) (Eq.trans (ap_j (Eq.trans (ap_lp (C := (f34_C_l4 k)) (fun _ _ => rfl)) (ap_cons _ (ap_cons _ (Eq.trans ap_sq (Eq.trans ap_sq (ap_cons _ (Eq.trans (ap_bl 8) (Eq.trans (ap_j (Eq.trans (ap_lp (C := (f34_C_l8 k)) (fun _ _ => rfl)) (ap_cons _ (ap_cons _ (ap_cons _ rfl))))) (ap_cons _ (ap_cons _ rfl))))))))))) (ap_cons _ (Eq.trans ap_sq (Eq.trans ap_sq (ap_cons _ (Eq.trans (ap_bl 8) (Eq.trans (ap_j (Eq.trans (ap_lp (C := (f34_C_l8 k)) (fun _ _ => rfl)) (ap_cons _ (ap_cons _ (ap_cons _ rfl))))) (ap_cons _ (ap_cons _ rfl))))))))))))))))))))))
noncomputable def f34_F_l2 (k : Nat) (G_l2 G_r12 G_l4 G_l8 : f34_S) : f34_L := .c (f34_p 488) 2 :: .c (f34_p 978) 2 :: .j (fun σ => f34_a k (.c (f34_p 7832) 3 :: .c (f34_p 15666) 3 :: .j G_r12 :: f34_F_r12 k G_l2 G_l4 G_l8) .nx σ) :: .c (f34_p 1959) 2 :: .j (fun σ => G_l2 (cut f34_A.loops 2 σ)) :: .blk 2 :: .c (f34_p 62) 0 :: .c (f34_p 126) 0 :: .c (f34_p 508) 0 :: .j (fun σ => f34_a k (.j (fun σ => G_l4 (cut f34_A.loops 4 σ)) :: .blk 4 :: .c (f34_p 1020) 0 :: .j (fun σ => f34_a k (.j (fun σ => G_l8 (cut f34_A.loops 8 σ)) :: .blk 8 :: .c (f34_p 511) 0 :: []) .nx σ) :: .c (f34_p 511) 0 :: []) .nx σ) :: .c (f34_p 1020) 0 :: .j (fun σ => f34_a k (.j (fun σ => G_l8 (cut f34_A.loops 8 σ)) :: .blk 8 :: .c (f34_p 511) 0 :: []) .nx σ) :: .c (f34_p 511) 0 :: []
theorem f34_f_l2 (k : Nat) (R_l2 : f34_S) : f34_a k (f34_Q_l2 k R_l2) = f34_a k (f34_F_l2 k R_l2 (f34_C_r12 k R_l2) (f34_C_l4 k k) (f34_C_l8 k k)) := (Eq.trans ap_sq (ap_cons _ (Eq.trans ap_sq (ap_cons _ (Eq.trans ap_sq (Eq.trans (ap_bl 3) (Eq.trans (ap_j (Eq.trans ap_sq (ap_cons _ (Eq.trans ap_sq (ap_cons _ (Eq.trans (ap_pass (C := (f34_C_r12 k R_l2)) (fun _ => rfl)) (ap_cons _ (f34_f_r12 k R_l2)))))))) (ap_cons _ (ap_cons _ (ap_cons _ (ap_cons _ (Eq.trans ap_sq (ap_cons _ (Eq.trans ap_sq (ap_cons _ (Eq.trans ap_sq (Eq.trans ap_sq (ap_cons _ (Eq.trans (ap_bl 4) (Eq.trans (ap_j (Eq.trans (ap_lp (C := (f34_C_l4 k)) (fun _ _ => rfl)) (ap_cons _ (ap_cons _ (Eq.trans ap_sq (Eq.trans ap_sq (ap_cons _ (Eq.trans (ap_bl 8) (Eq.trans (ap_j (Eq.trans (ap_lp (C := (f34_C_l8 k)) (fun _ _ => rfl)) (ap_cons _ (ap_cons _ (ap_cons _ rfl))))) (ap_cons _ (ap_cons _ rfl))))))))))) (ap_cons _ (Eq.trans ap_sq (Eq.trans ap_sq (ap_cons _ (Eq.trans (ap_bl 8) (Eq.trans (ap_j (Eq.trans (ap_lp (C := (f34_C_l8 k)) (fun _ _ => rfl)) (ap_cons _ (ap_cons _ (ap_cons _ rfl))))) (ap_cons _ (ap_cons _ rfl))))))))))))))))))))))))))))
noncomputable def f34_F_l4 (k : Nat) (G_l4 G_l6 G_l8 : f34_S) : f34_L := .c (f34_p 4072) 4 :: .j (fun σ => f34_a k (.c (f34_p 16292) 5 :: .c (f34_p 32586) 5 :: .j (fun σ => f34_a k (.j (fun σ => G_l6 (cut f34_A.loops 6 σ)) :: .blk 6 :: .blk 5 :: .j (fun σ => G_l4 (cut f34_A.loops 4 σ)) :: .blk 4 :: .c (f34_p 1020) 0 :: .j (fun σ => f34_a k (.j (fun σ => G_l8 (cut f34_A.loops 8 σ)) :: .blk 8 :: .c (f34_p 511) 0 :: []) .nx σ) :: .c (f34_p 511) 0 :: []) .nx σ) :: .blk 5 :: .j (fun σ => G_l4 (cut f34_A.loops 4 σ)) :: .blk 4 :: .c (f34_p 1020) 0 :: .j (fun σ => f34_a k (.j (fun σ => G_l8 (cut f34_A.loops 8 σ)) :: .blk 8 :: .c (f34_p 511) 0 :: []) .nx σ) :: .c (f34_p 511) 0 :: []) .nx σ) :: .j (fun σ => G_l4 (cut f34_A.loops 4 σ)) :: .blk 4 :: .c (f34_p 1020) 0 :: .j (fun σ => f34_a k (.j (fun σ => G_l8 (cut f34_A.loops 8 σ)) :: .blk 8 :: .c (f34_p 511) 0 :: []) .nx σ) :: .c (f34_p 511) 0 :: []
theorem f34_f_l4 (k : Nat) (R_l4 : f34_S) : f34_a k (f34_Q_l4 k R_l4) = f34_a k (f34_F_l4 k R_l4 (f34_C_l6 k R_l4 k) (f34_C_l8 k k)) := (Eq.trans ap_sq (ap_cons _ (Eq.trans (ap_bl 5) (Eq.trans (ap_j (Eq.trans ap_sq (ap_cons _ (Eq.trans ap_sq (ap_cons _ (Eq.trans (ap_bl 6) (Eq.trans (ap_j (Eq.trans (ap_lp (C := (f34_C_l6 k R_l4)) (fun _ _ => rfl)) (ap_cons _ (ap_cons _ (ap_cons _ (ap_cons _ (ap_cons _ (Eq.trans ap_sq (Eq.trans ap_sq (ap_cons _ (Eq.trans (ap_bl 8) (Eq.trans (ap_j (Eq.trans (ap_lp (C := (f34_C_l8 k)) (fun _ _ => rfl)) (ap_cons _ (ap_cons _ (ap_cons _ rfl))))) (ap_cons _ (ap_cons _ rfl)))))))))))))) (ap_cons _ (ap_cons _ (ap_cons _ (ap_cons _ (Eq.trans ap_sq (Eq.trans ap_sq (ap_cons _ (Eq.trans (ap_bl 8) (Eq.trans (ap_j (Eq.trans (ap_lp (C := (f34_C_l8 k)) (fun _ _ => rfl)) (ap_cons _ (ap_cons _ (ap_cons _ rfl))))) (ap_cons _ (ap_cons _ rfl)))))))))))))))))) (ap_cons _ (ap_cons _ (ap_cons _ (Eq.trans ap_sq (Eq.trans ap_sq (ap_cons _ (Eq.trans (ap_bl 8) (Eq.trans (ap_j (Eq.trans (ap_lp (C := (f34_C_l8 k)) (fun _ _ => rfl)) (ap_cons _ (ap_cons _ (ap_cons _ rfl))))) (ap_cons _ (ap_cons _ rfl))))))))))))))
noncomputable def f34_F_c24 (k : Nat) (G_l4 G_l6 G_l8 : f34_S) : f34_L := .blk 7 :: .c (f34_p 1042791) 6 :: .j (fun σ => G_l6 (cut f34_A.loops 6 σ)) :: .blk 6 :: .blk 5 :: .j (fun σ => G_l4 (cut f34_A.loops 4 σ)) :: .blk 4 :: .c (f34_p 1020) 0 :: .j (fun σ => f34_a k (.j (fun σ => G_l8 (cut f34_A.loops 8 σ)) :: .blk 8 :: .c (f34_p 511) 0 :: []) .nx σ) :: .c (f34_p 511) 0 :: []
theorem f34_f_c24 (k : Nat) (R_l6 R_l4 : f34_S) : f34_a k (f34_Q_c24 k R_l6 R_l4) = f34_a k (f34_F_c24 k R_l4 R_l6 (f34_C_l8 k k)) := (ap_cons _ (ap_cons _ (ap_cons _ (ap_cons _ (ap_cons _ (ap_cons _ (ap_cons _ (Eq.trans ap_sq (Eq.trans ap_sq (ap_cons _ (Eq.trans (ap_bl 8) (Eq.trans (ap_j (Eq.trans (ap_lp (C := (f34_C_l8 k)) (fun _ _ => rfl)) (ap_cons _ (ap_cons _ (ap_cons _ rfl))))) (ap_cons _ (ap_cons _ rfl))))))))))))))
noncomputable def f34_F_r23 (k : Nat) (G_l4 G_l6 G_l8 G_c24 : f34_S) : f34_L := .c (f34_p 8342323) 7 :: .j G_c24 :: f34_F_c24 k G_l4 G_l6 G_l8
theorem f34_f_r23 (k : Nat) (R_l6 R_l4 : f34_S) : f34_a k (f34_Q_r23 k R_l6 R_l4) = f34_a k (f34_F_r23 k R_l4 R_l6 (f34_C_l8 k k) (f34_C_c24 k R_l6 R_l4)) := (ap_cons _ (Eq.trans (ap_pass (C := (f34_C_c24 k R_l6 R_l4)) (fun _ => rfl)) (ap_cons _ (f34_f_c24 k R_l6 R_l4))))
noncomputable def f34_F_l6 (k : Nat) (G_l4 G_l6 G_r23 G_l8 G_c24 : f34_S) : f34_L := .c (f34_p 260696) 6 :: .c (f34_p 521394) 6 :: .j (fun σ => f34_a k (.c (f34_p 4171160) 7 :: .c (f34_p 8342322) 7 :: .j G_r23 :: f34_F_r23 k G_l4 G_l6 G_l8 G_c24) .nx σ) :: .c (f34_p 1042791) 6 :: .j (fun σ => G_l6 (cut f34_A.loops 6 σ)) :: .blk 6 :: .blk 5 :: .j (fun σ => G_l4 (cut f34_A.loops 4 σ)) :: .blk 4 :: .c (f34_p 1020) 0 :: .j (fun σ => f34_a k (.j (fun σ => G_l8 (cut f34_A.loops 8 σ)) :: .blk 8 :: .c (f34_p 511) 0 :: []) .nx σ) :: .c (f34_p 511) 0 :: []
theorem f34_f_l6 (k : Nat) (R_l4 R_l6 : f34_S) : f34_a k (f34_Q_l6 k R_l4 R_l6) = f34_a k (f34_F_l6 k R_l4 R_l6 (f34_C_r23 k R_l6 R_l4) (f34_C_l8 k k) (f34_C_c24 k R_l6 R_l4)) := (Eq.trans ap_sq (ap_cons _ (Eq.trans ap_sq (ap_cons _ (Eq.trans ap_sq (Eq.trans (ap_bl 7) (Eq.trans (ap_j (Eq.trans ap_sq (ap_cons _ (Eq.trans ap_sq (ap_cons _ (Eq.trans (ap_pass (C := (f34_C_r23 k R_l6 R_l4)) (fun _ => rfl)) (ap_cons _ (f34_f_r23 k R_l6 R_l4)))))))) (ap_cons _ (ap_cons _ (ap_cons _ (ap_cons _ (ap_cons _ (ap_cons _ (ap_cons _ (Eq.trans ap_sq (Eq.trans ap_sq (ap_cons _ (Eq.trans (ap_bl 8) (Eq.trans (ap_j (Eq.trans (ap_lp (C := (f34_C_l8 k)) (fun _ _ => rfl)) (ap_cons _ (ap_cons _ (ap_cons _ rfl))))) (ap_cons _ (ap_cons _ rfl)))))))))))))))))))))
noncomputable def f34_F_l8 (k : Nat) (G_l8 : f34_S) : f34_L := .c (f34_p 4084) 8 :: .j (fun σ => G_l8 (cut f34_A.loops 8 σ)) :: .blk 8 :: .c (f34_p 511) 0 :: []
theorem f34_f_l8 (k : Nat) (R_l8 : f34_S) : f34_a k (f34_Q_l8 k R_l8) = f34_a k (f34_F_l8 k R_l8) := (ap_cons _ (ap_cons _ (ap_cons _ (ap_cons _ rfl))))
def f34_entry_B (k : Nat) (g_r1 : f34_t_r1) (a0 : Td12) (a1 : Int) (a2 : (List Int)) : Option (Bool × Unit) := ((f57 k (a0.1, (a0.2.1, a0.2.2)) ([a1])).bind fun r1 => (if ¬ (r1.1 = 0) then (g_r1 a0.1 a0.2.1 a0.2.2 a1 a2 true) else (if 0 < (a0.2.2.length : Int) then (g_r1 a0.1 a0.2.1 a0.2.2 a1 a2 true) else (if ¬ ((a2.length : Int) = (a0.1.length : Int)) then (g_r1 a0.1 a0.2.1 a0.2.2 a1 a2 true) else (if 0 ≤ a1 then (if a1 < (a2.length : Int) then (g_r1 a0.1 a0.2.1 a0.2.2 a1 a2 (decide (¬ ((a2.getD (a1).toNat 0) = 0)))) else none) else none)))))
def f34_r1_B (k : Nat) (g_l0 : f34_t_l0) (y3_0 : (List (Int × Int))) (y3_1 : (List (Int × (Int × (Int × Int))))) (y3_2 : (List (Int × Int))) (x1 : Int) (x2 : (List Int)) (x42 : Bool) : Option (Bool × Unit) := (if x42 = true then some (false, ()) else (g_l0 y3_0 y3_1 y3_2 x1 x2 (x2.length : Int) 0))
def f34_l0_B (k : Nat) (g_r6 : f34_t_r6) (g_l2 : f34_t_l2) (y3_0 : (List (Int × Int))) (y3_1 : (List (Int × (Int × (Int × Int))))) (y3_2 : (List (Int × Int))) (x1 : Int) (x2 : (List Int)) (x44 : Int) (x45 : Int) : Option (Bool × Unit) := (if x45 < x44 then (if 0 ≤ x45 then (if x45 < (x2.length : Int) then (if (x2.getD (x45).toNat 0) < (-1) then (g_r6 y3_0 y3_1 y3_2 x1 x2 x44 x45 true) else (g_r6 y3_0 y3_1 y3_2 x1 x2 x44 x45 (decide (659706976665600 < (x2.getD (x45).toNat 0))))) else none) else none) else (g_l2 y3_0 y3_1 y3_2 x1 x2 (y3_1.length : Int) 0))
def f34_r6_B (k : Nat) (g_l0 : f34_t_l0) (y3_0 : (List (Int × Int))) (y3_1 : (List (Int × (Int × (Int × Int))))) (y3_2 : (List (Int × Int))) (x1 : Int) (x2 : (List Int)) (x44 : Int) (x45 : Int) (x54 : Bool) : Option (Bool × Unit) := (if x54 = true then some (false, ()) else (g_l0 y3_0 y3_1 y3_2 x1 x2 x44 (w64 (x45 + 1))))
def f34_l2_B (k : Nat) (g_r12 : f34_t_r12) (g_l4 : f34_t_l4) (y3_0 : (List (Int × Int))) (y3_1 : (List (Int × (Int × (Int × Int))))) (y3_2 : (List (Int × Int))) (x1 : Int) (x2 : (List Int)) (x58 : Int) (x59 : Int) : Option (Bool × Unit) := (if x59 < x58 then (if 0 ≤ x59 then (if x59 < (y3_1.length : Int) then (if 0 ≤ ((y3_1.getD (x59).toNat (0, (0, (0, 0)))).1) then (if ((y3_1.getD (x59).toNat (0, (0, (0, 0)))).1) < (x2.length : Int) then (if 0 ≤ (x2.getD ((y3_1.getD (x59).toNat (0, (0, (0, 0)))).1).toNat 0) then (if 0 ≤ (((y3_1.getD (x59).toNat (0, (0, (0, 0)))).2).1) then (if (((y3_1.getD (x59).toNat (0, (0, (0, 0)))).2).1) < (x2.length : Int) then (if (x2.getD (((y3_1.getD (x59).toNat (0, (0, (0, 0)))).2).1).toNat 0) < 0 then (g_r12 y3_0 y3_1 y3_2 x1 x2 x58 x59 true) else (if 0 ≤ (((y3_1.getD (x59).toNat (0, (0, (0, 0)))).2).1) then (if (((y3_1.getD (x59).toNat (0, (0, (0, 0)))).2).1) < (x2.length : Int) then (if 0 ≤ ((y3_1.getD (x59).toNat (0, (0, (0, 0)))).1) then (if ((y3_1.getD (x59).toNat (0, (0, (0, 0)))).1) < (x2.length : Int) then (g_r12 y3_0 y3_1 y3_2 x1 x2 x58 x59 (decide ((w64 ((x2.getD ((y3_1.getD (x59).toNat (0, (0, (0, 0)))).1).toNat 0) + ((((y3_1.getD (x59).toNat (0, (0, (0, 0)))).2).2).1))) < (x2.getD (((y3_1.getD (x59).toNat (0, (0, (0, 0)))).2).1).toNat 0)))) else none) else none) else none) else none)) else none) else none) else (g_r12 y3_0 y3_1 y3_2 x1 x2 x58 x59 false)) else none) else none) else none) else none) else (if 0 ≤ (x2.length : Int) then (if (x2.length : Int) ≤ 1073741824 then (if 0 ≤ x1 then (if x1 < ((List.replicate ((x2.length : Int)).toNat (false : Bool)).length : Int) then (g_l4 y3_0 y3_1 y3_2 ((List.replicate ((x2.length : Int)).toNat (false : Bool)).set ((x1).toNat) true) true x2) else none) else none) else none) else none))
def f34_r12_B (k : Nat) (g_l2 : f34_t_l2) (y3_0 : (List (Int × Int))) (y3_1 : (List (Int × (Int × (Int × Int))))) (y3_2 : (List (Int × Int))) (x1 : Int) (x2 : (List Int)) (x58 : Int) (x59 : Int) (x92 : Bool) : Option (Bool × Unit) := (if x92 = true then some (false, ()) else (g_l2 y3_0 y3_1 y3_2 x1 x2 x58 (w64 (x59 + 1))))
def f34_l4_B (k : Nat) (g_l6 : f34_t_l6) (g_l8 : f34_t_l8) (y3_0 : (List (Int × Int))) (y3_1 : (List (Int × (Int × (Int × Int))))) (y3_2 : (List (Int × Int))) (y96 : (List Bool)) (x12 : Bool) (x2 : (List Int)) : Option (Bool × Unit) := (if x12 = true then (g_l6 y3_0 y3_1 y3_2 y96 (y3_1.length : Int) 0 false x2) else (g_l8 y96 x2 (x2.length : Int) 0))
def f34_l6_B (k : Nat) (g_l4 : f34_t_l4) (g_r23 : f34_t_r23) (y3_0 : (List (Int × Int))) (y3_1 : (List (Int × (Int × (Int × Int))))) (y3_2 : (List (Int × Int))) (y96 : (List Bool)) (x103 : Int) (x104 : Int) (x12 : Bool) (x2 : (List Int)) : Option (Bool × Unit) := (if x104 < x103 then (if 0 ≤ x104 then (if x104 < (y3_1.length : Int) then (if 0 ≤ ((y3_1.getD (x104).toNat (0, (0, (0, 0)))).1) then (if ((y3_1.getD (x104).toNat (0, (0, (0, 0)))).1) < (y96.length : Int) then (if (y96.getD (((y3_1.getD (x104).toNat (0, (0, (0, 0)))).1).toNat) false) = true then (if 0 ≤ (((y3_1.getD (x104).toNat (0, (0, (0, 0)))).2).1) then (if (((y3_1.getD (x104).toNat (0, (0, (0, 0)))).2).1) < (y96.length : Int) then (if ¬ ((y96.getD ((((y3_1.getD (x104).toNat (0, (0, (0, 0)))).2).1).toNat) false) = true) then (if 0 ≤ (((y3_1.getD (x104).toNat (0, (0, (0, 0)))).2).1) then (if (((y3_1.getD (x104).toNat (0, (0, (0, 0)))).2).1) < (x2.length : Int) then (if 0 ≤ ((y3_1.getD (x104).toNat (0, (0, (0, 0)))).1) then (if ((y3_1.getD (x104).toNat (0, (0, (0, 0)))).1) < (x2.length : Int) then (g_r23 ((y3_1.getD (x104).toNat (0, (0, (0, 0)))).1) (((y3_1.getD (x104).toNat (0, (0, (0, 0)))).2).1) ((((y3_1.getD (x104).toNat (0, (0, (0, 0)))).2).2).1) ((((y3_1.getD (x104).toNat (0, (0, (0, 0)))).2).2).2) y3_0 y3_1 y3_2 y96 x103 x104 (decide (x12 = true)) (decide ((x2.getD (((y3_1.getD (x104).toNat (0, (0, (0, 0)))).2).1).toNat 0) = (w64 ((x2.getD ((y3_1.getD (x104).toNat (0, (0, (0, 0)))).1).toNat 0) + ((((y3_1.getD (x104).toNat (0, (0, (0, 0)))).2).2).1))))) x2) else none) else none) else none) else none) else (g_r23 ((y3_1.getD (x104).toNat (0, (0, (0, 0)))).1) (((y3_1.getD (x104).toNat (0, (0, (0, 0)))).2).1) ((((y3_1.getD (x104).toNat (0, (0, (0, 0)))).2).2).1) ((((y3_1.getD (x104).toNat (0, (0, (0, 0)))).2).2).2) y3_0 y3_1 y3_2 y96 x103 x104 (decide (x12 = true)) false x2)) else none) else none) else (g_r23 ((y3_1.getD (x104).toNat (0, (0, (0, 0)))).1) (((y3_1.getD (x104).toNat (0, (0, (0, 0)))).2).1) ((((y3_1.getD (x104).toNat (0, (0, (0, 0)))).2).2).1) ((((y3_1.getD (x104).toNat (0, (0, (0, 0)))).2).2).2) y3_0 y3_1 y3_2 y96 x103 x104 (decide (x12 = true)) false x2)) else none) else none) else none) else none) else (g_l4 y3_0 y3_1 y3_2 y96 (decide (x12 = true)) x2))
def f34_r23_B (k : Nat) (g_c24 : f34_t_c24) (y14_0 : Int) (y14_1 : Int) (y14_2 : Int) (y14_3 : Int) (y3_0 : (List (Int × Int))) (y3_1 : (List (Int × (Int × (Int × Int))))) (y3_2 : (List (Int × Int))) (y96 : (List Bool)) (x103 : Int) (x104 : Int) (x12 : Bool) (x136 : Bool) (x2 : (List Int)) : Option (Bool × Unit) := (if x136 = true then (if 0 ≤ y14_1 then (if y14_1 < (y96.length : Int) then (g_c24 y3_0 y3_1 y3_2 (y96.set ((y14_1).toNat) true) x103 x104 true x2) else none) else none) else (g_c24 y3_0 y3_1 y3_2 y96 x103 x104 (decide (x12 = true)) x2))
def f34_l8_B (k : Nat) (g_l8 : f34_t_l8) (y96 : (List Bool)) (x142 : (List Int)) (x143 : Int) (x144 : Int) : Option (Bool × Unit) := (if x144 < x143 then (if 0 ≤ x144 then (if x144 < (x142.length : Int) then (if 0 ≤ x144 then (if x144 < (y96.length : Int) then (if ¬ (decide ((y96.getD ((x144).toNat) false) = true) = decide (0 ≤ (x142.getD (x144).toNat 0))) then some (false, ()) else (g_l8 y96 x142 x143 (w64 (x144 + 1)))) else none) else none) else none) else none) else some (true, ()))
def f34_c24_B (k : Nat) (g_l6 : f34_t_l6) (y3_0 : (List (Int × Int))) (y3_1 : (List (Int × (Int × (Int × Int))))) (y3_2 : (List (Int × Int))) (y96 : (List Bool)) (x103 : Int) (x104 : Int) (x12 : Bool) (x2 : (List Int)) : Option (Bool × Unit) := (g_l6 y3_0 y3_1 y3_2 y96 x103 (w64 (x104 + 1)) (decide (x12 = true)) x2)
theorem f34_r6_P (k : Nat) (G_l0 G_l2 G_l4 G_l8 : f34_S) : f34_o_r6 (fun σ => f34_a k (f34_F_r6 k G_l0 G_l2 G_l4 G_l8) .nx σ) = f34_r6_B k (f34_o_l0 G_l0) := by kernel_rfl
def f34_r6 (k : Nat) (r_l0 : f34_t_l0) : f34_t_r6 := f34_r6_B k r_l0
theorem f34_r6_E (k : Nat) (R_l0 : f34_S) : f34_o_r6 (f34_C_r6 k R_l0) = f34_r6 k (f34_o_l0 R_l0) :=
  Eq.trans (congrArg f34_o_r6 (ap_fn (f34_f_r6 k R_l0))) ((f34_r6_P k R_l0 (f34_C_l2 k k) (f34_C_l4 k k) (f34_C_l8 k k)).trans (by rfl))
theorem f34_r12_P (k : Nat) (G_l2 G_l4 G_l8 : f34_S) : f34_o_r12 (fun σ => f34_a k (f34_F_r12 k G_l2 G_l4 G_l8) .nx σ) = f34_r12_B k (f34_o_l2 G_l2) := by kernel_rfl
def f34_r12 (k : Nat) (r_l2 : f34_t_l2) : f34_t_r12 := f34_r12_B k r_l2
theorem f34_r12_E (k : Nat) (R_l2 : f34_S) : f34_o_r12 (f34_C_r12 k R_l2) = f34_r12 k (f34_o_l2 R_l2) :=
  Eq.trans (congrArg f34_o_r12 (ap_fn (f34_f_r12 k R_l2))) ((f34_r12_P k R_l2 (f34_C_l4 k k) (f34_C_l8 k k)).trans (by rfl))
theorem f34_c24_P (k : Nat) (G_l4 G_l6 G_l8 : f34_S) : f34_o_c24 (fun σ => f34_a k (f34_F_c24 k G_l4 G_l6 G_l8) .nx σ) = f34_c24_B k (f34_o_l6 G_l6) := by kernel_rfl
def f34_c24 (k : Nat) (r_l6 : f34_t_l6) (r_l4 : f34_t_l4) : f34_t_c24 := f34_c24_B k r_l6
theorem f34_c24_E (k : Nat) (R_l6 R_l4 : f34_S) : f34_o_c24 (f34_C_c24 k R_l6 R_l4) = f34_c24 k (f34_o_l6 R_l6) (f34_o_l4 R_l4) :=
  Eq.trans (congrArg f34_o_c24 (ap_fn (f34_f_c24 k R_l6 R_l4))) ((f34_c24_P k R_l4 R_l6 (f34_C_l8 k k)).trans (by rfl))
theorem f34_r23_P (k : Nat) (G_l4 G_l6 G_l8 G_c24 : f34_S) : f34_o_r23 (fun σ => f34_a k (f34_F_r23 k G_l4 G_l6 G_l8 G_c24) .nx σ) = f34_r23_B k (f34_o_c24 G_c24) := by kernel_rfl
def f34_r23 (k : Nat) (r_l6 : f34_t_l6) (r_l4 : f34_t_l4) : f34_t_r23 := f34_r23_B k (f34_c24 k r_l6 r_l4)
theorem f34_r23_E (k : Nat) (R_l6 R_l4 : f34_S) : f34_o_r23 (f34_C_r23 k R_l6 R_l4) = f34_r23 k (f34_o_l6 R_l6) (f34_o_l4 R_l4) :=
  Eq.trans (congrArg f34_o_r23 (ap_fn (f34_f_r23 k R_l6 R_l4))) ((f34_r23_P k R_l4 R_l6 (f34_C_l8 k k) (f34_C_c24 k R_l6 R_l4)).trans (by rw [f34_c24_E k R_l6 R_l4] <;> rfl))
theorem f34_l6_P (k : Nat) (G_l4 G_l6 G_r23 G_l8 G_c24 : f34_S) : f34_o_l6 (fun σ => f34_a k (f34_F_l6 k G_l4 G_l6 G_r23 G_l8 G_c24) .nx σ) = f34_l6_B k (f34_o_l4 G_l4) (f34_o_r23 G_r23) := by kernel_rfl
def f34_l6 (k : Nat) (r_l4 : f34_t_l4) : Nat → f34_t_l6
  | 0 => fun _ _ _ _ _ _ _ _ => none
  | n + 1 => f34_l6_B k r_l4 (f34_r23 k (f34_l6 k r_l4 n) r_l4)
theorem f34_l6_E (k : Nat) (R_l4 : f34_S) : ∀ n, f34_o_l6 (f34_C_l6 k R_l4 n) = f34_l6 k (f34_o_l4 R_l4) n
  | 0 => rfl
  | n + 1 =>
    Eq.trans (congrArg f34_o_l6 (Eq.trans (b := fun σ => f34_a k (f34_Q_l6 k R_l4 (f34_C_l6 k R_l4 n)) .nx σ) (by kernel_rfl) (ap_fn (f34_f_l6 k R_l4 (f34_C_l6 k R_l4 n))))) ((f34_l6_P k R_l4 (f34_C_l6 k R_l4 n) (f34_C_r23 k (f34_C_l6 k R_l4 n) R_l4) (f34_C_l8 k k) (f34_C_c24 k (f34_C_l6 k R_l4 n) R_l4)).trans (by rw [f34_r23_E k (f34_C_l6 k R_l4 n) R_l4, f34_l6_E k R_l4 n] <;> rfl))
theorem f34_l8_P (k : Nat) (G_l8 : f34_S) : f34_o_l8 (fun σ => f34_a k (f34_F_l8 k G_l8) .nx σ) = f34_l8_B k (f34_o_l8 G_l8) := by kernel_rfl
def f34_l8 (k : Nat) : Nat → f34_t_l8
  | 0 => fun _ _ _ _ => none
  | n + 1 => f34_l8_B k (f34_l8 k n)
theorem f34_l8_E (k : Nat) : ∀ n, f34_o_l8 (f34_C_l8 k n) = f34_l8 k n
  | 0 => rfl
  | n + 1 =>
    Eq.trans (congrArg f34_o_l8 (Eq.trans (b := fun σ => f34_a k (f34_Q_l8 k (f34_C_l8 k n)) .nx σ) (by kernel_rfl) (ap_fn (f34_f_l8 k (f34_C_l8 k n))))) ((f34_l8_P k (f34_C_l8 k n)).trans (by rw [f34_l8_E k n] <;> rfl))
theorem f34_l4_P (k : Nat) (G_l4 G_l6 G_l8 : f34_S) : f34_o_l4 (fun σ => f34_a k (f34_F_l4 k G_l4 G_l6 G_l8) .nx σ) = f34_l4_B k (f34_o_l6 G_l6) (f34_o_l8 G_l8) := by kernel_rfl
def f34_l4 (k : Nat) : Nat → f34_t_l4
  | 0 => fun _ _ _ _ _ _ => none
  | n + 1 => f34_l4_B k (f34_l6 k (f34_l4 k n) k) (f34_l8 k k)
theorem f34_l4_E (k : Nat) : ∀ n, f34_o_l4 (f34_C_l4 k n) = f34_l4 k n
  | 0 => rfl
  | n + 1 =>
    Eq.trans (congrArg f34_o_l4 (Eq.trans (b := fun σ => f34_a k (f34_Q_l4 k (f34_C_l4 k n)) .nx σ) (by kernel_rfl) (ap_fn (f34_f_l4 k (f34_C_l4 k n))))) ((f34_l4_P k (f34_C_l4 k n) (f34_C_l6 k (f34_C_l4 k n) k) (f34_C_l8 k k)).trans (by rw [f34_l6_E k (f34_C_l4 k n) k, f34_l8_E k k, f34_l4_E k n] <;> rfl))
theorem f34_l2_P (k : Nat) (G_l2 G_r12 G_l4 G_l8 : f34_S) : f34_o_l2 (fun σ => f34_a k (f34_F_l2 k G_l2 G_r12 G_l4 G_l8) .nx σ) = f34_l2_B k (f34_o_r12 G_r12) (f34_o_l4 G_l4) := by kernel_rfl
def f34_l2 (k : Nat) : Nat → f34_t_l2
  | 0 => fun _ _ _ _ _ _ _ => none
  | n + 1 => f34_l2_B k (f34_r12 k (f34_l2 k n)) (f34_l4 k k)
theorem f34_l2_E (k : Nat) : ∀ n, f34_o_l2 (f34_C_l2 k n) = f34_l2 k n
  | 0 => rfl
  | n + 1 =>
    Eq.trans (congrArg f34_o_l2 (Eq.trans (b := fun σ => f34_a k (f34_Q_l2 k (f34_C_l2 k n)) .nx σ) (by kernel_rfl) (ap_fn (f34_f_l2 k (f34_C_l2 k n))))) ((f34_l2_P k (f34_C_l2 k n) (f34_C_r12 k (f34_C_l2 k n)) (f34_C_l4 k k) (f34_C_l8 k k)).trans (by rw [f34_r12_E k (f34_C_l2 k n), f34_l4_E k k, f34_l2_E k n] <;> rfl))
theorem f34_l0_P (k : Nat) (G_l0 G_r6 G_l2 G_l4 G_l8 : f34_S) : f34_o_l0 (fun σ => f34_a k (f34_F_l0 k G_l0 G_r6 G_l2 G_l4 G_l8) .nx σ) = f34_l0_B k (f34_o_r6 G_r6) (f34_o_l2 G_l2) := by kernel_rfl
def f34_l0 (k : Nat) : Nat → f34_t_l0
  | 0 => fun _ _ _ _ _ _ _ => none
  | n + 1 => f34_l0_B k (f34_r6 k (f34_l0 k n)) (f34_l2 k k)
theorem f34_l0_E (k : Nat) : ∀ n, f34_o_l0 (f34_C_l0 k n) = f34_l0 k n
  | 0 => rfl
  | n + 1 =>
    Eq.trans (congrArg f34_o_l0 (Eq.trans (b := fun σ => f34_a k (f34_Q_l0 k (f34_C_l0 k n)) .nx σ) (by kernel_rfl) (ap_fn (f34_f_l0 k (f34_C_l0 k n))))) ((f34_l0_P k (f34_C_l0 k n) (f34_C_r6 k (f34_C_l0 k n)) (f34_C_l2 k k) (f34_C_l4 k k) (f34_C_l8 k k)).trans (by rw [f34_r6_E k (f34_C_l0 k n), f34_l2_E k k, f34_l0_E k n] <;> rfl))
theorem f34_r1_P (k : Nat) (G_l0 G_l2 G_l4 G_l8 : f34_S) : f34_o_r1 (fun σ => f34_a k (f34_F_r1 k G_l0 G_l2 G_l4 G_l8) .nx σ) = f34_r1_B k (f34_o_l0 G_l0) := by kernel_rfl
def f34_r1 (k : Nat) : f34_t_r1 := f34_r1_B k (f34_l0 k k)
theorem f34_r1_E (k : Nat) : f34_o_r1 (f34_C_r1 k) = f34_r1 k :=
  Eq.trans (congrArg f34_o_r1 (ap_fn (f34_f_r1 k))) ((f34_r1_P k (f34_C_l0 k k) (f34_C_l2 k k) (f34_C_l4 k k) (f34_C_l8 k k)).trans (by rw [f34_l0_E k k] <;> rfl))
theorem f34_entry_P (k : Nat) (G_r1 G_l0 G_l2 G_l4 G_l8 : f34_S) (xs : DL f34_sig) : f34_a k (.c (f34_p 2) 0 :: .c (f34_p 12) 0 :: .j G_r1 :: f34_F_r1 k G_l0 G_l2 G_l4 G_l8) .nx (σ0 157 480 f34_sig xs) = f34_entry_B k (f34_o_r1 G_r1) xs.1 xs.2.1 xs.2.2.1 := by kernel_rfl
def f34 (k : Nat) (a0 : Td12) (a1 : Int) (a2 : (List Int)) : Option (Bool × Unit) := f34_entry_B k (f34_r1 k) a0 a1 a2
theorem f34_fe (k : Nat) : f34_a k [.c (f34_p 1) 0] = f34_a k (.c (f34_p 2) 0 :: .c (f34_p 12) 0 :: .j (f34_C_r1 k) :: f34_F_r1 k (f34_C_l0 k k) (f34_C_l2 k k) (f34_C_l4 k k) (f34_C_l8 k k)) := (Eq.trans ap_sq (ap_cons _ (Eq.trans ap_sq (Eq.trans ap_sq (ap_cons _ (Eq.trans (ap_pass (C := (f34_C_r1 k)) (fun _ => rfl)) (ap_cons _ (f34_f_r1 k))))))))
theorem f34_eq (k : Nat) (xs : DL f34_sig) : den T f34_Y (f34_E k) f34_A k f34_c 0 (σ0 157 480 f34_sig xs) (Kfin T f34_rs f34_ts) = f34 k xs.1 xs.2.1 xs.2.2.1 :=
  Eq.trans (Eq.trans den_sb (ap_at (f34_fe k) _)) ((f34_entry_P k (f34_C_r1 k) (f34_C_l0 k k) (f34_C_l2 k k) (f34_C_l4 k k) (f34_C_l8 k k) xs).trans (by rw [f34_r1_E k] <;> rfl))
noncomputable def f34_con (k : Nat) : Con := ⟨f34_sig, f34_rs, fun xs => f34 k xs.1 xs.2.1 xs.2.2.1⟩
theorem f34_ok (k : Nat) : PureOK Try.prog 34 f34_sig f34_rs (fun xs => f34 k xs.1 xs.2.1 xs.2.2.1) :=
  (pure_of_den (k := k) (A := f34_A) (T := T) (Y := f34_Y) (E := f34_E k) (M := 480) (ts := f34_ts) T_ok ⟨f57_ok k, trivial⟩ ⟨f57_ent, trivial⟩ mixed (f := 34) (fn := Try.f34) (c := f34_c) (by kernel_rfl) (by kernel_rfl) (by kernel_rfl) (by decide) (by kernel_rfl)).congr fun xs => (f34_eq k xs).symm
theorem f34_ent : Ent Try.prog 34 := fun args w => by kernel_rfl
/-! ### slices.Clone[[]int,int]: function 35 -/
noncomputable def f35_c : Code := Try.f35.body.getD .skip
noncomputable abbrev f35_p (n : Nat) : Code := sb f35_c n
abbrev f35_sig : List PT := [(false, Tq28)]
abbrev f35_rs : List RT := [.new (.int .i64)]
abbrev f35_ts : List RV := [.tmp 2]
abbrev f35_S := St → Option (RDL f35_rs)
abbrev f35_L := List (Fr (RDL f35_rs))
def f35_Y : Tys := [(3, (.int .i64))]
noncomputable def f35_E (k : Nat) : Env := []
def f35_A : Ann := {}
noncomputable abbrev f35_a (k : Nat) (F : f35_L) : Kont (RDL f35_rs) := ap T f35_Y (f35_E k) f35_A k (Kfin T f35_rs f35_ts) F
def f35_entry_B (k : Nat) (a0 : Td29) : Option ((List Int) × Unit) := (if isNilO a0 = true then some ([], ()) else (if (([] : List Int).length + (slL true a0).length) * 8 ≤ 140737488355328 then some ((([] : List Int) ++ (slL true a0)), ()) else none))
theorem f35_entry_P (k : Nat) (xs : DL f35_sig) : f35_a k (.c (f35_p 1) 0 :: []) .nx (σ0 8 32 f35_sig xs) = f35_entry_B k xs.1 := by kernel_rfl
def f35 (k : Nat) (a0 : Td29) : Option ((List Int) × Unit) := f35_entry_B k a0
theorem f35_eq (k : Nat) (xs : DL f35_sig) : den T f35_Y (f35_E k) f35_A k f35_c 0 (σ0 8 32 f35_sig xs) (Kfin T f35_rs f35_ts) = f35 k xs.1 :=
  Eq.trans (Eq.trans den_sb (ap_at (ap_cons _ rfl) _)) ((f35_entry_P k xs).trans (by rfl))
noncomputable def f35_con (k : Nat) : Con := ⟨f35_sig, f35_rs, fun xs => f35 k xs.1⟩
theorem f35_ok (k : Nat) : PureOK Try.prog 35 f35_sig f35_rs (fun xs => f35 k xs.1) :=
  (pure_of_den (k := k) (A := f35_A) (T := T) (Y := f35_Y) (E := f35_E k) (M := 32) (ts := f35_ts) T_ok trivial trivial mixed (f := 35) (fn := Try.f35) (c := f35_c) (by kernel_rfl) (by kernel_rfl) (by kernel_rfl) (by decide) (by kernel_rfl)).congr fun xs => (f35_eq k xs).symm
theorem f35_ent : Ent Try.prog 35 := fun args w => by kernel_rfl
def f35u (k : Nat) (a0 : List Int) : Option (List Int × Unit) := unnil1 (f35 k) a0
noncomputable def f35u_con (k : Nat) : Con := ⟨[(false, .sl false (.int .i64))], f35_rs, fun xs => f35u k xs.1⟩
theorem f35u_ok (k : Nat) : PureOK Try.prog 35 [(false, .sl false (.int .i64))] f35_rs (fun xs => f35u k xs.1) := (f35_ok k).unnil1
theorem f35u_ent : Ent Try.prog 35 := f35_ent
/-! ### terrier/terrkeep4.RouteSound: function 10 -/
noncomputable def f10_c : Code := Try.f10.body.getD .skip
noncomputable abbrev f10_p (n : Nat) : Code := sb f10_c n
abbrev f10_sig : List PT := [(false, Tq1), (false, (.int .i64)), (false, (.int .i64))]
abbrev f10_rs : List RT := [.d false .bool]
abbrev f10_ts : List RV := [.tmp 6]
abbrev f10_S := St → Option (RDL f10_rs)
abbrev f10_L := List (Fr (RDL f10_rs))
def f10_Y : Tys := []
noncomputable def f10_E (k : Nat) : Env := [(15, .c (f15_con k)), (23, .c (f23_con k)), (28, .c (f28_con k)), (31, .c (f31_con k)), (34, .c (f34_con k)), (35, .c (f35u_con k))]
def f10_A : Ann := { regs := [(3, { slots := [(1, .id), (2, .id), (7, .id), (8, .id), (30, .bool)], keys := [(7, [.val false Tq2, .val false Tq6, .val false Tq2]), (14, [])] })] }
noncomputable abbrev f10_a (k : Nat) (F : f10_L) : Kont (RDL f10_rs) := ap T f10_Y (f10_E k) f10_A k (Kfin T f10_rs f10_ts) F
def f10_s_r3 (y14 : (List Int)) (y7_0 : (List (Int × Int))) (y7_1 : (List (Int × (Int × (Int × Int))))) (y7_2 : (List (Int × Int))) (x1 : Int) (x2 : Int) (x30 : Bool) : St := mkS 61 192 [(1, aI x1), (2, aI x2), (7, aP 7), (8, aO 14), (30, aB x30)] [(7, .box [cV Tq2 y7_0, cV Tq6 y7_1, cV Tq2 y7_2]), (14, .vec (.int .i64) y14)]
abbrev f10_t_r3 := (List Int) → (List (Int × Int)) → (List (Int × (Int × (Int × Int)))) → (List (Int × Int)) → Int → Int → Bool → Option (Bool × Unit)
abbrev f10_o_r3 (R : f10_S) : f10_t_r3 := (fun y14 y7_0 y7_1 y7_2 x1 x2 x30 => R (f10_s_r3 y14 y7_0 y7_1 y7_2 x1 x2 x30))
noncomputable def f10_Q_r3 (k : Nat) : f10_L := [.c (f10_p 61) 0, .c (f10_p 31) 0]
noncomputable def f10_C_r3 (k : Nat) : f10_S := fun σ => f10_a k (f10_Q_r3 k) .nx σ
noncomputable def f10_F_r3 (k : Nat) : f10_L := .c (f10_p 61) 0 :: .c (f10_p 31) 0 :: []
theorem f10_f_r3 (k : Nat) : f10_a k (f10_Q_r3 k) = f10_a k (f10_F_r3 k) := (ap_cons _ (ap_cons _ rfl))
def f10_entry_B (k : Nat) (g_r3 : f10_t_r3) (a0 : (List Int)) (a1 : Int) (a2 : Int) : Option (Bool × Unit) := ((f23 k a0).bind fun r1 => ((f28 k (r1.1.1, (r1.1.2.1, r1.1.2.2)) 0).bind fun r2 => ((f31 k ).bind fun r3 => (if ¬ (r3.1 = true) then (g_r3 r2.1 r1.1.1 r1.1.2.1 r1.1.2.2 a1 a2 true) else (if ¬ ((r2.1.length : Int) = (r1.1.1.length : Int)) then (g_r3 r2.1 r1.1.1 r1.1.2.1 r1.1.2.2 a1 a2 true) else ((f34 k (r1.1.1, (r1.1.2.1, r1.1.2.2)) 0 r2.1).bind fun r4 => (g_r3 r2.1 r1.1.1 r1.1.2.1 r1.1.2.2 a1 a2 (decide (¬ (r4.1 = true))))))))))
def f10_r3_B (k : Nat) (y14 : (List Int)) (y7_0 : (List (Int × Int))) (y7_1 : (List (Int × (Int × (Int × Int))))) (y7_2 : (List (Int × Int))) (x1 : Int) (x2 : Int) (x30 : Bool) : Option (Bool × Unit) := (if x30 = true then some (false, ()) else ((f35u k y14).bind fun r1 => ((f15 k x1 (r1.1.length : Int)).bind fun r2 => (if 0 ≤ r2.1 then (if r2.1 < (r1.1.length : Int) then ((f15 k x2 5).bind fun r3 => (if 0 ≤ r2.1 then (if r2.1 < (r1.1.length : Int) then ((f34 k (y7_0, (y7_1, y7_2)) 0 (r1.1.set ((r2.1).toNat) (w64 ((r1.1.getD ((r2.1).toNat) 0) + (w64 (1 + r3.1)))))).bind fun r4 => (if r4.1 = true then some (false, ()) else (if 0 ≤ r2.1 then (if r2.1 < (y14.length : Int) then (if 0 ≤ r2.1 then (if r2.1 < ((r1.1.set ((r2.1).toNat) (w64 ((r1.1.getD ((r2.1).toNat) 0) + (w64 (1 + r3.1))))).length : Int) then ((f34 k (y7_0, (y7_1, y7_2)) 0 ((r1.1.set ((r2.1).toNat) (w64 ((r1.1.getD ((r2.1).toNat) 0) + (w64 (1 + r3.1))))).set ((r2.1).toNat) (w64 ((y14.getD ((r2.1).toNat) 0) - 1)))).bind fun r5 => some (decide (¬ (r5.1 = true)), ())) else none) else none) else none) else none))) else none) else none)) else none) else none))))
theorem f10_r3_P (k : Nat) : f10_o_r3 (fun σ => f10_a k (f10_F_r3 k) .nx σ) = f10_r3_B k := by kernel_rfl
def f10_r3 (k : Nat) : f10_t_r3 := f10_r3_B k
theorem f10_r3_E (k : Nat) : f10_o_r3 (f10_C_r3 k) = f10_r3 k :=
  Eq.trans (congrArg f10_o_r3 (ap_fn (f10_f_r3 k))) ((f10_r3_P k).trans (by rfl))
theorem f10_entry_P (k : Nat) (G_r3 : f10_S) (xs : DL f10_sig) : f10_a k (.c (f10_p 2) 0 :: .c (f10_p 6) 0 :: .c (f10_p 14) 0 :: .c (f10_p 60) 0 :: .j G_r3 :: f10_F_r3 k) .nx (σ0 61 192 f10_sig xs) = f10_entry_B k (f10_o_r3 G_r3) xs.1 xs.2.1 xs.2.2.1 := by kernel_rfl
def f10 (k : Nat) (a0 : (List Int)) (a1 : Int) (a2 : Int) : Option (Bool × Unit) := f10_entry_B k (f10_r3 k) a0 a1 a2
theorem f10_fe (k : Nat) : f10_a k [.c (f10_p 1) 0] = f10_a k (.c (f10_p 2) 0 :: .c (f10_p 6) 0 :: .c (f10_p 14) 0 :: .c (f10_p 60) 0 :: .j (f10_C_r3 k) :: f10_F_r3 k) := (Eq.trans ap_sq (ap_cons _ (Eq.trans ap_sq (ap_cons _ (Eq.trans ap_sq (ap_cons _ (Eq.trans ap_sq (Eq.trans ap_sq (ap_cons _ (Eq.trans (ap_pass (C := (f10_C_r3 k)) (fun _ => rfl)) (ap_cons _ (f10_f_r3 k))))))))))))
theorem f10_eq (k : Nat) (xs : DL f10_sig) : den T f10_Y (f10_E k) f10_A k f10_c 0 (σ0 61 192 f10_sig xs) (Kfin T f10_rs f10_ts) = f10 k xs.1 xs.2.1 xs.2.2.1 :=
  Eq.trans (Eq.trans den_sb (ap_at (f10_fe k) _)) ((f10_entry_P k (f10_C_r3 k) xs).trans (by rw [f10_r3_E k] <;> rfl))
noncomputable def f10_con (k : Nat) : Con := ⟨f10_sig, f10_rs, fun xs => f10 k xs.1 xs.2.1 xs.2.2.1⟩
theorem f10_ok (k : Nat) : PureOK Try.prog 10 f10_sig f10_rs (fun xs => f10 k xs.1 xs.2.1 xs.2.2.1) :=
  (pure_of_den (k := k) (A := f10_A) (T := T) (Y := f10_Y) (E := f10_E k) (M := 192) (ts := f10_ts) T_ok ⟨f15_ok k, f23_ok k, f28_ok k, f31_ok k, f34_ok k, f35u_ok k, trivial⟩ ⟨f15_ent, f23_ent, f28_ent, f31_ent, f34_ent, f35u_ent, trivial⟩ mixed (f := 10) (fn := Try.f10) (c := f10_c) (by kernel_rfl) (by kernel_rfl) (by kernel_rfl) (by decide) (by kernel_rfl)).congr fun xs => (f10_eq k xs).symm
theorem f10_ent : Ent Try.prog 10 := fun args w => by kernel_rfl
def Pure_RouteSound : Prop := ∀ xs : DL f10_sig, wfs f10_sig xs → ∃ k, f10 k xs.1 xs.2.1 xs.2.2.1 = some (true, ())
end Go.Proofs.Ytoebjlimpnmaoaa.Rw
