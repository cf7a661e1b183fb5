/- What the functions that the law RouteBack reaches come to, part 2. No condition. -/
import Derived.Test.YtoebjlimpnmaoaaRwRouteBacka
namespace Go.Proofs.Ytoebjlimpnmaoaa.Rw
open Go.Rx Go.Proofs
set_option linter.unusedVariables false
set_option maxRecDepth 100000
/-! ### terrier/route.Ends: function 29 -/
noncomputable def f29_c : Code := Try.f29.body.getD .skip
noncomputable abbrev f29_p (n : Nat) : Code := sb f29_c n
abbrev f29_sig : List PT := [(true, Tq9), (false, (.int .i64))]
abbrev f29_rs : List RT := [.new (.int .i64)]
abbrev f29_ts : List RV := [.tmp 4]
abbrev f29_S := St → Option (RDL f29_rs)
abbrev f29_L := List (Fr (RDL f29_rs))
def f29_Y : Tys := [(3, (.int .i64))]
noncomputable def f29_E (k : Nat) : Env := [(57, .c (f57_con k)), (58, .c (f58_con k)), (59, .b (f59_con k))]
def f29_A : Ann := { loops := [(0, { slots := [(6, .id), (26, .id), (27, .id), (28, .id)], keys := [(22, []), (60, [])] })], conds := [(11, { slots := [(6, .id), (26, .id), (27, .id), (28, .id)], keys := [(22, []), (60, [])] })] }
noncomputable abbrev f29_a (k : Nat) (F : f29_L) : Kont (RDL f29_rs) := ap T f29_Y (f29_E k) f29_A k (Kfin T f29_rs f29_ts) F
def f29_s_l0 (y22 : (List Int)) (y60 : (List (Int × (Int × (Int × (Bool × Bool)))))) (x27 : Int) (x28 : Int) : St := mkS 45 144 [(6, aO 22), (26, aO 60), (27, aI x27), (28, aI x28)] [(22, .vec (.int .i64) y22), (60, .vec Tq19 y60)]
abbrev f29_t_l0 := (List Int) → (List (Int × (Int × (Int × (Bool × Bool))))) → Int → Int → Option ((List Int) × Unit)
abbrev f29_o_l0 (R : f29_S) : f29_t_l0 := (fun y22 y60 x27 x28 => R (f29_s_l0 y22 y60 x27 x28))
noncomputable def f29_Q_l0 (k : Nat) (R_l0 : f29_S) : f29_L := [.c (f29_p 1012) 0, .j (fun σ => R_l0 (cut f29_A.loops 0 σ)), .blk 0, .c (f29_p 127) 0]
noncomputable def f29_C_l0 (k : Nat) (n : Nat) (σ : St) : Option (RDL f29_rs) := loopK (fun σ K => den T f29_Y (f29_E k) f29_A k (f29_p 1012) 0 σ K) (cut f29_A.loops 0) (f29_a k [.blk 0, .c (f29_p 127) 0]) n σ
def f29_s_c11 (y22 : (List Int)) (y60 : (List (Int × (Int × (Int × (Bool × Bool)))))) (x27 : Int) (x28 : Int) : St := mkS 45 144 [(6, aO 22), (26, aO 60), (27, aI x27), (28, aI x28)] [(22, .vec (.int .i64) y22), (60, .vec Tq19 y60)]
abbrev f29_t_c11 := (List Int) → (List (Int × (Int × (Int × (Bool × Bool))))) → Int → Int → Option ((List Int) × Unit)
abbrev f29_o_c11 (R : f29_S) : f29_t_c11 := (fun y22 y60 x27 x28 => R (f29_s_c11 y22 y60 x27 x28))
noncomputable def f29_Q_c11 (k : Nat) (R_l0 : f29_S) : f29_L := [.blk 1, .c (f29_p 8103) 0, .j (fun σ => R_l0 (cut f29_A.loops 0 σ)), .blk 0, .c (f29_p 127) 0]
noncomputable def f29_C_c11 (k : Nat) (R_l0 : f29_S) : f29_S := fun σ => f29_a k (f29_Q_c11 k R_l0) .nx σ
noncomputable def f29_F_c11 (k : Nat) (G_l0 : f29_S) : f29_L := .blk 1 :: .c (f29_p 8103) 0 :: .j (fun σ => G_l0 (cut f29_A.loops 0 σ)) :: .blk 0 :: .c (f29_p 127) 0 :: []
theorem f29_f_c11 (k : Nat) (R_l0 : f29_S) : f29_a k (f29_Q_c11 k R_l0) = f29_a k (f29_F_c11 k R_l0) := (ap_cons _ (ap_cons _ (ap_cons _ (ap_cons _ (ap_cons _ rfl)))))
noncomputable def f29_F_l0 (k : Nat) (G_l0 G_c11 : f29_S) : f29_L := .c (f29_p 2024) 0 :: .c (f29_p 4050) 0 :: .j (fun σ => f29_a k (.c (f29_p 32408) 1 :: .c (f29_p 64818) 1 :: .c (f29_p 129638) 1 :: .c (f29_p 129639) 1 :: .j G_c11 :: f29_F_c11 k G_l0) .nx σ) :: .c (f29_p 8103) 0 :: .j (fun σ => G_l0 (cut f29_A.loops 0 σ)) :: .blk 0 :: .c (f29_p 127) 0 :: []
theorem f29_f_l0 (k : Nat) (R_l0 : f29_S) : f29_a k (f29_Q_l0 k R_l0) = f29_a k (f29_F_l0 k R_l0 (f29_C_c11 k R_l0)) := (Eq.trans ap_sq (ap_cons _ (Eq.trans ap_sq (ap_cons _ (Eq.trans ap_sq (Eq.trans (ap_bl 1) (Eq.trans (ap_j (Eq.trans ap_sq (ap_cons _ (Eq.trans ap_sq (ap_cons _ (Eq.trans ap_sq (ap_cons _ (ap_cons _ (Eq.trans (ap_pass (C := (f29_C_c11 k R_l0)) (fun _ => rfl)) (ap_cons _ (f29_f_c11 k R_l0))))))))))) (ap_cons _ (ap_cons _ (ap_cons _ (ap_cons _ (ap_cons _ rfl))))))))))))
def f29_entry_B (k : Nat) (g_l0 : f29_t_l0) (a0 : Td12) (a1 : Int) : Option ((List Int) × Unit) := ((f57 k (a0.1, (a0.2.1, a0.2.2)) ([a1])).bind fun r1 => (if ¬ (r1.1 = 0) then some ([], ()) else ((f58 k (a0.1, (a0.2.1, a0.2.2))).bind fun r2 => ((f59 k (r2.1.1.1.1, (r2.1.1.1.2.1, r2.1.1.1.2.2)) r2.1.1.2.1 r2.1.2.1 a1).bind fun r3 => (if 0 ≤ (a0.2.1.length : Int) then (if (a0.2.1.length : Int) ≤ 1073741824 then (g_l0 (List.replicate ((a0.2.1.length : Int)).toNat (0 : Int)) r3.1.2.1 (r3.1.2.1.length : Int) 0) else none) else none)))))
def f29_l0_B (k : Nat) (g_c11 : f29_t_c11) (y22 : (List Int)) (y60 : (List (Int × (Int × (Int × (Bool × Bool)))))) (x27 : Int) (x28 : Int) : Option ((List Int) × Unit) := (if x28 < x27 then (if 0 ≤ x28 then (if x28 < (y60.length : Int) then (if 0 ≤ x28 then (if x28 < (y22.length : Int) then (if (((((y60.getD ((x28).toNat) (0, (0, (0, (false, false))))).2).2).2).1) = true then (if 0 ≤ x28 then (if x28 < ((y22.set ((x28).toNat) (-1)).length : Int) then (g_c11 ((y22.set ((x28).toNat) (-1)).set ((x28).toNat) ((y60.getD ((x28).toNat) (0, (0, (0, (false, false))))).1)) y60 x27 x28) else none) else none) else (g_c11 (y22.set ((x28).toNat) (-1)) y60 x27 x28)) else none) else none) else none) else none) else some (y22, ()))
def f29_c11_B (k : Nat) (g_l0 : f29_t_l0) (y22 : (List Int)) (y60 : (List (Int × (Int × (Int × (Bool × Bool)))))) (x27 : Int) (x28 : Int) : Option ((List Int) × Unit) := (g_l0 y22 y60 x27 (w64 (x28 + 1)))
theorem f29_c11_P (k : Nat) (G_l0 : f29_S) : f29_o_c11 (fun σ => f29_a k (f29_F_c11 k G_l0) .nx σ) = f29_c11_B k (f29_o_l0 G_l0) := by kernel_rfl
def f29_c11 (k : Nat) (r_l0 : f29_t_l0) : f29_t_c11 := f29_c11_B k r_l0
theorem f29_c11_E (k : Nat) (R_l0 : f29_S) : f29_o_c11 (f29_C_c11 k R_l0) = f29_c11 k (f29_o_l0 R_l0) :=
  Eq.trans (congrArg f29_o_c11 (ap_fn (f29_f_c11 k R_l0))) ((f29_c11_P k R_l0).trans (by rfl))
theorem f29_l0_P (k : Nat) (G_l0 G_c11 : f29_S) : f29_o_l0 (fun σ => f29_a k (f29_F_l0 k G_l0 G_c11) .nx σ) = f29_l0_B k (f29_o_c11 G_c11) := by kernel_rfl
def f29_l0 (k : Nat) : Nat → f29_t_l0
  | 0 => fun _ _ _ _ => none
  | n + 1 => f29_l0_B k (f29_c11 k (f29_l0 k n))
theorem f29_l0_E (k : Nat) : ∀ n, f29_o_l0 (f29_C_l0 k n) = f29_l0 k n
  | 0 => rfl
  | n + 1 =>
    Eq.trans (congrArg f29_o_l0 (Eq.trans (b := fun σ => f29_a k (f29_Q_l0 k (f29_C_l0 k n)) .nx σ) (by kernel_rfl) (ap_fn (f29_f_l0 k (f29_C_l0 k n))))) ((f29_l0_P k (f29_C_l0 k n) (f29_C_c11 k (f29_C_l0 k n))).trans (by rw [f29_c11_E k (f29_C_l0 k n), f29_l0_E k n] <;> rfl))
theorem f29_entry_P (k : Nat) (G_l0 : f29_S) (xs : DL f29_sig) : f29_a k (.c (f29_p 2) 0 :: .c (f29_p 6) 0 :: .c (f29_p 14) 0 :: .c (f29_p 30) 0 :: .c (f29_p 62) 0 :: .c (f29_p 252) 0 :: .j (fun σ => f29_a k (.j (fun σ => G_l0 (cut f29_A.loops 0 σ)) :: .blk 0 :: .c (f29_p 127) 0 :: []) .nx σ) :: .c (f29_p 127) 0 :: []) .nx (σ0 45 144 f29_sig xs) = f29_entry_B k (f29_o_l0 G_l0) xs.1 xs.2.1 := by kernel_rfl
def f29 (k : Nat) (a0 : Td12) (a1 : Int) : Option ((List Int) × Unit) := f29_entry_B k (f29_l0 k k) a0 a1
theorem f29_fe (k : Nat) : f29_a k [.c (f29_p 1) 0] = f29_a k (.c (f29_p 2) 0 :: .c (f29_p 6) 0 :: .c (f29_p 14) 0 :: .c (f29_p 30) 0 :: .c (f29_p 62) 0 :: .c (f29_p 252) 0 :: .j (fun σ => f29_a k (.j (fun σ => (f29_C_l0 k k) (cut f29_A.loops 0 σ)) :: .blk 0 :: .c (f29_p 127) 0 :: []) .nx σ) :: .c (f29_p 127) 0 :: []) := (Eq.trans ap_sq (ap_cons _ (Eq.trans ap_sq (ap_cons _ (Eq.trans ap_sq (ap_cons _ (Eq.trans ap_sq (ap_cons _ (Eq.trans ap_sq (ap_cons _ (Eq.trans ap_sq (Eq.trans ap_sq (ap_cons _ (Eq.trans (ap_bl 0) (Eq.trans (ap_j (Eq.trans (ap_lp (C := (f29_C_l0 k)) (fun _ _ => rfl)) (ap_cons _ (ap_cons _ (ap_cons _ rfl))))) (ap_cons _ (ap_cons _ rfl)))))))))))))))))
theorem f29_eq (k : Nat) (xs : DL f29_sig) : den T f29_Y (f29_E k) f29_A k f29_c 0 (σ0 45 144 f29_sig xs) (Kfin T f29_rs f29_ts) = f29 k xs.1 xs.2.1 :=
  Eq.trans (Eq.trans den_sb (ap_at (f29_fe k) _)) ((f29_entry_P k (f29_C_l0 k k) xs).trans (by rw [f29_l0_E k k] <;> rfl))
noncomputable def f29_con (k : Nat) : Con := ⟨f29_sig, f29_rs, fun xs => f29 k xs.1 xs.2.1⟩
theorem f29_ok (k : Nat) : PureOK Try.prog 29 f29_sig f29_rs (fun xs => f29 k xs.1 xs.2.1) :=
  (pure_of_den (k := k) (A := f29_A) (T := T) (Y := f29_Y) (E := f29_E k) (M := 144) (ts := f29_ts) T_ok ⟨f57_ok k, f58_ok k, f59_ok k, trivial⟩ ⟨f57_ent, f58_ent, f59_ent, trivial⟩ mixed (f := 29) (fn := Try.f29) (c := f29_c) (by kernel_rfl) (by kernel_rfl) (by kernel_rfl) (by decide) (by kernel_rfl)).congr fun xs => (f29_eq k xs).symm
theorem f29_ent : Ent Try.prog 29 := fun args w => by kernel_rfl
/-! ### math/bits.Mul64: function 107 -/
noncomputable def f107_c : Code := Try.f107.body.getD .skip
noncomputable abbrev f107_p (n : Nat) : Code := sb f107_c n
abbrev f107_sig : List PT := [(false, (.int .u64)), (false, (.int .u64))]
abbrev f107_rs : List RT := [.d false (.int .u64), .d false (.int .u64)]
abbrev f107_ts : List RV := [.tmp 4, .tmp 5]
abbrev f107_S := St → Option (RDL f107_rs)
abbrev f107_L := List (Fr (RDL f107_rs))
def f107_Y : Tys := []
noncomputable def f107_E (k : Nat) : Env := []
def f107_A : Ann := {}
noncomputable abbrev f107_a (k : Nat) (F : f107_L) : Kont (RDL f107_rs) := ap T f107_Y (f107_E k) f107_A k (Kfin T f107_rs f107_ts) F
def f107_entry_B (k : Nat) (a0 : Int) (a1 : Int) : Option (Int × Int × Unit) := some (IntKind.u64.wrap ((IntKind.u64.wrap ((IntKind.u64.wrap ((a0.fdiv (2 ^ min (32 : Int).toNat (IntKind.bits .u64))) * (a1.fdiv (2 ^ min (32 : Int).toNat (IntKind.bits .u64))))) + ((IntKind.u64.wrap ((IntKind.u64.wrap ((a0.fdiv (2 ^ min (32 : Int).toNat (IntKind.bits .u64))) * (bitI .and .u64 a1 4294967295))) + ((IntKind.u64.wrap ((bitI .and .u64 a0 4294967295) * (bitI .and .u64 a1 4294967295))).fdiv (2 ^ min (32 : Int).toNat (IntKind.bits .u64))))).fdiv (2 ^ min (32 : Int).toNat (IntKind.bits .u64))))) + ((IntKind.u64.wrap ((bitI .and .u64 (IntKind.u64.wrap ((IntKind.u64.wrap ((a0.fdiv (2 ^ min (32 : Int).toNat (IntKind.bits .u64))) * (bitI .and .u64 a1 4294967295))) + ((IntKind.u64.wrap ((bitI .and .u64 a0 4294967295) * (bitI .and .u64 a1 4294967295))).fdiv (2 ^ min (32 : Int).toNat (IntKind.bits .u64))))) 4294967295) + (IntKind.u64.wrap ((bitI .and .u64 a0 4294967295) * (a1.fdiv (2 ^ min (32 : Int).toNat (IntKind.bits .u64))))))).fdiv (2 ^ min (32 : Int).toNat (IntKind.bits .u64)))), IntKind.u64.wrap (a0 * a1), ())
theorem f107_entry_P (k : Nat) (xs : DL f107_sig) : f107_a k (.c (f107_p 1) 0 :: []) .nx (σ0 51 160 f107_sig xs) = f107_entry_B k xs.1 xs.2.1 := by kernel_rfl
def f107 (k : Nat) (a0 : Int) (a1 : Int) : Option (Int × Int × Unit) := f107_entry_B k a0 a1
theorem f107_eq (k : Nat) (xs : DL f107_sig) : den T f107_Y (f107_E k) f107_A k f107_c 0 (σ0 51 160 f107_sig xs) (Kfin T f107_rs f107_ts) = f107 k xs.1 xs.2.1 :=
  Eq.trans (Eq.trans den_sb (ap_at (ap_cons _ rfl) _)) ((f107_entry_P k xs).trans (by rfl))
noncomputable def f107_con (k : Nat) : Con := ⟨f107_sig, f107_rs, fun xs => f107 k xs.1 xs.2.1⟩
theorem f107_ok (k : Nat) : PureOK Try.prog 107 f107_sig f107_rs (fun xs => f107 k xs.1 xs.2.1) :=
  (pure_of_den (k := k) (A := f107_A) (T := T) (Y := f107_Y) (E := f107_E k) (M := 160) (ts := f107_ts) T_ok trivial trivial mixed (f := 107) (fn := Try.f107) (c := f107_c) (by kernel_rfl) (by kernel_rfl) (by kernel_rfl) (by decide) (by kernel_rfl)).congr fun xs => (f107_eq k xs).symm
theorem f107_ent : Ent Try.prog 107 := fun args w => by kernel_rfl
/-! ### math/bits.Mul: function 77 -/
noncomputable def f77_c : Code := Try.f77.body.getD .skip
noncomputable abbrev f77_p (n : Nat) : Code := sb f77_c n
abbrev f77_sig : List PT := [(false, (.int .u64)), (false, (.int .u64))]
abbrev f77_rs : List RT := [.d false (.int .u64), .d false (.int .u64)]
abbrev f77_ts : List RV := [.tmp 4, .tmp 5]
abbrev f77_S := St → Option (RDL f77_rs)
abbrev f77_L := List (Fr (RDL f77_rs))
def f77_Y : Tys := []
noncomputable def f77_E (k : Nat) : Env := [(107, .c (f107_con k))]
def f77_A : Ann := {}
noncomputable abbrev f77_a (k : Nat) (F : f77_L) : Kont (RDL f77_rs) := ap T f77_Y (f77_E k) f77_A k (Kfin T f77_rs f77_ts) F
def f77_entry_B (k : Nat) (a0 : Int) (a1 : Int) : Option (Int × Int × Unit) := ((f107 k a0 a1).bind fun r1 => some (r1.1, r1.2.1, ()))
theorem f77_entry_P (k : Nat) (xs : DL f77_sig) : f77_a k (.c (f77_p 1) 0 :: []) .nx (σ0 30 96 f77_sig xs) = f77_entry_B k xs.1 xs.2.1 := by kernel_rfl
def f77 (k : Nat) (a0 : Int) (a1 : Int) : Option (Int × Int × Unit) := f77_entry_B k a0 a1
theorem f77_eq (k : Nat) (xs : DL f77_sig) : den T f77_Y (f77_E k) f77_A k f77_c 0 (σ0 30 96 f77_sig xs) (Kfin T f77_rs f77_ts) = f77 k xs.1 xs.2.1 :=
  Eq.trans (Eq.trans den_sb (ap_at (ap_cons _ rfl) _)) ((f77_entry_P k xs).trans (by rfl))
noncomputable def f77_con (k : Nat) : Con := ⟨f77_sig, f77_rs, fun xs => f77 k xs.1 xs.2.1⟩
theorem f77_ok (k : Nat) : PureOK Try.prog 77 f77_sig f77_rs (fun xs => f77 k xs.1 xs.2.1) :=
  (pure_of_den (k := k) (A := f77_A) (T := T) (Y := f77_Y) (E := f77_E k) (M := 96) (ts := f77_ts) T_ok ⟨f107_ok k, trivial⟩ ⟨f107_ent, trivial⟩ mixed (f := 77) (fn := Try.f77) (c := f77_c) (by kernel_rfl) (by kernel_rfl) (by kernel_rfl) (by decide) (by kernel_rfl)).congr fun xs => (f77_eq k xs).symm
theorem f77_ent : Ent Try.prog 77 := fun args w => by kernel_rfl
/-! ### slices.Repeat[[]int,int]: function 54 -/
noncomputable def f54_c : Code := Try.f54.body.getD .skip
noncomputable abbrev f54_p (n : Nat) : Code := sb f54_c n
abbrev f54_sig : List PT := [(false, Tq1), (false, (.int .i64))]
abbrev f54_rs : List RT := [.new (.int .i64)]
abbrev f54_ts : List RV := [.tmp 4]
abbrev f54_S := St → Option (RDL f54_rs)
abbrev f54_L := List (Fr (RDL f54_rs))
def f54_Y : Tys := [(3, (.int .i64))]
noncomputable def f54_E (k : Nat) : Env := [(77, .c (f77_con k))]
def f54_A : Ann := { conds := [(2, { slots := [(0, .val false (.int .i64)), (1, .id)] }), (5, { slots := [(0, .val false (.int .i64)), (6, .id)] })], regs := [(4, { slots := [(0, .val false (.int .i64)), (6, .id), (26, .bool)] })], loops := [(0, { slots := [(7, .id), (8, .id)], keys := [(30, [])] })] }
noncomputable abbrev f54_a (k : Nat) (F : f54_L) : Kont (RDL f54_rs) := ap T f54_Y (f54_E k) f54_A k (Kfin T f54_rs f54_ts) F
def f54_s_c2 (x0 : (List Int)) (x1 : Int) : St := mkS 48 144 [(0, aV (.int .i64) x0), (1, aI x1)] []
abbrev f54_t_c2 := (List Int) → Int → Option ((List Int) × Unit)
abbrev f54_o_c2 (R : f54_S) : f54_t_c2 := (fun x0 x1 => R (f54_s_c2 x0 x1))
noncomputable def f54_Q_c2 (k : Nat) : f54_L := [.c (f54_p 7) 0]
noncomputable def f54_C_c2 (k : Nat) : f54_S := fun σ => f54_a k (f54_Q_c2 k) .nx σ
def f54_s_r4 (x0 : (List Int)) (x26 : Bool) (x6 : Int) : St := mkS 48 144 [(0, aV (.int .i64) x0), (6, .cp (.one (.int .u64 x6))), (26, aB x26)] []
abbrev f54_t_r4 := (List Int) → Bool → Int → Option ((List Int) × Unit)
abbrev f54_o_r4 (R : f54_S) : f54_t_r4 := (fun x0 x26 x6 => R (f54_s_r4 x0 x26 x6))
noncomputable def f54_Q_r4 (k : Nat) : f54_L := [.c (f54_p 61) 0, .c (f54_p 31) 0]
noncomputable def f54_C_r4 (k : Nat) : f54_S := fun σ => f54_a k (f54_Q_r4 k) .nx σ
def f54_s_c5 (x0 : (List Int)) (x6 : Int) : St := mkS 48 144 [(0, aV (.int .i64) x0), (6, .cp (.one (.int .u64 x6)))] []
abbrev f54_t_c5 := (List Int) → Int → Option ((List Int) × Unit)
abbrev f54_o_c5 (R : f54_S) : f54_t_c5 := (fun x0 x6 => R (f54_s_c5 x0 x6))
noncomputable def f54_Q_c5 (k : Nat) : f54_L := [.c (f54_p 31) 0]
noncomputable def f54_C_c5 (k : Nat) : f54_S := fun σ => f54_a k (f54_Q_c5 k) .nx σ
def f54_s_l0 (y30 : (List Int)) (x8 : Int) : St := mkS 48 144 [(7, aO 30), (8, aI x8)] [(30, .vec (.int .i64) y30)]
abbrev f54_t_l0 := (List Int) → Int → Option ((List Int) × Unit)
abbrev f54_o_l0 (R : f54_S) : f54_t_l0 := (fun y30 x8 => R (f54_s_l0 y30 x8))
noncomputable def f54_Q_l0 (k : Nat) (R_l0 : f54_S) : f54_L := [.c (f54_p 1016) 0, .j (fun σ => R_l0 (cut f54_A.loops 0 σ)), .blk 0, .c (f54_p 255) 0]
noncomputable def f54_C_l0 (k : Nat) (n : Nat) (σ : St) : Option (RDL f54_rs) := loopK (fun σ K => den T f54_Y (f54_E k) f54_A k (f54_p 1016) 0 σ K) (cut f54_A.loops 0) (f54_a k [.blk 0, .c (f54_p 255) 0]) n σ
noncomputable def f54_F_c5 (k : Nat) (G_l0 : f54_S) : f54_L := .c (f54_p 62) 0 :: .c (f54_p 126) 0 :: .j (fun σ => f54_a k (.j (fun σ => G_l0 (cut f54_A.loops 0 σ)) :: .blk 0 :: .c (f54_p 255) 0 :: []) .nx σ) :: .c (f54_p 255) 0 :: []
theorem f54_f_c5 (k : Nat) : f54_a k (f54_Q_c5 k) = f54_a k (f54_F_c5 k (f54_C_l0 k k)) := (Eq.trans ap_sq (ap_cons _ (Eq.trans ap_sq (ap_cons _ (Eq.trans ap_sq (Eq.trans (ap_bl 0) (Eq.trans (ap_j (Eq.trans (ap_lp (C := (f54_C_l0 k)) (fun _ _ => rfl)) (ap_cons _ (ap_cons _ (ap_cons _ rfl))))) (ap_cons _ (ap_cons _ rfl)))))))))
noncomputable def f54_F_r4 (k : Nat) (G_c5 G_l0 : f54_S) : f54_L := .c (f54_p 61) 0 :: .j G_c5 :: f54_F_c5 k G_l0
theorem f54_f_r4 (k : Nat) : f54_a k (f54_Q_r4 k) = f54_a k (f54_F_r4 k (f54_C_c5 k) (f54_C_l0 k k)) := (ap_cons _ (Eq.trans (ap_pass (C := (f54_C_c5 k)) (fun _ => rfl)) (ap_cons _ (f54_f_c5 k))))
noncomputable def f54_F_c2 (k : Nat) (G_r4 G_c5 G_l0 : f54_S) : f54_L := .c (f54_p 14) 0 :: .c (f54_p 60) 0 :: .j G_r4 :: f54_F_r4 k G_c5 G_l0
theorem f54_f_c2 (k : Nat) : f54_a k (f54_Q_c2 k) = f54_a k (f54_F_c2 k (f54_C_r4 k) (f54_C_c5 k) (f54_C_l0 k k)) := (Eq.trans ap_sq (ap_cons _ (Eq.trans ap_sq (Eq.trans ap_sq (ap_cons _ (Eq.trans (ap_pass (C := (f54_C_r4 k)) (fun _ => rfl)) (ap_cons _ (f54_f_r4 k))))))))
noncomputable def f54_F_l0 (k : Nat) (G_l0 : f54_S) : f54_L := .c (f54_p 1016) 0 :: .j (fun σ => G_l0 (cut f54_A.loops 0 σ)) :: .blk 0 :: .c (f54_p 255) 0 :: []
theorem f54_f_l0 (k : Nat) (R_l0 : f54_S) : f54_a k (f54_Q_l0 k R_l0) = f54_a k (f54_F_l0 k R_l0) := (ap_cons _ (ap_cons _ (ap_cons _ (ap_cons _ rfl))))
def f54_entry_B (k : Nat) (g_c2 : f54_t_c2) (a0 : (List Int)) (a1 : Int) : Option ((List Int) × Unit) := (if a1 < 0 then none else (g_c2 a0 a1))
def f54_c2_B (k : Nat) (g_r4 : f54_t_r4) (x0 : (List Int)) (x1 : Int) : Option ((List Int) × Unit) := ((f77 k (IntKind.u64.wrap ((x0.length : Int))) (IntKind.u64.wrap (x1))).bind fun r1 => (if 0 < r1.1 then (g_r4 x0 true r1.2.1) else (g_r4 x0 (decide (9223372036854775807 < r1.2.1)) r1.2.1)))
def f54_r4_B (k : Nat) (g_c5 : f54_t_c5) (x0 : (List Int)) (x26 : Bool) (x6 : Int) : Option ((List Int) × Unit) := (if x26 = true then none else (g_c5 x0 x6))
def f54_c5_B (k : Nat) (g_l0 : f54_t_l0) (x0 : (List Int)) (x6 : Int) : Option ((List Int) × Unit) := (if 0 ≤ (w64 (x6)) then (if (w64 (x6)) ≤ 1073741824 then (g_l0 (copyL (List.replicate (w64 (x6)).toNat (0 : Int)) x0 0 ((List.replicate (w64 (x6)).toNat (0 : Int)).length)) ((min ((List.replicate (w64 (x6)).toNat (0 : Int)).length) x0.length : Nat) : Int)) else none) else none)
def f54_l0_B (k : Nat) (g_l0 : f54_t_l0) (y30 : (List Int)) (x8 : Int) : Option ((List Int) × Unit) := (if x8 < (y30.length : Int) then (if 0 ≤ x8 then (if x8 ≤ (y30.length : Int) then (if 0 ≤ x8 then (if x8 ≤ (y30.length : Int) then (g_l0 (copyL y30 (List.take ((x8).toNat - (0 : Int).toNat) (List.drop ((0 : Int).toNat) y30)) ((x8).toNat) ((y30.length : Int).toNat - (x8).toNat)) (w64 (x8 + ((min ((y30.length : Int).toNat - (x8).toNat) (List.take ((x8).toNat - (0 : Int).toNat) (List.drop ((0 : Int).toNat) y30)).length : Nat) : Int)))) else none) else none) else none) else none) else some (y30, ()))
theorem f54_l0_P (k : Nat) (G_l0 : f54_S) : f54_o_l0 (fun σ => f54_a k (f54_F_l0 k G_l0) .nx σ) = f54_l0_B k (f54_o_l0 G_l0) := by kernel_rfl
def f54_l0 (k : Nat) : Nat → f54_t_l0
  | 0 => fun _ _ => none
  | n + 1 => f54_l0_B k (f54_l0 k n)
theorem f54_l0_E (k : Nat) : ∀ n, f54_o_l0 (f54_C_l0 k n) = f54_l0 k n
  | 0 => rfl
  | n + 1 =>
    Eq.trans (congrArg f54_o_l0 (Eq.trans (b := fun σ => f54_a k (f54_Q_l0 k (f54_C_l0 k n)) .nx σ) (by kernel_rfl) (ap_fn (f54_f_l0 k (f54_C_l0 k n))))) ((f54_l0_P k (f54_C_l0 k n)).trans (by rw [f54_l0_E k n] <;> rfl))
theorem f54_c5_P (k : Nat) (G_l0 : f54_S) : f54_o_c5 (fun σ => f54_a k (f54_F_c5 k G_l0) .nx σ) = f54_c5_B k (f54_o_l0 G_l0) := by kernel_rfl
def f54_c5 (k : Nat) : f54_t_c5 := f54_c5_B k (f54_l0 k k)
theorem f54_c5_E (k : Nat) : f54_o_c5 (f54_C_c5 k) = f54_c5 k :=
  Eq.trans (congrArg f54_o_c5 (ap_fn (f54_f_c5 k))) ((f54_c5_P k (f54_C_l0 k k)).trans (by rw [f54_l0_E k k] <;> rfl))
theorem f54_r4_P (k : Nat) (G_c5 G_l0 : f54_S) : f54_o_r4 (fun σ => f54_a k (f54_F_r4 k G_c5 G_l0) .nx σ) = f54_r4_B k (f54_o_c5 G_c5) := by kernel_rfl
def f54_r4 (k : Nat) : f54_t_r4 := f54_r4_B k (f54_c5 k)
theorem f54_r4_E (k : Nat) : f54_o_r4 (f54_C_r4 k) = f54_r4 k :=
  Eq.trans (congrArg f54_o_r4 (ap_fn (f54_f_r4 k))) ((f54_r4_P k (f54_C_c5 k) (f54_C_l0 k k)).trans (by rw [f54_c5_E k] <;> rfl))
theorem f54_c2_P (k : Nat) (G_r4 G_c5 G_l0 : f54_S) : f54_o_c2 (fun σ => f54_a k (f54_F_c2 k G_r4 G_c5 G_l0) .nx σ) = f54_c2_B k (f54_o_r4 G_r4) := by kernel_rfl
def f54_c2 (k : Nat) : f54_t_c2 := f54_c2_B k (f54_r4 k)
theorem f54_c2_E (k : Nat) : f54_o_c2 (f54_C_c2 k) = f54_c2 k :=
  Eq.trans (congrArg f54_o_c2 (ap_fn (f54_f_c2 k))) ((f54_c2_P k (f54_C_r4 k) (f54_C_c5 k) (f54_C_l0 k k)).trans (by rw [f54_r4_E k] <;> rfl))
theorem f54_entry_P (k : Nat) (G_c2 G_r4 G_c5 G_l0 : f54_S) (xs : DL f54_sig) : f54_a k (.c (f54_p 2) 0 :: .c (f54_p 12) 0 :: .c (f54_p 13) 0 :: .j G_c2 :: f54_F_c2 k G_r4 G_c5 G_l0) .nx (σ0 48 144 f54_sig xs) = f54_entry_B k (f54_o_c2 G_c2) xs.1 xs.2.1 := by kernel_rfl
def f54 (k : Nat) (a0 : (List Int)) (a1 : Int) : Option ((List Int) × Unit) := f54_entry_B k (f54_c2 k) a0 a1
theorem f54_fe (k : Nat) : f54_a k [.c (f54_p 1) 0] = f54_a k (.c (f54_p 2) 0 :: .c (f54_p 12) 0 :: .c (f54_p 13) 0 :: .j (f54_C_c2 k) :: f54_F_c2 k (f54_C_r4 k) (f54_C_c5 k) (f54_C_l0 k k)) := (Eq.trans ap_sq (ap_cons _ (Eq.trans ap_sq (Eq.trans ap_sq (ap_cons _ (ap_cons _ (Eq.trans (ap_pass (C := (f54_C_c2 k)) (fun _ => rfl)) (ap_cons _ (f54_f_c2 k)))))))))
theorem f54_eq (k : Nat) (xs : DL f54_sig) : den T f54_Y (f54_E k) f54_A k f54_c 0 (σ0 48 144 f54_sig xs) (Kfin T f54_rs f54_ts) = f54 k xs.1 xs.2.1 :=
  Eq.trans (Eq.trans den_sb (ap_at (f54_fe k) _)) ((f54_entry_P k (f54_C_c2 k) (f54_C_r4 k) (f54_C_c5 k) (f54_C_l0 k k) xs).trans (by rw [f54_c2_E k] <;> rfl))
noncomputable def f54_con (k : Nat) : Con := ⟨f54_sig, f54_rs, fun xs => f54 k xs.1 xs.2.1⟩
theorem f54_ok (k : Nat) : PureOK Try.prog 54 f54_sig f54_rs (fun xs => f54 k xs.1 xs.2.1) :=
  (pure_of_den (k := k) (A := f54_A) (T := T) (Y := f54_Y) (E := f54_E k) (M := 144) (ts := f54_ts) T_ok ⟨f77_ok k, trivial⟩ ⟨f77_ent, trivial⟩ mixed (f := 54) (fn := Try.f54) (c := f54_c) (by kernel_rfl) (by kernel_rfl) (by kernel_rfl) (by decide) (by kernel_rfl)).congr fun xs => (f54_eq k xs).symm
theorem f54_ent : Ent Try.prog 54 := fun args w => by kernel_rfl
/-! ### terrier/route.Costs: function 28 -/
noncomputable def f28_c : Code := Try.f28.body.getD .skip
noncomputable abbrev f28_p (n : Nat) : Code := sb f28_c n
abbrev f28_sig : List PT := [(true, Tq9), (false, (.int .i64))]
abbrev f28_rs : List RT := [.new (.int .i64)]
abbrev f28_ts : List RV := [.tmp 4]
abbrev f28_S := St → Option (RDL f28_rs)
abbrev f28_L := List (Fr (RDL f28_rs))
def f28_Y : Tys := [(3, (.int .i64))]
noncomputable def f28_E (k : Nat) : Env := [(29, .c (f29_con k)), (54, .c (f54_con k)), (57, .c (f57_con k))]
def f28_A : Ann := { loops := [(0, { slots := [(1, .id), (2, .id), (5, .id), (21, .id), (22, .id), (23, .id)], keys := [(2, [.val false Tq2, .val false Tq6, .val false Tq2]), (18, []), (21, [])] })], regs := [(8, { slots := [(1, .id), (2, .id), (5, .id), (7, .id), (8, .id), (21, .id), (22, .id), (23, .id), (50, .bool)], keys := [(2, [.val false Tq2, .val false Tq6, .val false Tq2]), (18, []), (21, [])] })], conds := [(9, { slots := [(1, .id), (2, .id), (5, .id), (21, .id), (22, .id), (23, .id)], keys := [(2, [.val false Tq2, .val false Tq6, .val false Tq2]), (18, []), (21, [])] })] }
noncomputable abbrev f28_a (k : Nat) (F : f28_L) : Kont (RDL f28_rs) := ap T f28_Y (f28_E k) f28_A k (Kfin T f28_rs f28_ts) F
def f28_s_l0 (y18 : (List Int)) (y2_0 : (List (Int × Int))) (y2_1 : (List (Int × (Int × (Int × Int))))) (y2_2 : (List (Int × Int))) (y21 : (List Int)) (x1 : Int) (x22 : Int) (x23 : Int) : St := mkS 60 192 [(1, aI x1), (2, aP 2), (5, aO 18), (21, aO 21), (22, aI x22), (23, aI x23)] [(2, .box [cV Tq2 y2_0, cV Tq6 y2_1, cV Tq2 y2_2]), (18, .vec (.int .i64) y18), (21, .vec (.int .i64) y21)]
abbrev f28_t_l0 := (List Int) → (List (Int × Int)) → (List (Int × (Int × (Int × Int)))) → (List (Int × Int)) → (List Int) → Int → Int → Int → Option ((List Int) × Unit)
abbrev f28_o_l0 (R : f28_S) : f28_t_l0 := (fun y18 y2_0 y2_1 y2_2 y21 x1 x22 x23 => R (f28_s_l0 y18 y2_0 y2_1 y2_2 y21 x1 x22 x23))
noncomputable def f28_Q_l0 (k : Nat) (R_l0 : f28_S) : f28_L := [.c (f28_p 244) 0, .j (fun σ => R_l0 (cut f28_A.loops 0 σ)), .blk 0, .c (f28_p 31) 0]
noncomputable def f28_C_l0 (k : Nat) (n : Nat) (σ : St) : Option (RDL f28_rs) := loopK (fun σ K => den T f28_Y (f28_E k) f28_A k (f28_p 244) 0 σ K) (cut f28_A.loops 0) (f28_a k [.blk 0, .c (f28_p 31) 0]) n σ
def f28_s_r8 (y18 : (List Int)) (y2_0 : (List (Int × Int))) (y2_1 : (List (Int × (Int × (Int × Int))))) (y2_2 : (List (Int × Int))) (y21 : (List Int)) (x1 : Int) (x22 : Int) (x23 : Int) (x50 : Bool) (x7 : Int) (x8 : Int) : St := mkS 60 192 [(1, aI x1), (2, aP 2), (5, aO 18), (7, aI x7), (8, aI x8), (21, aO 21), (22, aI x22), (23, aI x23), (50, aB x50)] [(2, .box [cV Tq2 y2_0, cV Tq6 y2_1, cV Tq2 y2_2]), (18, .vec (.int .i64) y18), (21, .vec (.int .i64) y21)]
abbrev f28_t_r8 := (List Int) → (List (Int × Int)) → (List (Int × (Int × (Int × Int)))) → (List (Int × Int)) → (List Int) → Int → Int → Int → Bool → Int → Int → Option ((List Int) × Unit)
abbrev f28_o_r8 (R : f28_S) : f28_t_r8 := (fun y18 y2_0 y2_1 y2_2 y21 x1 x22 x23 x50 x7 x8 => R (f28_s_r8 y18 y2_0 y2_1 y2_2 y21 x1 x22 x23 x50 x7 x8))
noncomputable def f28_Q_r8 (k : Nat) (R_l0 : f28_S) : f28_L := [.c (f28_p 31335) 1, .blk 1, .c (f28_p 1959) 0, .j (fun σ => R_l0 (cut f28_A.loops 0 σ)), .blk 0, .c (f28_p 31) 0]
noncomputable def f28_C_r8 (k : Nat) (R_l0 : f28_S) : f28_S := fun σ => f28_a k (f28_Q_r8 k R_l0) .nx σ
def f28_s_c9 (y18 : (List Int)) (y2_0 : (List (Int × Int))) (y2_1 : (List (Int × (Int × (Int × Int))))) (y2_2 : (List (Int × Int))) (y21 : (List Int)) (x1 : Int) (x22 : Int) (x23 : Int) : St := mkS 60 192 [(1, aI x1), (2, aP 2), (5, aO 18), (21, aO 21), (22, aI x22), (23, aI x23)] [(2, .box [cV Tq2 y2_0, cV Tq6 y2_1, cV Tq2 y2_2]), (18, .vec (.int .i64) y18), (21, .vec (.int .i64) y21)]
abbrev f28_t_c9 := (List Int) → (List (Int × Int)) → (List (Int × (Int × (Int × Int)))) → (List (Int × Int)) → (List Int) → Int → Int → Int → Option ((List Int) × Unit)
abbrev f28_o_c9 (R : f28_S) : f28_t_c9 := (fun y18 y2_0 y2_1 y2_2 y21 x1 x22 x23 => R (f28_s_c9 y18 y2_0 y2_1 y2_2 y21 x1 x22 x23))
noncomputable def f28_Q_c9 (k : Nat) (R_l0 : f28_S) : f28_L := [.blk 1, .c (f28_p 1959) 0, .j (fun σ => R_l0 (cut f28_A.loops 0 σ)), .blk 0, .c (f28_p 31) 0]
noncomputable def f28_C_c9 (k : Nat) (R_l0 : f28_S) : f28_S := fun σ => f28_a k (f28_Q_c9 k R_l0) .nx σ
noncomputable def f28_F_c9 (k : Nat) (G_l0 : f28_S) : f28_L := .blk 1 :: .c (f28_p 1959) 0 :: .j (fun σ => G_l0 (cut f28_A.loops 0 σ)) :: .blk 0 :: .c (f28_p 31) 0 :: []
theorem f28_f_c9 (k : Nat) (R_l0 : f28_S) : f28_a k (f28_Q_c9 k R_l0) = f28_a k (f28_F_c9 k R_l0) := (ap_cons _ (ap_cons _ (ap_cons _ (ap_cons _ (ap_cons _ rfl)))))
noncomputable def f28_F_r8 (k : Nat) (G_l0 G_c9 : f28_S) : f28_L := .c (f28_p 31335) 1 :: .j G_c9 :: f28_F_c9 k G_l0
theorem f28_f_r8 (k : Nat) (R_l0 : f28_S) : f28_a k (f28_Q_r8 k R_l0) = f28_a k (f28_F_r8 k R_l0 (f28_C_c9 k R_l0)) := (ap_cons _ (Eq.trans (ap_pass (C := (f28_C_c9 k R_l0)) (fun _ => rfl)) (ap_cons _ (f28_f_c9 k R_l0))))
noncomputable def f28_F_l0 (k : Nat) (G_l0 G_r8 G_c9 : f28_S) : f28_L := .c (f28_p 488) 0 :: .c (f28_p 978) 0 :: .j (fun σ => f28_a k (.c (f28_p 7832) 1 :: .c (f28_p 15666) 1 :: .c (f28_p 31334) 1 :: .j G_r8 :: f28_F_r8 k G_l0 G_c9) .nx σ) :: .c (f28_p 1959) 0 :: .j (fun σ => G_l0 (cut f28_A.loops 0 σ)) :: .blk 0 :: .c (f28_p 31) 0 :: []
theorem f28_f_l0 (k : Nat) (R_l0 : f28_S) : f28_a k (f28_Q_l0 k R_l0) = f28_a k (f28_F_l0 k R_l0 (f28_C_r8 k R_l0) (f28_C_c9 k R_l0)) := (Eq.trans ap_sq (ap_cons _ (Eq.trans ap_sq (ap_cons _ (Eq.trans ap_sq (Eq.trans (ap_bl 1) (Eq.trans (ap_j (Eq.trans ap_sq (ap_cons _ (Eq.trans ap_sq (ap_cons _ (Eq.trans ap_sq (ap_cons _ (Eq.trans (ap_pass (C := (f28_C_r8 k R_l0)) (fun _ => rfl)) (ap_cons _ (f28_f_r8 k R_l0)))))))))) (ap_cons _ (ap_cons _ (ap_cons _ (ap_cons _ (ap_cons _ rfl))))))))))))
def f28_entry_B (k : Nat) (g_l0 : f28_t_l0) (a0 : Td12) (a1 : Int) : Option ((List Int) × Unit) := ((f57 k (a0.1, (a0.2.1, a0.2.2)) ([a1])).bind fun r1 => (if ¬ (r1.1 = 0) then some ([], ()) else ((f54 k ([(-1)]) (a0.1.length : Int)).bind fun r2 => ((f29 k (a0.1, (a0.2.1, a0.2.2)) a1).bind fun r3 => (g_l0 r2.1 a0.1 a0.2.1 a0.2.2 r3.1 a1 (r3.1.length : Int) 0)))))
def f28_l0_B (k : Nat) (g_r8 : f28_t_r8) (y18 : (List Int)) (y2_0 : (List (Int × Int))) (y2_1 : (List (Int × (Int × (Int × Int))))) (y2_2 : (List (Int × Int))) (y21 : (List Int)) (x1 : Int) (x22 : Int) (x23 : Int) : Option ((List Int) × Unit) := (if x23 < x22 then (if 0 ≤ x23 then (if x23 < (y21.length : Int) then (if 0 ≤ x23 then (if x23 < (y2_1.length : Int) then (if 0 ≤ (y21.getD ((x23).toNat) 0) then (if 0 ≤ (((y2_1.getD (x23).toNat (0, (0, (0, 0)))).2).1) then (if (((y2_1.getD (x23).toNat (0, (0, (0, 0)))).2).1) < (y18.length : Int) then (if (y18.getD ((((y2_1.getD (x23).toNat (0, (0, (0, 0)))).2).1).toNat) 0) < 0 then (g_r8 y18 y2_0 y2_1 y2_2 y21 x1 x22 x23 true (y21.getD ((x23).toNat) 0) (((y2_1.getD (x23).toNat (0, (0, (0, 0)))).2).1)) else (if 0 ≤ (((y2_1.getD (x23).toNat (0, (0, (0, 0)))).2).1) then (if (((y2_1.getD (x23).toNat (0, (0, (0, 0)))).2).1) < (y18.length : Int) then (g_r8 y18 y2_0 y2_1 y2_2 y21 x1 x22 x23 (decide ((y21.getD ((x23).toNat) 0) < (y18.getD ((((y2_1.getD (x23).toNat (0, (0, (0, 0)))).2).1).toNat) 0))) (y21.getD ((x23).toNat) 0) (((y2_1.getD (x23).toNat (0, (0, (0, 0)))).2).1)) else none) else none)) else none) else none) else (g_r8 y18 y2_0 y2_1 y2_2 y21 x1 x22 x23 false (y21.getD ((x23).toNat) 0) (((y2_1.getD (x23).toNat (0, (0, (0, 0)))).2).1))) else none) else none) else none) else none) else (if 0 ≤ x1 then (if x1 < (y18.length : Int) then some ((y18.set ((x1).toNat) 0), ()) else none) else none))
def f28_r8_B (k : Nat) (g_c9 : f28_t_c9) (y18 : (List Int)) (y2_0 : (List (Int × Int))) (y2_1 : (List (Int × (Int × (Int × Int))))) (y2_2 : (List (Int × Int))) (y21 : (List Int)) (x1 : Int) (x22 : Int) (x23 : Int) (x50 : Bool) (x7 : Int) (x8 : Int) : Option ((List Int) × Unit) := (if x50 = true then (if 0 ≤ x8 then (if x8 < (y18.length : Int) then (g_c9 (y18.set ((x8).toNat) x7) y2_0 y2_1 y2_2 y21 x1 x22 x23) else none) else none) else (g_c9 y18 y2_0 y2_1 y2_2 y21 x1 x22 x23))
def f28_c9_B (k : Nat) (g_l0 : f28_t_l0) (y18 : (List Int)) (y2_0 : (List (Int × Int))) (y2_1 : (List (Int × (Int × (Int × Int))))) (y2_2 : (List (Int × Int))) (y21 : (List Int)) (x1 : Int) (x22 : Int) (x23 : Int) : Option ((List Int) × Unit) := (g_l0 y18 y2_0 y2_1 y2_2 y21 x1 x22 (w64 (x23 + 1)))
theorem f28_c9_P (k : Nat) (G_l0 : f28_S) : f28_o_c9 (fun σ => f28_a k (f28_F_c9 k G_l0) .nx σ) = f28_c9_B k (f28_o_l0 G_l0) := by kernel_rfl
def f28_c9 (k : Nat) (r_l0 : f28_t_l0) : f28_t_c9 := f28_c9_B k r_l0
theorem f28_c9_E (k : Nat) (R_l0 : f28_S) : f28_o_c9 (f28_C_c9 k R_l0) = f28_c9 k (f28_o_l0 R_l0) :=
  Eq.trans (congrArg f28_o_c9 (ap_fn (f28_f_c9 k R_l0))) ((f28_c9_P k R_l0).trans (by rfl))
theorem f28_r8_P (k : Nat) (G_l0 G_c9 : f28_S) : f28_o_r8 (fun σ => f28_a k (f28_F_r8 k G_l0 G_c9) .nx σ) = f28_r8_B k (f28_o_c9 G_c9) := by kernel_rfl
def f28_r8 (k : Nat) (r_l0 : f28_t_l0) : f28_t_r8 := f28_r8_B k (f28_c9 k r_l0)
theorem f28_r8_E (k : Nat) (R_l0 : f28_S) : f28_o_r8 (f28_C_r8 k R_l0) = f28_r8 k (f28_o_l0 R_l0) :=
  Eq.trans (congrArg f28_o_r8 (ap_fn (f28_f_r8 k R_l0))) ((f28_r8_P k R_l0 (f28_C_c9 k R_l0)).trans (by rw [f28_c9_E k R_l0] <;> rfl))
theorem f28_l0_P (k : Nat) (G_l0 G_r8 G_c9 : f28_S) : f28_o_l0 (fun σ => f28_a k (f28_F_l0 k G_l0 G_r8 G_c9) .nx σ) = f28_l0_B k (f28_o_r8 G_r8) := by kernel_rfl
def f28_l0 (k : Nat) : Nat → f28_t_l0
  | 0 => fun _ _ _ _ _ _ _ _ => none
  | n + 1 => f28_l0_B k (f28_r8 k (f28_l0 k n))
theorem f28_l0_E (k : Nat) : ∀ n, f28_o_l0 (f28_C_l0 k n) = f28_l0 k n
  | 0 => rfl
  | n + 1 =>
    Eq.trans (congrArg f28_o_l0 (Eq.trans (b := fun σ => f28_a k (f28_Q_l0 k (f28_C_l0 k n)) .nx σ) (by kernel_rfl) (ap_fn (f28_f_l0 k (f28_C_l0 k n))))) ((f28_l0_P k (f28_C_l0 k n) (f28_C_r8 k (f28_C_l0 k n)) (f28_C_c9 k (f28_C_l0 k n))).trans (by rw [f28_r8_E k (f28_C_l0 k n), f28_l0_E k n] <;> rfl))
theorem f28_entry_P (k : Nat) (G_l0 : f28_S) (xs : DL f28_sig) : f28_a k (.c (f28_p 2) 0 :: .c (f28_p 6) 0 :: .c (f28_p 14) 0 :: .c (f28_p 60) 0 :: .j (fun σ => f28_a k (.j (fun σ => G_l0 (cut f28_A.loops 0 σ)) :: .blk 0 :: .c (f28_p 31) 0 :: []) .nx σ) :: .c (f28_p 31) 0 :: []) .nx (σ0 60 192 f28_sig xs) = f28_entry_B k (f28_o_l0 G_l0) xs.1 xs.2.1 := by kernel_rfl
def f28 (k : Nat) (a0 : Td12) (a1 : Int) : Option ((List Int) × Unit) := f28_entry_B k (f28_l0 k k) a0 a1
theorem f28_fe (k : Nat) : f28_a k [.c (f28_p 1) 0] = f28_a k (.c (f28_p 2) 0 :: .c (f28_p 6) 0 :: .c (f28_p 14) 0 :: .c (f28_p 60) 0 :: .j (fun σ => f28_a k (.j (fun σ => (f28_C_l0 k k) (cut f28_A.loops 0 σ)) :: .blk 0 :: .c (f28_p 31) 0 :: []) .nx σ) :: .c (f28_p 31) 0 :: []) := (Eq.trans ap_sq (ap_cons _ (Eq.trans ap_sq (ap_cons _ (Eq.trans ap_sq (ap_cons _ (Eq.trans ap_sq (Eq.trans ap_sq (ap_cons _ (Eq.trans (ap_bl 0) (Eq.trans (ap_j (Eq.trans (ap_lp (C := (f28_C_l0 k)) (fun _ _ => rfl)) (ap_cons _ (ap_cons _ (ap_cons _ rfl))))) (ap_cons _ (ap_cons _ rfl)))))))))))))
theorem f28_eq (k : Nat) (xs : DL f28_sig) : den T f28_Y (f28_E k) f28_A k f28_c 0 (σ0 60 192 f28_sig xs) (Kfin T f28_rs f28_ts) = f28 k xs.1 xs.2.1 :=
  Eq.trans (Eq.trans den_sb (ap_at (f28_fe k) _)) ((f28_entry_P k (f28_C_l0 k k) xs).trans (by rw [f28_l0_E k k] <;> rfl))
noncomputable def f28_con (k : Nat) : Con := ⟨f28_sig, f28_rs, fun xs => f28 k xs.1 xs.2.1⟩
theorem f28_ok (k : Nat) : PureOK Try.prog 28 f28_sig f28_rs (fun xs => f28 k xs.1 xs.2.1) :=
  (pure_of_den (k := k) (A := f28_A) (T := T) (Y := f28_Y) (E := f28_E k) (M := 192) (ts := f28_ts) T_ok ⟨f29_ok k, f54_ok k, f57_ok k, trivial⟩ ⟨f29_ent, f54_ent, f57_ent, trivial⟩ mixed (f := 28) (fn := Try.f28) (c := f28_c) (by kernel_rfl) (by kernel_rfl) (by kernel_rfl) (by decide) (by kernel_rfl)).congr fun xs => (f28_eq k xs).symm
theorem f28_ent : Ent Try.prog 28 := fun args w => by kernel_rfl
/-! ### slices.Equal[[]int,int]: function 20 -/
noncomputable def f20_c : Code := Try.f20.body.getD .skip
noncomputable abbrev f20_p (n : Nat) : Code := sb f20_c n
abbrev f20_sig : List PT := [(false, Tq1), (false, Tq1)]
abbrev f20_rs : List RT := [.d false .bool]
abbrev f20_ts : List RV := [.tmp 4]
abbrev f20_S := St → Option (RDL f20_rs)
abbrev f20_L := List (Fr (RDL f20_rs))
def f20_Y : Tys := []
noncomputable def f20_E (k : Nat) : Env := []
def f20_A : Ann := { loops := [(0, { slots := [(0, .val false (.int .i64)), (1, .val false (.int .i64)), (12, .id), (13, .id)] })] }
noncomputable abbrev f20_a (k : Nat) (F : f20_L) : Kont (RDL f20_rs) := ap T f20_Y (f20_E k) f20_A k (Kfin T f20_rs f20_ts) F
def f20_s_l0 (x0 : (List Int)) (x1 : (List Int)) (x12 : Int) (x13 : Int) : St := mkS 26 80 [(0, aV (.int .i64) x0), (1, aV (.int .i64) x1), (12, aI x12), (13, aI x13)] []
abbrev f20_t_l0 := (List Int) → (List Int) → Int → Int → Option (Bool × Unit)
abbrev f20_o_l0 (R : f20_S) : f20_t_l0 := (fun x0 x1 x12 x13 => R (f20_s_l0 x0 x1 x12 x13))
noncomputable def f20_Q_l0 (k : Nat) (R_l0 : f20_S) : f20_L := [.c (f20_p 116) 0, .j (fun σ => R_l0 (cut f20_A.loops 0 σ)), .blk 0, .c (f20_p 15) 0]
noncomputable def f20_C_l0 (k : Nat) (n : Nat) (σ : St) : Option (RDL f20_rs) := loopK (fun σ K => den T f20_Y (f20_E k) f20_A k (f20_p 116) 0 σ K) (cut f20_A.loops 0) (f20_a k [.blk 0, .c (f20_p 15) 0]) n σ
noncomputable def f20_F_l0 (k : Nat) (G_l0 : f20_S) : f20_L := .c (f20_p 116) 0 :: .j (fun σ => G_l0 (cut f20_A.loops 0 σ)) :: .blk 0 :: .c (f20_p 15) 0 :: []
theorem f20_f_l0 (k : Nat) (R_l0 : f20_S) : f20_a k (f20_Q_l0 k R_l0) = f20_a k (f20_F_l0 k R_l0) := (ap_cons _ (ap_cons _ (ap_cons _ (ap_cons _ rfl))))
def f20_entry_B (k : Nat) (g_l0 : f20_t_l0) (a0 : (List Int)) (a1 : (List Int)) : Option (Bool × Unit) := (if ¬ ((a0.length : Int) = (a1.length : Int)) then some (false, ()) else (g_l0 a0 a1 (a0.length : Int) 0))
def f20_l0_B (k : Nat) (g_l0 : f20_t_l0) (x0 : (List Int)) (x1 : (List Int)) (x12 : Int) (x13 : Int) : Option (Bool × Unit) := (if x13 < x12 then (if 0 ≤ x13 then (if x13 < (x0.length : Int) then (if 0 ≤ x13 then (if x13 < (x1.length : Int) then (if ¬ ((x0.getD (x13).toNat 0) = (x1.getD (x13).toNat 0)) then some (false, ()) else (g_l0 x0 x1 x12 (w64 (x13 + 1)))) else none) else none) else none) else none) else some (true, ()))
theorem f20_l0_P (k : Nat) (G_l0 : f20_S) : f20_o_l0 (fun σ => f20_a k (f20_F_l0 k G_l0) .nx σ) = f20_l0_B k (f20_o_l0 G_l0) := by kernel_rfl
def f20_l0 (k : Nat) : Nat → f20_t_l0
  | 0 => fun _ _ _ _ => none
  | n + 1 => f20_l0_B k (f20_l0 k n)
theorem f20_l0_E (k : Nat) : ∀ n, f20_o_l0 (f20_C_l0 k n) = f20_l0 k n
  | 0 => rfl
  | n + 1 =>
    Eq.trans (congrArg f20_o_l0 (Eq.trans (b := fun σ => f20_a k (f20_Q_l0 k (f20_C_l0 k n)) .nx σ) (by kernel_rfl) (ap_fn (f20_f_l0 k (f20_C_l0 k n))))) ((f20_l0_P k (f20_C_l0 k n)).trans (by rw [f20_l0_E k n] <;> rfl))
theorem f20_entry_P (k : Nat) (G_l0 : f20_S) (xs : DL f20_sig) : f20_a k (.c (f20_p 2) 0 :: .c (f20_p 6) 0 :: .c (f20_p 28) 0 :: .j (fun σ => f20_a k (.j (fun σ => G_l0 (cut f20_A.loops 0 σ)) :: .blk 0 :: .c (f20_p 15) 0 :: []) .nx σ) :: .c (f20_p 15) 0 :: []) .nx (σ0 26 80 f20_sig xs) = f20_entry_B k (f20_o_l0 G_l0) xs.1 xs.2.1 := by kernel_rfl
def f20 (k : Nat) (a0 : (List Int)) (a1 : (List Int)) : Option (Bool × Unit) := f20_entry_B k (f20_l0 k k) a0 a1
theorem f20_fe (k : Nat) : f20_a k [.c (f20_p 1) 0] = f20_a k (.c (f20_p 2) 0 :: .c (f20_p 6) 0 :: .c (f20_p 28) 0 :: .j (fun σ => f20_a k (.j (fun σ => (f20_C_l0 k k) (cut f20_A.loops 0 σ)) :: .blk 0 :: .c (f20_p 15) 0 :: []) .nx σ) :: .c (f20_p 15) 0 :: []) := (Eq.trans ap_sq (ap_cons _ (Eq.trans ap_sq (ap_cons _ (Eq.trans ap_sq (Eq.trans ap_sq (ap_cons _ (Eq.trans (ap_bl 0) (Eq.trans (ap_j (Eq.trans (ap_lp (C := (f20_C_l0 k)) (fun _ _ => rfl)) (ap_cons _ (ap_cons _ (ap_cons _ rfl))))) (ap_cons _ (ap_cons _ rfl)))))))))))
theorem f20_eq (k : Nat) (xs : DL f20_sig) : den T f20_Y (f20_E k) f20_A k f20_c 0 (σ0 26 80 f20_sig xs) (Kfin T f20_rs f20_ts) = f20 k xs.1 xs.2.1 :=
  Eq.trans (Eq.trans den_sb (ap_at (f20_fe k) _)) ((f20_entry_P k (f20_C_l0 k k) xs).trans (by rw [f20_l0_E k k] <;> rfl))
noncomputable def f20_con (k : Nat) : Con := ⟨f20_sig, f20_rs, fun xs => f20 k xs.1 xs.2.1⟩
theorem f20_ok (k : Nat) : PureOK Try.prog 20 f20_sig f20_rs (fun xs => f20 k xs.1 xs.2.1) :=
  (pure_of_den (k := k) (A := f20_A) (T := T) (Y := f20_Y) (E := f20_E k) (M := 80) (ts := f20_ts) T_ok trivial trivial mixed (f := 20) (fn := Try.f20) (c := f20_c) (by kernel_rfl) (by kernel_rfl) (by kernel_rfl) (by decide) (by kernel_rfl)).congr fun xs => (f20_eq k xs).symm
theorem f20_ent : Ent Try.prog 20 := fun args w => by kernel_rfl
/-! ### terrier/net.In: function 22 -/
noncomputable def f22_c : Code := Try.f22.body.getD .skip
noncomputable abbrev f22_p (n : Nat) : Code := sb f22_c n
abbrev f22_sig : List PT := [(true, Tq9), (false, (.int .i64))]
abbrev f22_rs : List RT := [.new (.int .i64)]
abbrev f22_ts : List RV := [.tmp 4]
abbrev f22_S := St → Option (RDL f22_rs)
abbrev f22_L := List (Fr (RDL f22_rs))
def f22_Y : Tys := [(3, (.int .i64))]
noncomputable def f22_E (k : Nat) : Env := []
def f22_A : Ann := { loops := [(0, { mat := [(5, 23, (.int .i64))], slots := [(1, .id), (5, .id), (9, .val false Tq6), (10, .id), (11, .id)], keys := [(23, [])] })], conds := [(6, { mat := [(5, 23, (.int .i64))], slots := [(1, .id), (5, .id), (9, .val false Tq6), (10, .id), (11, .id)], keys := [(23, [])] })] }
noncomputable abbrev f22_a (k : Nat) (F : f22_L) : Kont (RDL f22_rs) := ap T f22_Y (f22_E k) f22_A k (Kfin T f22_rs f22_ts) F
def f22_s_l0 (y23 : (List Int)) (x1 : Int) (x10 : Int) (x11 : Int) (x9 : (List (Int × (Int × (Int × Int))))) : St := mkS 26 80 [(1, aI x1), (5, aO 23), (9, aV Tq6 x9), (10, aI x10), (11, aI x11)] [(23, .vec (.int .i64) y23)]
abbrev f22_t_l0 := (List Int) → Int → Int → Int → (List (Int × (Int × (Int × Int)))) → Option ((List Int) × Unit)
abbrev f22_o_l0 (R : f22_S) : f22_t_l0 := (fun y23 x1 x10 x11 x9 => R (f22_s_l0 y23 x1 x10 x11 x9))
noncomputable def f22_Q_l0 (k : Nat) (R_l0 : f22_S) : f22_L := [.c (f22_p 116) 0, .j (fun σ => R_l0 (cut f22_A.loops 0 σ)), .blk 0, .c (f22_p 15) 0]
noncomputable def f22_C_l0 (k : Nat) (n : Nat) (σ : St) : Option (RDL f22_rs) := loopK (fun σ K => den T f22_Y (f22_E k) f22_A k (f22_p 116) 0 σ K) (cut f22_A.loops 0) (f22_a k [.blk 0, .c (f22_p 15) 0]) n σ
def f22_s_c6 (y23 : (List Int)) (x1 : Int) (x10 : Int) (x11 : Int) (x9 : (List (Int × (Int × (Int × Int))))) : St := mkS 26 80 [(1, aI x1), (5, aO 23), (9, aV Tq6 x9), (10, aI x10), (11, aI x11)] [(23, .vec (.int .i64) y23)]
abbrev f22_t_c6 := (List Int) → Int → Int → Int → (List (Int × (Int × (Int × Int)))) → Option ((List Int) × Unit)
abbrev f22_o_c6 (R : f22_S) : f22_t_c6 := (fun y23 x1 x10 x11 x9 => R (f22_s_c6 y23 x1 x10 x11 x9))
noncomputable def f22_Q_c6 (k : Nat) (R_l0 : f22_S) : f22_L := [.blk 1, .c (f22_p 935) 0, .j (fun σ => R_l0 (cut f22_A.loops 0 σ)), .blk 0, .c (f22_p 15) 0]
noncomputable def f22_C_c6 (k : Nat) (R_l0 : f22_S) : f22_S := fun σ => f22_a k (f22_Q_c6 k R_l0) .nx σ
noncomputable def f22_F_c6 (k : Nat) (G_l0 : f22_S) : f22_L := .blk 1 :: .c (f22_p 935) 0 :: .j (fun σ => G_l0 (cut f22_A.loops 0 σ)) :: .blk 0 :: .c (f22_p 15) 0 :: []
theorem f22_f_c6 (k : Nat) (R_l0 : f22_S) : f22_a k (f22_Q_c6 k R_l0) = f22_a k (f22_F_c6 k R_l0) := (ap_cons _ (ap_cons _ (ap_cons _ (ap_cons _ (ap_cons _ rfl)))))
noncomputable def f22_F_l0 (k : Nat) (G_l0 G_c6 : f22_S) : f22_L := .c (f22_p 232) 0 :: .c (f22_p 466) 0 :: .j (fun σ => f22_a k (.c (f22_p 3736) 1 :: .c (f22_p 7474) 1 :: .c (f22_p 7475) 1 :: .j G_c6 :: f22_F_c6 k G_l0) .nx σ) :: .c (f22_p 935) 0 :: .j (fun σ => G_l0 (cut f22_A.loops 0 σ)) :: .blk 0 :: .c (f22_p 15) 0 :: []
theorem f22_f_l0 (k : Nat) (R_l0 : f22_S) : f22_a k (f22_Q_l0 k R_l0) = f22_a k (f22_F_l0 k R_l0 (f22_C_c6 k R_l0)) := (Eq.trans ap_sq (ap_cons _ (Eq.trans ap_sq (ap_cons _ (Eq.trans ap_sq (Eq.trans (ap_bl 1) (Eq.trans (ap_j (Eq.trans ap_sq (ap_cons _ (Eq.trans ap_sq (ap_cons _ (ap_cons _ (Eq.trans (ap_pass (C := (f22_C_c6 k R_l0)) (fun _ => rfl)) (ap_cons _ (f22_f_c6 k R_l0))))))))) (ap_cons _ (ap_cons _ (ap_cons _ (ap_cons _ (ap_cons _ rfl))))))))))))
def f22_entry_B (k : Nat) (g_l0 : f22_t_l0) (a0 : Td12) (a1 : Int) : Option ((List Int) × Unit) := (g_l0 ([] : List Int) a1 (a0.2.1.length : Int) 0 a0.2.1)
def f22_l0_B (k : Nat) (g_c6 : f22_t_c6) (y23 : (List Int)) (x1 : Int) (x10 : Int) (x11 : Int) (x9 : (List (Int × (Int × (Int × Int))))) : Option ((List Int) × Unit) := (if x11 < x10 then (if 0 ≤ x11 then (if x11 < (x9.length : Int) then (if (((x9.getD (x11).toNat (0, (0, (0, 0)))).2).1) = x1 then (if (y23.length + 1) * 8 ≤ 140737488355328 then (g_c6 (y23 ++ [x11]) x1 x10 x11 x9) else none) else (g_c6 y23 x1 x10 x11 x9)) else none) else none) else some (y23, ()))
def f22_c6_B (k : Nat) (g_l0 : f22_t_l0) (y23 : (List Int)) (x1 : Int) (x10 : Int) (x11 : Int) (x9 : (List (Int × (Int × (Int × Int))))) : Option ((List Int) × Unit) := (g_l0 y23 x1 x10 (w64 (x11 + 1)) x9)
theorem f22_c6_P (k : Nat) (G_l0 : f22_S) : f22_o_c6 (fun σ => f22_a k (f22_F_c6 k G_l0) .nx σ) = f22_c6_B k (f22_o_l0 G_l0) := by kernel_rfl
def f22_c6 (k : Nat) (r_l0 : f22_t_l0) : f22_t_c6 := f22_c6_B k r_l0
theorem f22_c6_E (k : Nat) (R_l0 : f22_S) : f22_o_c6 (f22_C_c6 k R_l0) = f22_c6 k (f22_o_l0 R_l0) :=
  Eq.trans (congrArg f22_o_c6 (ap_fn (f22_f_c6 k R_l0))) ((f22_c6_P k R_l0).trans (by rfl))
theorem f22_l0_P (k : Nat) (G_l0 G_c6 : f22_S) : f22_o_l0 (fun σ => f22_a k (f22_F_l0 k G_l0 G_c6) .nx σ) = f22_l0_B k (f22_o_c6 G_c6) := by kernel_rfl
def f22_l0 (k : Nat) : Nat → f22_t_l0
  | 0 => fun _ _ _ _ _ => none
  | n + 1 => f22_l0_B k (f22_c6 k (f22_l0 k n))
theorem f22_l0_E (k : Nat) : ∀ n, f22_o_l0 (f22_C_l0 k n) = f22_l0 k n
  | 0 => rfl
  | n + 1 =>
    Eq.trans (congrArg f22_o_l0 (Eq.trans (b := fun σ => f22_a k (f22_Q_l0 k (f22_C_l0 k n)) .nx σ) (by kernel_rfl) (ap_fn (f22_f_l0 k (f22_C_l0 k n))))) ((f22_l0_P k (f22_C_l0 k n) (f22_C_c6 k (f22_C_l0 k n))).trans (by rw [f22_c6_E k (f22_C_l0 k n), f22_l0_E k n] <;> rfl))
theorem f22_entry_P (k : Nat) (G_l0 : f22_S) (xs : DL f22_sig) : f22_a k (.c (f22_p 2) 0 :: .c (f22_p 6) 0 :: .c (f22_p 28) 0 :: .j (fun σ => f22_a k (.j (fun σ => G_l0 (cut f22_A.loops 0 σ)) :: .blk 0 :: .c (f22_p 15) 0 :: []) .nx σ) :: .c (f22_p 15) 0 :: []) .nx (σ0 26 80 f22_sig xs) = f22_entry_B k (f22_o_l0 G_l0) xs.1 xs.2.1 := by kernel_rfl
def f22 (k : Nat) (a0 : Td12) (a1 : Int) : Option ((List Int) × Unit) := f22_entry_B k (f22_l0 k k) a0 a1
theorem f22_fe (k : Nat) : f22_a k [.c (f22_p 1) 0] = f22_a k (.c (f22_p 2) 0 :: .c (f22_p 6) 0 :: .c (f22_p 28) 0 :: .j (fun σ => f22_a k (.j (fun σ => (f22_C_l0 k k) (cut f22_A.loops 0 σ)) :: .blk 0 :: .c (f22_p 15) 0 :: []) .nx σ) :: .c (f22_p 15) 0 :: []) := (Eq.trans ap_sq (ap_cons _ (Eq.trans ap_sq (ap_cons _ (Eq.trans ap_sq (Eq.trans ap_sq (ap_cons _ (Eq.trans (ap_bl 0) (Eq.trans (ap_j (Eq.trans (ap_lp (C := (f22_C_l0 k)) (fun _ _ => rfl)) (ap_cons _ (ap_cons _ (ap_cons _ rfl))))) (ap_cons _ (ap_cons _ rfl)))))))))))
theorem f22_eq (k : Nat) (xs : DL f22_sig) : den T f22_Y (f22_E k) f22_A k f22_c 0 (σ0 26 80 f22_sig xs) (Kfin T f22_rs f22_ts) = f22 k xs.1 xs.2.1 :=
  Eq.trans (Eq.trans den_sb (ap_at (f22_fe k) _)) ((f22_entry_P k (f22_C_l0 k k) xs).trans (by rw [f22_l0_E k k] <;> rfl))
noncomputable def f22_con (k : Nat) : Con := ⟨f22_sig, f22_rs, fun xs => f22 k xs.1 xs.2.1⟩
theorem f22_ok (k : Nat) : PureOK Try.prog 22 f22_sig f22_rs (fun xs => f22 k xs.1 xs.2.1) :=
  (pure_of_den (k := k) (A := f22_A) (T := T) (Y := f22_Y) (E := f22_E k) (M := 80) (ts := f22_ts) T_ok trivial trivial mixed (f := 22) (fn := Try.f22) (c := f22_c) (by kernel_rfl) (by kernel_rfl) (by kernel_rfl) (by decide) (by kernel_rfl)).congr fun xs => (f22_eq k xs).symm
theorem f22_ent : Ent Try.prog 22 := fun args w => by kernel_rfl
/-! ### terrier/route.Find: function 32 -/
noncomputable def f32_c : Code := Try.f32.body.getD .skip
noncomputable abbrev f32_p (n : Nat) : Code := sb f32_c n
abbrev f32_sig : List PT := [(true, Tq9), (false, (.int .i64)), (false, (.int .i64))]
abbrev f32_rs : List RT := [.new (.int .i64), .d false (.int .i64), .d false (.int .i64)]
abbrev f32_ts : List RV := [.tmp 6, .tmp 7, .tmp 8]
abbrev f32_S := St → Option (RDL f32_rs)
abbrev f32_L := List (Fr (RDL f32_rs))
def f32_Y : Tys := [(3, (.int .i64))]
noncomputable def f32_E (k : Nat) : Env := [(22, .c (f22_con k)), (57, .c (f57_con k)), (58, .c (f58_con k)), (59, .b (f59_con k)), (60, .c (f60_con k)), (61, .c (f61_con k))]
def f32_A : Ann := { loops := [(0, { slots := [(10, .id), (11, .id), (32, .id), (33, .id), (34, .id)], keys := [(26, [.val false Tq2, .val false Tq6, .val false Tq2, .id, .val false Tq1]), (32, []), (97, [])] })], regs := [(12, { slots := [(10, .id), (11, .id), (13, .id), (32, .id), (33, .id), (34, .id), (55, .bool)], keys := [(26, [.val false Tq2, .val false Tq6, .val false Tq2, .id, .val false Tq1]), (32, []), (97, [])] })], conds := [(13, { slots := [(10, .id), (11, .id), (32, .id), (33, .id), (34, .id)], keys := [(26, [.val false Tq2, .val false Tq6, .val false Tq2, .id, .val false Tq1]), (32, []), (97, [])] })] }
noncomputable abbrev f32_a (k : Nat) (F : f32_L) : Kont (RDL f32_rs) := ap T f32_Y (f32_E k) f32_A k (Kfin T f32_rs f32_ts) F
def f32_s_l0 (y26_0 : (List (Int × Int))) (y26_1 : (List (Int × (Int × (Int × Int))))) (y26_2 : (List (Int × Int))) (y26_4 : (List (List Int))) (y32 : (List Int)) (y97 : (List (Int × (Int × (Int × (Bool × Bool)))))) (x11 : Int) (x33 : Int) (x34 : Int) : St := mkS 71 224 [(10, aP 26), (11, aI x11), (32, aO 32), (33, aI x33), (34, aI x34)] [(26, .box [cV Tq2 y26_0, cV Tq6 y26_1, cV Tq2 y26_2, .own 97, cV Tq1 y26_4]), (32, .vec (.int .i64) y32), (97, .vec Tq19 y97)]
abbrev f32_t_l0 := (List (Int × Int)) → (List (Int × (Int × (Int × Int)))) → (List (Int × Int)) → (List (List Int)) → (List Int) → (List (Int × (Int × (Int × (Bool × Bool))))) → Int → Int → Int → Option ((List Int) × Int × Int × Unit)
abbrev f32_o_l0 (R : f32_S) : f32_t_l0 := (fun y26_0 y26_1 y26_2 y26_4 y32 y97 x11 x33 x34 => R (f32_s_l0 y26_0 y26_1 y26_2 y26_4 y32 y97 x11 x33 x34))
noncomputable def f32_Q_l0 (k : Nat) (R_l0 : f32_S) : f32_L := [.c (f32_p 2036) 0, .j (fun σ => R_l0 (cut f32_A.loops 0 σ)), .blk 0, .c (f32_p 255) 0]
noncomputable def f32_C_l0 (k : Nat) (n : Nat) (σ : St) : Option (RDL f32_rs) := loopK (fun σ K => den T f32_Y (f32_E k) f32_A k (f32_p 2036) 0 σ K) (cut f32_A.loops 0) (f32_a k [.blk 0, .c (f32_p 255) 0]) n σ
def f32_s_r12 (y26_0 : (List (Int × Int))) (y26_1 : (List (Int × (Int × (Int × Int))))) (y26_2 : (List (Int × Int))) (y26_4 : (List (List Int))) (y32 : (List Int)) (y97 : (List (Int × (Int × (Int × (Bool × Bool)))))) (x11 : Int) (x13 : Int) (x33 : Int) (x34 : Int) (x55 : Bool) : St := mkS 71 224 [(10, aP 26), (11, aI x11), (13, aI x13), (32, aO 32), (33, aI x33), (34, aI x34), (55, aB x55)] [(26, .box [cV Tq2 y26_0, cV Tq6 y26_1, cV Tq2 y26_2, .own 97, cV Tq1 y26_4]), (32, .vec (.int .i64) y32), (97, .vec Tq19 y97)]
abbrev f32_t_r12 := (List (Int × Int)) → (List (Int × (Int × (Int × Int)))) → (List (Int × Int)) → (List (List Int)) → (List Int) → (List (Int × (Int × (Int × (Bool × Bool))))) → Int → Int → Int → Int → Bool → Option ((List Int) × Int × Int × Unit)
abbrev f32_o_r12 (R : f32_S) : f32_t_r12 := (fun y26_0 y26_1 y26_2 y26_4 y32 y97 x11 x13 x33 x34 x55 => R (f32_s_r12 y26_0 y26_1 y26_2 y26_4 y32 y97 x11 x13 x33 x34 x55))
noncomputable def f32_Q_r12 (k : Nat) (R_l0 : f32_S) : f32_L := [.c (f32_p 130355) 1, .blk 1, .c (f32_p 16295) 0, .j (fun σ => R_l0 (cut f32_A.loops 0 σ)), .blk 0, .c (f32_p 255) 0]
noncomputable def f32_C_r12 (k : Nat) (R_l0 : f32_S) : f32_S := fun σ => f32_a k (f32_Q_r12 k R_l0) .nx σ
def f32_s_c13 (y26_0 : (List (Int × Int))) (y26_1 : (List (Int × (Int × (Int × Int))))) (y26_2 : (List (Int × Int))) (y26_4 : (List (List Int))) (y32 : (List Int)) (y97 : (List (Int × (Int × (Int × (Bool × Bool)))))) (x11 : Int) (x33 : Int) (x34 : Int) : St := mkS 71 224 [(10, aP 26), (11, aI x11), (32, aO 32), (33, aI x33), (34, aI x34)] [(26, .box [cV Tq2 y26_0, cV Tq6 y26_1, cV Tq2 y26_2, .own 97, cV Tq1 y26_4]), (32, .vec (.int .i64) y32), (97, .vec Tq19 y97)]
abbrev f32_t_c13 := (List (Int × Int)) → (List (Int × (Int × (Int × Int)))) → (List (Int × Int)) → (List (List Int)) → (List Int) → (List (Int × (Int × (Int × (Bool × Bool))))) → Int → Int → Int → Option ((List Int) × Int × Int × Unit)
abbrev f32_o_c13 (R : f32_S) : f32_t_c13 := (fun y26_0 y26_1 y26_2 y26_4 y32 y97 x11 x33 x34 => R (f32_s_c13 y26_0 y26_1 y26_2 y26_4 y32 y97 x11 x33 x34))
noncomputable def f32_Q_c13 (k : Nat) (R_l0 : f32_S) : f32_L := [.blk 1, .c (f32_p 16295) 0, .j (fun σ => R_l0 (cut f32_A.loops 0 σ)), .blk 0, .c (f32_p 255) 0]
noncomputable def f32_C_c13 (k : Nat) (R_l0 : f32_S) : f32_S := fun σ => f32_a k (f32_Q_c13 k R_l0) .nx σ
noncomputable def f32_F_c13 (k : Nat) (G_l0 : f32_S) : f32_L := .blk 1 :: .c (f32_p 16295) 0 :: .j (fun σ => G_l0 (cut f32_A.loops 0 σ)) :: .blk 0 :: .c (f32_p 255) 0 :: []
theorem f32_f_c13 (k : Nat) (R_l0 : f32_S) : f32_a k (f32_Q_c13 k R_l0) = f32_a k (f32_F_c13 k R_l0) := (ap_cons _ (ap_cons _ (ap_cons _ (ap_cons _ (ap_cons _ rfl)))))
noncomputable def f32_F_r12 (k : Nat) (G_l0 G_c13 : f32_S) : f32_L := .c (f32_p 130355) 1 :: .j G_c13 :: f32_F_c13 k G_l0
theorem f32_f_r12 (k : Nat) (R_l0 : f32_S) : f32_a k (f32_Q_r12 k R_l0) = f32_a k (f32_F_r12 k R_l0 (f32_C_c13 k R_l0)) := (ap_cons _ (Eq.trans (ap_pass (C := (f32_C_c13 k R_l0)) (fun _ => rfl)) (ap_cons _ (f32_f_c13 k R_l0))))
noncomputable def f32_F_l0 (k : Nat) (G_l0 G_r12 G_c13 : f32_S) : f32_L := .c (f32_p 4072) 0 :: .c (f32_p 8146) 0 :: .j (fun σ => f32_a k (.c (f32_p 65176) 1 :: .c (f32_p 130354) 1 :: .j G_r12 :: f32_F_r12 k G_l0 G_c13) .nx σ) :: .c (f32_p 16295) 0 :: .j (fun σ => G_l0 (cut f32_A.loops 0 σ)) :: .blk 0 :: .c (f32_p 255) 0 :: []
theorem f32_f_l0 (k : Nat) (R_l0 : f32_S) : f32_a k (f32_Q_l0 k R_l0) = f32_a k (f32_F_l0 k R_l0 (f32_C_r12 k R_l0) (f32_C_c13 k R_l0)) := (Eq.trans ap_sq (ap_cons _ (Eq.trans ap_sq (ap_cons _ (Eq.trans ap_sq (Eq.trans (ap_bl 1) (Eq.trans (ap_j (Eq.trans ap_sq (ap_cons _ (Eq.trans ap_sq (ap_cons _ (Eq.trans (ap_pass (C := (f32_C_r12 k R_l0)) (fun _ => rfl)) (ap_cons _ (f32_f_r12 k R_l0)))))))) (ap_cons _ (ap_cons _ (ap_cons _ (ap_cons _ (ap_cons _ rfl))))))))))))
def f32_entry_B (k : Nat) (g_l0 : f32_t_l0) (a0 : Td12) (a1 : Int) (a2 : Int) : Option ((List Int) × Int × Int × Unit) := ((f57 k (a0.1, (a0.2.1, a0.2.2)) ([a1, a2])).bind fun r1 => (if ¬ (r1.1 = 0) then some ([], 0, r1.1, ()) else (if a1 = a2 then some ([], 0, 0, ()) else ((f58 k (a0.1, (a0.2.1, a0.2.2))).bind fun r2 => ((f59 k (r2.1.1.1.1, (r2.1.1.1.2.1, r2.1.1.1.2.2)) r2.1.1.2.1 r2.1.2.1 a1).bind fun r3 => ((f22 k (a0.1, (a0.2.1, a0.2.2)) a2).bind fun r4 => (g_l0 r3.1.1.1.1 r3.1.1.1.2.1 r3.1.1.1.2.2 r3.1.1.2.1 r4.1 r3.1.2.1 (-1) (r4.1.length : Int) 0)))))))
def f32_l0_B (k : Nat) (g_r12 : f32_t_r12) (y26_0 : (List (Int × Int))) (y26_1 : (List (Int × (Int × (Int × Int))))) (y26_2 : (List (Int × Int))) (y26_4 : (List (List Int))) (y32 : (List Int)) (y97 : (List (Int × (Int × (Int × (Bool × Bool)))))) (x11 : Int) (x33 : Int) (x34 : Int) : Option ((List Int) × Int × Int × Unit) := (if x34 < x33 then (if 0 ≤ x34 then (if x34 < (y32.length : Int) then (if 0 ≤ (y32.getD ((x34).toNat) 0) then (if (y32.getD ((x34).toNat) 0) < (y97.length : Int) then (if (((((y97.getD (((y32.getD ((x34).toNat) 0)).toNat) (0, (0, (0, (false, false))))).2).2).2).1) = true then (if x11 < 0 then (g_r12 y26_0 y26_1 y26_2 y26_4 y32 y97 x11 (y32.getD ((x34).toNat) 0) x33 x34 true) else ((f60 k ((y26_0, (y26_1, y26_2)), (y97, y26_4)) (y32.getD ((x34).toNat) 0) x11).bind fun r1 => (g_r12 y26_0 y26_1 y26_2 y26_4 y32 y97 x11 (y32.getD ((x34).toNat) 0) x33 x34 (decide (r1.1 = true))))) else (g_r12 y26_0 y26_1 y26_2 y26_4 y32 y97 x11 (y32.getD ((x34).toNat) 0) x33 x34 false)) else none) else none) else none) else none) else (if x11 < 0 then some ([], 0, 17, ()) else ((f61 k ((y26_0, (y26_1, y26_2)), (y97, y26_4)) x11).bind fun r2 => (if 0 ≤ x11 then (if x11 < (y97.length : Int) then some (r2.1, (y97.getD ((x11).toNat) (0, (0, (0, (false, false))))).1, 0, ()) else none) else none))))
def f32_r12_B (k : Nat) (g_c13 : f32_t_c13) (y26_0 : (List (Int × Int))) (y26_1 : (List (Int × (Int × (Int × Int))))) (y26_2 : (List (Int × Int))) (y26_4 : (List (List Int))) (y32 : (List Int)) (y97 : (List (Int × (Int × (Int × (Bool × Bool)))))) (x11 : Int) (x13 : Int) (x33 : Int) (x34 : Int) (x55 : Bool) : Option ((List Int) × Int × Int × Unit) := (if x55 = true then (g_c13 y26_0 y26_1 y26_2 y26_4 y32 y97 x13 x33 x34) else (g_c13 y26_0 y26_1 y26_2 y26_4 y32 y97 x11 x33 x34))
def f32_c13_B (k : Nat) (g_l0 : f32_t_l0) (y26_0 : (List (Int × Int))) (y26_1 : (List (Int × (Int × (Int × Int))))) (y26_2 : (List (Int × Int))) (y26_4 : (List (List Int))) (y32 : (List Int)) (y97 : (List (Int × (Int × (Int × (Bool × Bool)))))) (x11 : Int) (x33 : Int) (x34 : Int) : Option ((List Int) × Int × Int × Unit) := (g_l0 y26_0 y26_1 y26_2 y26_4 y32 y97 x11 x33 (w64 (x34 + 1)))
theorem f32_c13_P (k : Nat) (G_l0 : f32_S) : f32_o_c13 (fun σ => f32_a k (f32_F_c13 k G_l0) .nx σ) = f32_c13_B k (f32_o_l0 G_l0) := by kernel_rfl
def f32_c13 (k : Nat) (r_l0 : f32_t_l0) : f32_t_c13 := f32_c13_B k r_l0
theorem f32_c13_E (k : Nat) (R_l0 : f32_S) : f32_o_c13 (f32_C_c13 k R_l0) = f32_c13 k (f32_o_l0 R_l0) :=
  Eq.trans (congrArg f32_o_c13 (ap_fn (f32_f_c13 k R_l0))) ((f32_c13_P k R_l0).trans (by rfl))
theorem f32_r12_P (k : Nat) (G_l0 G_c13 : f32_S) : f32_o_r12 (fun σ => f32_a k (f32_F_r12 k G_l0 G_c13) .nx σ) = f32_r12_B k (f32_o_c13 G_c13) := by kernel_rfl
def f32_r12 (k : Nat) (r_l0 : f32_t_l0) : f32_t_r12 := f32_r12_B k (f32_c13 k r_l0)
theorem f32_r12_E (k : Nat) (R_l0 : f32_S) : f32_o_r12 (f32_C_r12 k R_l0) = f32_r12 k (f32_o_l0 R_l0) :=
  Eq.trans (congrArg f32_o_r12 (ap_fn (f32_f_r12 k R_l0))) ((f32_r12_P k R_l0 (f32_C_c13 k R_l0)).trans (by rw [f32_c13_E k R_l0] <;> rfl))
theorem f32_l0_P (k : Nat) (G_l0 G_r12 G_c13 : f32_S) : f32_o_l0 (fun σ => f32_a k (f32_F_l0 k G_l0 G_r12 G_c13) .nx σ) = f32_l0_B k (f32_o_r12 G_r12) := by kernel_rfl
def f32_l0 (k : Nat) : Nat → f32_t_l0
  | 0 => fun _ _ _ _ _ _ _ _ _ => none
  | n + 1 => f32_l0_B k (f32_r12 k (f32_l0 k n))
theorem f32_l0_E (k : Nat) : ∀ n, f32_o_l0 (f32_C_l0 k n) = f32_l0 k n
  | 0 => rfl
  | n + 1 =>
    Eq.trans (congrArg f32_o_l0 (Eq.trans (b := fun σ => f32_a k (f32_Q_l0 k (f32_C_l0 k n)) .nx σ) (by kernel_rfl) (ap_fn (f32_f_l0 k (f32_C_l0 k n))))) ((f32_l0_P k (f32_C_l0 k n) (f32_C_r12 k (f32_C_l0 k n)) (f32_C_c13 k (f32_C_l0 k n))).trans (by rw [f32_r12_E k (f32_C_l0 k n), f32_l0_E k n] <;> rfl))
theorem f32_entry_P (k : Nat) (G_l0 : f32_S) (xs : DL f32_sig) : f32_a k (.c (f32_p 2) 0 :: .c (f32_p 6) 0 :: .c (f32_p 14) 0 :: .c (f32_p 30) 0 :: .c (f32_p 62) 0 :: .c (f32_p 126) 0 :: .c (f32_p 508) 0 :: .j (fun σ => f32_a k (.j (fun σ => G_l0 (cut f32_A.loops 0 σ)) :: .blk 0 :: .c (f32_p 255) 0 :: []) .nx σ) :: .c (f32_p 255) 0 :: []) .nx (σ0 71 224 f32_sig xs) = f32_entry_B k (f32_o_l0 G_l0) xs.1 xs.2.1 xs.2.2.1 := by kernel_rfl
def f32 (k : Nat) (a0 : Td12) (a1 : Int) (a2 : Int) : Option ((List Int) × Int × Int × Unit) := f32_entry_B k (f32_l0 k k) a0 a1 a2
theorem f32_fe (k : Nat) : f32_a k [.c (f32_p 1) 0] = f32_a k (.c (f32_p 2) 0 :: .c (f32_p 6) 0 :: .c (f32_p 14) 0 :: .c (f32_p 30) 0 :: .c (f32_p 62) 0 :: .c (f32_p 126) 0 :: .c (f32_p 508) 0 :: .j (fun σ => f32_a k (.j (fun σ => (f32_C_l0 k k) (cut f32_A.loops 0 σ)) :: .blk 0 :: .c (f32_p 255) 0 :: []) .nx σ) :: .c (f32_p 255) 0 :: []) := (Eq.trans ap_sq (ap_cons _ (Eq.trans ap_sq (ap_cons _ (Eq.trans ap_sq (ap_cons _ (Eq.trans ap_sq (ap_cons _ (Eq.trans ap_sq (ap_cons _ (Eq.trans ap_sq (ap_cons _ (Eq.trans ap_sq (Eq.trans ap_sq (ap_cons _ (Eq.trans (ap_bl 0) (Eq.trans (ap_j (Eq.trans (ap_lp (C := (f32_C_l0 k)) (fun _ _ => rfl)) (ap_cons _ (ap_cons _ (ap_cons _ rfl))))) (ap_cons _ (ap_cons _ rfl)))))))))))))))))))
theorem f32_eq (k : Nat) (xs : DL f32_sig) : den T f32_Y (f32_E k) f32_A k f32_c 0 (σ0 71 224 f32_sig xs) (Kfin T f32_rs f32_ts) = f32 k xs.1 xs.2.1 xs.2.2.1 :=
  Eq.trans (Eq.trans den_sb (ap_at (f32_fe k) _)) ((f32_entry_P k (f32_C_l0 k k) xs).trans (by rw [f32_l0_E k k] <;> rfl))
noncomputable def f32_con (k : Nat) : Con := ⟨f32_sig, f32_rs, fun xs => f32 k xs.1 xs.2.1 xs.2.2.1⟩
theorem f32_ok (k : Nat) : PureOK Try.prog 32 f32_sig f32_rs (fun xs => f32 k xs.1 xs.2.1 xs.2.2.1) :=
  (pure_of_den (k := k) (A := f32_A) (T := T) (Y := f32_Y) (E := f32_E k) (M := 224) (ts := f32_ts) T_ok ⟨f22_ok k, f57_ok k, f58_ok k, f59_ok k, f60_ok k, f61_ok k, trivial⟩ ⟨f22_ent, f57_ent, f58_ent, f59_ent, f60_ent, f61_ent, trivial⟩ mixed (f := 32) (fn := Try.f32) (c := f32_c) (by kernel_rfl) (by kernel_rfl) (by kernel_rfl) (by decide) (by kernel_rfl)).congr fun xs => (f32_eq k xs).symm
theorem f32_ent : Ent Try.prog 32 := fun args w => by kernel_rfl
/-! ### terrier/terrkeep4.pair: function 51 -/
noncomputable def f51_c : Code := Try.f51.body.getD .skip
noncomputable abbrev f51_p (n : Nat) : Code := sb f51_c n
abbrev f51_sig : List PT := []
abbrev f51_rs : List RT := [.d true Tq9]
abbrev f51_ts : List RV := [.cell 0 27]
abbrev f51_S := St → Option (RDL f51_rs)
abbrev f51_L := List (Fr (RDL f51_rs))
def f51_Y : Tys := [(36, Tq2), (39, Tq6)]
noncomputable def f51_E (k : Nat) : Env := []
def f51_A : Ann := {}
noncomputable abbrev f51_a (k : Nat) (F : f51_L) : Kont (RDL f51_rs) := ap T f51_Y (f51_E k) f51_A k (Kfin T f51_rs f51_ts) F
def f51_entry_B (k : Nat)  : Option (Td12 × Unit) := some (([(0, 0), (1, 0)], ([(0, (1, (7, 0)))], [])), ())
theorem f51_entry_P (k : Nat) (xs : DL f51_sig) : f51_a k (.c (f51_p 1) 0 :: []) .nx (σ0 7 32 f51_sig xs) = f51_entry_B k  := by kernel_rfl
def f51 (k : Nat)  : Option (Td12 × Unit) := f51_entry_B k 
theorem f51_eq (k : Nat) (xs : DL f51_sig) : den T f51_Y (f51_E k) f51_A k f51_c 0 (σ0 7 32 f51_sig xs) (Kfin T f51_rs f51_ts) = f51 k  :=
  Eq.trans (Eq.trans den_sb (ap_at (ap_cons _ rfl) _)) ((f51_entry_P k xs).trans (by rfl))
noncomputable def f51_con (k : Nat) : Con := ⟨f51_sig, f51_rs, fun xs => f51 k ⟩
theorem f51_ok (k : Nat) : PureOK Try.prog 51 f51_sig f51_rs (fun xs => f51 k ) :=
  (pure_of_den (k := k) (A := f51_A) (T := T) (Y := f51_Y) (E := f51_E k) (M := 32) (ts := f51_ts) T_ok trivial trivial mixed (f := 51) (fn := Try.f51) (c := f51_c) (by kernel_rfl) (by kernel_rfl) (by kernel_rfl) (by decide) (by kernel_rfl)).congr fun xs => (f51_eq k xs).symm
theorem f51_ent : Ent Try.prog 51 := fun args w => by kernel_rfl
/-! ### terrier/terrkeep4.routed: function 31 -/
noncomputable def f31_c : Code := Try.f31.body.getD .skip
noncomputable abbrev f31_p (n : Nat) : Code := sb f31_c n
abbrev f31_sig : List PT := []
abbrev f31_rs : List RT := [.d false .bool]
abbrev f31_ts : List RV := [.tmp 0]
abbrev f31_S := St → Option (RDL f31_rs)
abbrev f31_L := List (Fr (RDL f31_rs))
def f31_Y : Tys := [(3, (.int .i64))]
noncomputable def f31_E (k : Nat) : Env := [(20, .c (f20_con k)), (32, .c (f32_con k)), (51, .c (f51_con k))]
def f31_A : Ann := { regs := [(2, { slots := [(0, .bool)] })] }
noncomputable abbrev f31_a (k : Nat) (F : f31_L) : Kont (RDL f31_rs) := ap T f31_Y (f31_E k) f31_A k (Kfin T f31_rs f31_ts) F
def f31_s_r2 (x0 : Bool) : St := mkS 21 64 [(0, aB x0)] []
abbrev f31_t_r2 := Bool → Option (Bool × Unit)
abbrev f31_o_r2 (R : f31_S) : f31_t_r2 := (fun x0 => R (f31_s_r2 x0))
noncomputable def f31_Q_r2 (k : Nat) : f31_L := [.c (f31_p 15) 0]
noncomputable def f31_C_r2 (k : Nat) : f31_S := fun σ => f31_a k (f31_Q_r2 k) .nx σ
noncomputable def f31_F_r2 (k : Nat) : f31_L := .c (f31_p 15) 0 :: []
theorem f31_f_r2 (k : Nat) : f31_a k (f31_Q_r2 k) = f31_a k (f31_F_r2 k) := (ap_cons _ rfl)
def f31_entry_B (k : Nat) (g_r2 : f31_t_r2)  : Option (Bool × Unit) := ((f51 k ).bind fun r1 => ((f32 k (r1.1.1, (r1.1.2.1, r1.1.2.2)) 0 1).bind fun r2 => (if r2.2.2.1 = 0 then (if r2.2.1 = 7 then ((f20 k r2.1 ([0])).bind fun r3 => (g_r2 (decide (r3.1 = true)))) else (g_r2 false)) else (g_r2 false))))
def f31_r2_B (k : Nat) (x0 : Bool) : Option (Bool × Unit) := some (decide (x0 = true), ())
theorem f31_r2_P (k : Nat) : f31_o_r2 (fun σ => f31_a k (f31_F_r2 k) .nx σ) = f31_r2_B k := by kernel_rfl
def f31_r2 (k : Nat) : f31_t_r2 := f31_r2_B k
theorem f31_r2_E (k : Nat) : f31_o_r2 (f31_C_r2 k) = f31_r2 k :=
  Eq.trans (congrArg f31_o_r2 (ap_fn (f31_f_r2 k))) ((f31_r2_P k).trans (by rfl))
theorem f31_entry_P (k : Nat) (G_r2 : f31_S) (xs : DL f31_sig) : f31_a k (.c (f31_p 2) 0 :: .c (f31_p 6) 0 :: .c (f31_p 14) 0 :: .j G_r2 :: f31_F_r2 k) .nx (σ0 21 64 f31_sig xs) = f31_entry_B k (f31_o_r2 G_r2)  := by kernel_rfl
def f31 (k : Nat)  : Option (Bool × Unit) := f31_entry_B k (f31_r2 k) 
theorem f31_fe (k : Nat) : f31_a k [.c (f31_p 1) 0] = f31_a k (.c (f31_p 2) 0 :: .c (f31_p 6) 0 :: .c (f31_p 14) 0 :: .j (f31_C_r2 k) :: f31_F_r2 k) := (Eq.trans ap_sq (ap_cons _ (Eq.trans ap_sq (ap_cons _ (Eq.trans ap_sq (ap_cons _ (Eq.trans (ap_pass (C := (f31_C_r2 k)) (fun _ => rfl)) (ap_cons _ (f31_f_r2 k)))))))))
theorem f31_eq (k : Nat) (xs : DL f31_sig) : den T f31_Y (f31_E k) f31_A k f31_c 0 (σ0 21 64 f31_sig xs) (Kfin T f31_rs f31_ts) = f31 k  :=
  Eq.trans (Eq.trans den_sb (ap_at (f31_fe k) _)) ((f31_entry_P k (f31_C_r2 k) xs).trans (by rw [f31_r2_E k] <;> rfl))
noncomputable def f31_con (k : Nat) : Con := ⟨f31_sig, f31_rs, fun xs => f31 k ⟩
theorem f31_ok (k : Nat) : PureOK Try.prog 31 f31_sig f31_rs (fun xs => f31 k ) :=
  (pure_of_den (k := k) (A := f31_A) (T := T) (Y := f31_Y) (E := f31_E k) (M := 64) (ts := f31_ts) T_ok ⟨f20_ok k, f32_ok k, f51_ok k, trivial⟩ ⟨f20_ent, f32_ent, f51_ent, trivial⟩ mixed (f := 31) (fn := Try.f31) (c := f31_c) (by kernel_rfl) (by kernel_rfl) (by kernel_rfl) (by decide) (by kernel_rfl)).congr fun xs => (f31_eq k xs).symm
theorem f31_ent : Ent Try.prog 31 := fun args w => by kernel_rfl
/-! ### terrier/terrkeep4.RouteBack: function 9 -/
noncomputable def f9_c : Code := Try.f9.body.getD .skip
noncomputable abbrev f9_p (n : Nat) : Code := sb f9_c n
abbrev f9_sig : List PT := [(false, Tq1), (false, (.int .i64)), (false, (.int .i64))]
abbrev f9_rs : List RT := [.d false .bool]
abbrev f9_ts : List RV := [.tmp 6]
abbrev f9_S := St → Option (RDL f9_rs)
abbrev f9_L := List (Fr (RDL f9_rs))
def f9_Y : Tys := []
noncomputable def f9_E (k : Nat) : Env := [(13, .c (f13_con k)), (14, .c (f14_con k)), (15, .c (f15_con k)), (28, .c (f28_con k)), (31, .c (f31_con k))]
def f9_A : Ann := { regs := [(5, { slots := [(6, .bool)] })] }
noncomputable abbrev f9_a (k : Nat) (F : f9_L) : Kont (RDL f9_rs) := ap T f9_Y (f9_E k) f9_A k (Kfin T f9_rs f9_ts) F
def f9_s_r5 (x6 : Bool) : St := mkS 69 208 [(6, aB x6)] []
abbrev f9_t_r5 := Bool → Option (Bool × Unit)
abbrev f9_o_r5 (R : f9_S) : f9_t_r5 := (fun x6 => R (f9_s_r5 x6))
noncomputable def f9_Q_r5 (k : Nat) : f9_L := [.c (f9_p 127) 0]
noncomputable def f9_C_r5 (k : Nat) : f9_S := fun σ => f9_a k (f9_Q_r5 k) .nx σ
noncomputable def f9_F_r5 (k : Nat) : f9_L := .c (f9_p 127) 0 :: []
theorem f9_f_r5 (k : Nat) : f9_a k (f9_Q_r5 k) = f9_a k (f9_F_r5 k) := (ap_cons _ rfl)
def f9_entry_B (k : Nat) (g_r5 : f9_t_r5) (a0 : (List Int)) (a1 : Int) (a2 : Int) : Option (Bool × Unit) := ((f13 k a0).bind fun r1 => ((f15 k a1 (r1.1.1.length : Int)).bind fun r2 => ((f15 k a2 (r1.1.1.length : Int)).bind fun r3 => ((f14 k (r1.1.1, (r1.1.2.1, r1.1.2.2))).bind fun r4 => ((f28 k (r1.1.1, (r1.1.2.1, r1.1.2.2)) r2.1).bind fun r5 => ((f28 k (r4.1.1, (r4.1.2.1, r4.1.2.2)) r3.1).bind fun r6 => ((f31 k ).bind fun r7 => (if r7.1 = true then (if r4.2.1 = 0 then (if (r5.1.length : Int) = (r1.1.1.length : Int) then (if (r6.1.length : Int) = (r1.1.1.length : Int) then (if 0 ≤ r3.1 then (if r3.1 < (r5.1.length : Int) then (if 0 ≤ r2.1 then (if r2.1 < (r6.1.length : Int) then (g_r5 (decide ((r5.1.getD ((r3.1).toNat) 0) = (r6.1.getD ((r2.1).toNat) 0)))) else none) else none) else none) else none) else (g_r5 false)) else (g_r5 false)) else (g_r5 false)) else (g_r5 false)))))))))
def f9_r5_B (k : Nat) (x6 : Bool) : Option (Bool × Unit) := some (decide (x6 = true), ())
theorem f9_r5_P (k : Nat) : f9_o_r5 (fun σ => f9_a k (f9_F_r5 k) .nx σ) = f9_r5_B k := by kernel_rfl
def f9_r5 (k : Nat) : f9_t_r5 := f9_r5_B k
theorem f9_r5_E (k : Nat) : f9_o_r5 (f9_C_r5 k) = f9_r5 k :=
  Eq.trans (congrArg f9_o_r5 (ap_fn (f9_f_r5 k))) ((f9_r5_P k).trans (by rfl))
theorem f9_entry_P (k : Nat) (G_r5 : f9_S) (xs : DL f9_sig) : f9_a k (.c (f9_p 2) 0 :: .c (f9_p 6) 0 :: .c (f9_p 14) 0 :: .c (f9_p 30) 0 :: .c (f9_p 62) 0 :: .c (f9_p 126) 0 :: .j G_r5 :: f9_F_r5 k) .nx (σ0 69 208 f9_sig xs) = f9_entry_B k (f9_o_r5 G_r5) xs.1 xs.2.1 xs.2.2.1 := by kernel_rfl
def f9 (k : Nat) (a0 : (List Int)) (a1 : Int) (a2 : Int) : Option (Bool × Unit) := f9_entry_B k (f9_r5 k) a0 a1 a2
theorem f9_fe (k : Nat) : f9_a k [.c (f9_p 1) 0] = f9_a k (.c (f9_p 2) 0 :: .c (f9_p 6) 0 :: .c (f9_p 14) 0 :: .c (f9_p 30) 0 :: .c (f9_p 62) 0 :: .c (f9_p 126) 0 :: .j (f9_C_r5 k) :: f9_F_r5 k) := (Eq.trans ap_sq (ap_cons _ (Eq.trans ap_sq (ap_cons _ (Eq.trans ap_sq (ap_cons _ (Eq.trans ap_sq (ap_cons _ (Eq.trans ap_sq (ap_cons _ (Eq.trans ap_sq (ap_cons _ (Eq.trans (ap_pass (C := (f9_C_r5 k)) (fun _ => rfl)) (ap_cons _ (f9_f_r5 k)))))))))))))))
theorem f9_eq (k : Nat) (xs : DL f9_sig) : den T f9_Y (f9_E k) f9_A k f9_c 0 (σ0 69 208 f9_sig xs) (Kfin T f9_rs f9_ts) = f9 k xs.1 xs.2.1 xs.2.2.1 :=
  Eq.trans (Eq.trans den_sb (ap_at (f9_fe k) _)) ((f9_entry_P k (f9_C_r5 k) xs).trans (by rw [f9_r5_E k] <;> rfl))
noncomputable def f9_con (k : Nat) : Con := ⟨f9_sig, f9_rs, fun xs => f9 k xs.1 xs.2.1 xs.2.2.1⟩
theorem f9_ok (k : Nat) : PureOK Try.prog 9 f9_sig f9_rs (fun xs => f9 k xs.1 xs.2.1 xs.2.2.1) :=
  (pure_of_den (k := k) (A := f9_A) (T := T) (Y := f9_Y) (E := f9_E k) (M := 208) (ts := f9_ts) T_ok ⟨f13_ok k, f14_ok k, f15_ok k, f28_ok k, f31_ok k, trivial⟩ ⟨f13_ent, f14_ent, f15_ent, f28_ent, f31_ent, trivial⟩ mixed (f := 9) (fn := Try.f9) (c := f9_c) (by kernel_rfl) (by kernel_rfl) (by kernel_rfl) (by decide) (by kernel_rfl)).congr fun xs => (f9_eq k xs).symm
theorem f9_ent : Ent Try.prog 9 := fun args w => by kernel_rfl
def Pure_RouteBack : Prop := ∀ xs : DL f9_sig, wfs f9_sig xs → ∃ k, f9 k xs.1 xs.2.1 xs.2.2.1 = some (true, ())
end Go.Proofs.Ytoebjlimpnmaoaa.Rw
