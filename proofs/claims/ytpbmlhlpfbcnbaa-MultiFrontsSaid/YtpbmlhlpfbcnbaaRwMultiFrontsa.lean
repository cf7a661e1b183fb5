/- What the functions that the law MultiFronts reaches come to, part 1. No condition. -/
import Derived.Test.YtpbmlhlpfbcnbaaRxEv
import Derived.Test.YtpbmlhlpfbcnbaaProg
import Derived.Test.YtpbmlhlpfbcnbaaRxSf
import Derived.Test.YtpbmlhlpfbcnbaaRxSl
namespace Go.Proofs.Ytpbmlhlpfbcnbaa.Rw
open Go.Rx Go.Proofs
set_option linter.unusedVariables false
set_option maxRecDepth 100000
def T : Tab := [(3, ⟨.int .i64, 1, 8, some (false, [cI 0]), false⟩),
  (4, ⟨.bool, 1, 1, some (false, [.lit false]), false⟩),
  (25, ⟨.slice 3, 1, 24, some (false, [.nil]), false⟩),
  (78, ⟨.array 2 3, 2, 16, some (true, [cI 0, cI 0]), true⟩),
  (112, ⟨.slice 78, 1, 24, some (false, [.nil]), false⟩)]
theorem T_ok : TabOK Try.prog T := ⟨by kernel_rfl, by kernel_rfl, by kernel_rfl, by kernel_rfl, by kernel_rfl, trivial⟩
theorem mixed : Try.prog.follows .mixedOrders = true := by kernel_rfl
abbrev Tq0 : Ty := (.pair (.int .i64) (.int .i64))
abbrev Tq1 : Ty := (.sl false Tq0)
abbrev Td2 : Type := (List (Int × Int))
abbrev Tq3 : Ty := (.sl false (.int .i64))
abbrev Tq4 : Ty := (.clo 135 (.ptr Tq0))
/-! ### slices.Index[[][2]int,[2]int]: function 130 -/
noncomputable def f130_c : Code := Try.f130.body.getD .skip
noncomputable abbrev f130_p (n : Nat) : Code := sb f130_c n
abbrev f130_sig : List PT := [(false, Tq1), (true, Tq0)]
abbrev f130_rs : List RT := [.d false (.int .i64)]
abbrev f130_ts : List RV := [.tmp 4]
abbrev f130_S := St → Option (RDL f130_rs)
abbrev f130_L := List (Fr (RDL f130_rs))
noncomputable def f130_Y : Tys := []
noncomputable def f130_E (k : Nat) : Env := []
noncomputable def f130_A : Ann := { loops := [(0, { slots := [(0, .val false Tq0), (3, .id), (7, .id), (8, .id)], keys := [(3, [])] })] }
noncomputable abbrev f130_a (k : Nat) (F : f130_L) : Kont (RDL f130_rs) := ap T f130_Y (f130_E k) f130_A k (Kfin T f130_rs f130_ts) F
noncomputable def f130_s_l0 (y3_0 : Int) (y3_1 : Int) (x0 : (List (Int × Int))) (x7 : Int) (x8 : Int) : St := mkS 19 64 [(0, aV Tq0 x0), (3, aP 3), (7, aI x7), (8, aI x8)] [(3, .box [cI y3_0, cI y3_1])]
abbrev f130_t_l0 := Int → Int → (List (Int × Int)) → Int → Int → Option (Int × Unit)
noncomputable abbrev f130_o_l0 (R : f130_S) : f130_t_l0 := (fun y3_0 y3_1 x0 x7 x8 => R (f130_s_l0 y3_0 y3_1 x0 x7 x8))
noncomputable def f130_Q_l0 (k : Nat) (R_l0 : f130_S) : f130_L := [.c (f130_p 52) 0, .j (fun σ => R_l0 (cut f130_A.loops 0 σ)), .blk 0, .c (f130_p 7) 0]
noncomputable def f130_C_l0 (k : Nat) (n : Nat) (σ : St) : Option (RDL f130_rs) := loopK (fun σ K => den T f130_Y (f130_E k) f130_A k (f130_p 52) 0 σ K) (cut f130_A.loops 0) (f130_a k [.blk 0, .c (f130_p 7) 0]) n σ
noncomputable def f130_F_l0 (k : Nat) (G_l0 : f130_S) : f130_L := .c (f130_p 52) 0 :: .j (fun σ => G_l0 (cut f130_A.loops 0 σ)) :: .blk 0 :: .c (f130_p 7) 0 :: []
theorem f130_f_l0 (k : Nat) (R_l0 : f130_S) : f130_a k (f130_Q_l0 k R_l0) = f130_a k (f130_F_l0 k R_l0) := (ap_cons _ (ap_cons _ (ap_cons _ (ap_cons _ rfl))))
noncomputable def f130_entry_B (k : Nat) (g_l0 : f130_t_l0) (a0 : Td2) (a1 : (Int × Int)) : Option (Int × Unit) := (g_l0 a1.1 a1.2 a0 (a0.length : Int) 0)
noncomputable def f130_l0_B (k : Nat) (g_l0 : f130_t_l0) (y3_0 : Int) (y3_1 : Int) (x0 : (List (Int × Int))) (x7 : Int) (x8 : Int) : Option (Int × Unit) := (if x8 < x7 then (if 0 ≤ x8 then (if x8 < (x0.length : Int) then (if (y3_0 = ((x0.getD (x8).toNat (0, 0)).1)) ∧ (y3_1 = ((x0.getD (x8).toNat (0, 0)).2)) then some (x8, ()) else (g_l0 y3_0 y3_1 x0 x7 (w64 (x8 + 1)))) else none) else none) else some ((-1), ()))
theorem f130_l0_P (k : Nat) (G_l0 : f130_S) : f130_o_l0 (fun σ => f130_a k (f130_F_l0 k G_l0) .nx σ) = f130_l0_B k (f130_o_l0 G_l0) := by kernel_rfl
noncomputable def f130_l0 (k : Nat) : Nat → f130_t_l0
  | 0 => fun _ _ _ _ _ => none
  | n + 1 => f130_l0_B k (f130_l0 k n)
theorem f130_l0_E (k : Nat) : ∀ n, f130_o_l0 (f130_C_l0 k n) = f130_l0 k n
  | 0 => rfl
  | n + 1 =>
    Eq.trans (congrArg f130_o_l0 (Eq.trans (b := fun σ => f130_a k (f130_Q_l0 k (f130_C_l0 k n)) .nx σ) lp_step (ap_fn (f130_f_l0 k (f130_C_l0 k n))))) ((f130_l0_P k (f130_C_l0 k n)).trans (by rw [f130_l0_E k n] <;> rfl))
theorem f130_entry_P (k : Nat) (G_l0 : f130_S) (xs : DL f130_sig) : f130_a k (.c (f130_p 2) 0 :: .c (f130_p 12) 0 :: .j (fun σ => f130_a k (.j (fun σ => G_l0 (cut f130_A.loops 0 σ)) :: .blk 0 :: .c (f130_p 7) 0 :: []) .nx σ) :: .c (f130_p 7) 0 :: []) .nx (σ0 19 64 f130_sig xs) = f130_entry_B k (f130_o_l0 G_l0) xs.1 xs.2.1 := by kernel_rfl
noncomputable def f130 (k : Nat) (a0 : Td2) (a1 : (Int × Int)) : Option (Int × Unit) := f130_entry_B k (f130_l0 k k) a0 a1
theorem f130_fe (k : Nat) : f130_a k [.c (f130_p 1) 0] = f130_a k (.c (f130_p 2) 0 :: .c (f130_p 12) 0 :: .j (fun σ => f130_a k (.j (fun σ => (f130_C_l0 k k) (cut f130_A.loops 0 σ)) :: .blk 0 :: .c (f130_p 7) 0 :: []) .nx σ) :: .c (f130_p 7) 0 :: []) := (Eq.trans ap_sq (ap_cons _ (Eq.trans ap_sq (Eq.trans ap_sq (ap_cons _ (Eq.trans (ap_bl 0) (Eq.trans (ap_j (Eq.trans (ap_lp (C := (f130_C_l0 k)) (fun _ _ => rfl)) (ap_cons _ (ap_cons _ (ap_cons _ rfl))))) (ap_cons _ (ap_cons _ rfl)))))))))
theorem f130_eq (k : Nat) (xs : DL f130_sig) : den T f130_Y (f130_E k) f130_A k f130_c 0 (σ0 19 64 f130_sig xs) (Kfin T f130_rs f130_ts) = f130 k xs.1 xs.2.1 :=
  Eq.trans (Eq.trans den_sb (ap_at (f130_fe k) _)) ((f130_entry_P k (f130_C_l0 k k) xs).trans (by rw [f130_l0_E k k] <;> rfl))
noncomputable def f130_con (k : Nat) : Con := ⟨f130_sig, f130_rs, fun xs => f130 k xs.1 xs.2.1⟩
theorem f130_ok (k : Nat) : PureOK Try.prog 130 f130_sig f130_rs (fun xs => f130 k xs.1 xs.2.1) :=
  (pure_of_den (k := k) (A := f130_A) (T := T) (Y := f130_Y) (E := f130_E k) (M := 64) (ts := f130_ts) T_ok trivial trivial mixed (f := 130) (fn := Try.f130) (c := f130_c) (by kernel_rfl) (by kernel_rfl) (by kernel_rfl) (by decide) (by kernel_rfl)).congr fun xs => (f130_eq k xs).symm
theorem f130_ent : Ent Try.prog 130 := fun args w => by kernel_rfl
/-! ### slices.Contains[[][2]int,[2]int]: function 65 -/
noncomputable def f65_c : Code := Try.f65.body.getD .skip
noncomputable abbrev f65_p (n : Nat) : Code := sb f65_c n
abbrev f65_sig : List PT := [(false, Tq1), (true, Tq0)]
abbrev f65_rs : List RT := [.d false .bool]
abbrev f65_ts : List RV := [.tmp 4]
abbrev f65_S := St → Option (RDL f65_rs)
abbrev f65_L := List (Fr (RDL f65_rs))
noncomputable def f65_Y : Tys := []
noncomputable def f65_E (k : Nat) : Env := [(130, .c (f130_con k))]
noncomputable def f65_A : Ann := {}
noncomputable abbrev f65_a (k : Nat) (F : f65_L) : Kont (RDL f65_rs) := ap T f65_Y (f65_E k) f65_A k (Kfin T f65_rs f65_ts) F
noncomputable def f65_entry_B (k : Nat) (a0 : Td2) (a1 : (Int × Int)) : Option (Bool × Unit) := ((f130 k a0 (a1.1, a1.2)).bind fun r1 => some (decide (0 ≤ r1.1), ()))
theorem f65_entry_P (k : Nat) (xs : DL f65_sig) : f65_a k (.c (f65_p 1) 0 :: []) .nx (σ0 9 32 f65_sig xs) = f65_entry_B k xs.1 xs.2.1 := by kernel_rfl
noncomputable def f65 (k : Nat) (a0 : Td2) (a1 : (Int × Int)) : Option (Bool × Unit) := f65_entry_B k a0 a1
theorem f65_eq (k : Nat) (xs : DL f65_sig) : den T f65_Y (f65_E k) f65_A k f65_c 0 (σ0 9 32 f65_sig xs) (Kfin T f65_rs f65_ts) = f65 k xs.1 xs.2.1 :=
  Eq.trans (Eq.trans den_sb (ap_at (ap_cons _ rfl) _)) ((f65_entry_P k xs).trans (by rfl))
noncomputable def f65_con (k : Nat) : Con := ⟨f65_sig, f65_rs, fun xs => f65 k xs.1 xs.2.1⟩
theorem f65_ok (k : Nat) : PureOK Try.prog 65 f65_sig f65_rs (fun xs => f65 k xs.1 xs.2.1) :=
  (pure_of_den (k := k) (A := f65_A) (T := T) (Y := f65_Y) (E := f65_E k) (M := 32) (ts := f65_ts) T_ok ⟨f130_ok k, trivial⟩ ⟨f130_ent, trivial⟩ mixed (f := 65) (fn := Try.f65) (c := f65_c) (by kernel_rfl) (by kernel_rfl) (by kernel_rfl) (by decide) (by kernel_rfl)).congr fun xs => (f65_eq k xs).symm
theorem f65_ent : Ent Try.prog 65 := fun args w => by kernel_rfl
/-! ### cmp.isNaN[int]: function 175 -/
noncomputable def f175_c : Code := Try.f175.body.getD .skip
noncomputable abbrev f175_p (n : Nat) : Code := sb f175_c n
abbrev f175_sig : List PT := [(false, (.int .i64))]
abbrev f175_rs : List RT := [.d false .bool]
abbrev f175_ts : List RV := [.tmp 2]
abbrev f175_S := St → Option (RDL f175_rs)
abbrev f175_L := List (Fr (RDL f175_rs))
noncomputable def f175_Y : Tys := []
noncomputable def f175_E (k : Nat) : Env := []
noncomputable def f175_A : Ann := {}
noncomputable abbrev f175_a (k : Nat) (F : f175_L) : Kont (RDL f175_rs) := ap T f175_Y (f175_E k) f175_A k (Kfin T f175_rs f175_ts) F
noncomputable def f175_entry_B (k : Nat) (a0 : Int) : Option (Bool × Unit) := some (decide (¬ (a0 = a0)), ())
theorem f175_entry_P (k : Nat) (xs : DL f175_sig) : f175_a k (.c (f175_p 1) 0 :: []) .nx (σ0 6 32 f175_sig xs) = f175_entry_B k xs.1 := by kernel_rfl
noncomputable def f175 (k : Nat) (a0 : Int) : Option (Bool × Unit) := f175_entry_B k a0
theorem f175_eq (k : Nat) (xs : DL f175_sig) : den T f175_Y (f175_E k) f175_A k f175_c 0 (σ0 6 32 f175_sig xs) (Kfin T f175_rs f175_ts) = f175 k xs.1 :=
  Eq.trans (Eq.trans den_sb (ap_at (ap_cons _ rfl) _)) ((f175_entry_P k xs).trans (by rfl))
noncomputable def f175_con (k : Nat) : Con := ⟨f175_sig, f175_rs, fun xs => f175 k xs.1⟩
theorem f175_ok (k : Nat) : PureOK Try.prog 175 f175_sig f175_rs (fun xs => f175 k xs.1) :=
  (pure_of_den (k := k) (A := f175_A) (T := T) (Y := f175_Y) (E := f175_E k) (M := 32) (ts := f175_ts) T_ok trivial trivial mixed (f := 175) (fn := Try.f175) (c := f175_c) (by kernel_rfl) (by kernel_rfl) (by kernel_rfl) (by decide) (by kernel_rfl)).congr fun xs => (f175_eq k xs).symm
theorem f175_ent : Ent Try.prog 175 := fun args w => by kernel_rfl
/-! ### cmp.Compare[int]: function 133 -/
noncomputable def f133_c : Code := Try.f133.body.getD .skip
noncomputable abbrev f133_p (n : Nat) : Code := sb f133_c n
abbrev f133_sig : List PT := [(false, (.int .i64)), (false, (.int .i64))]
abbrev f133_rs : List RT := [.d false (.int .i64)]
abbrev f133_ts : List RV := [.tmp 4]
abbrev f133_S := St → Option (RDL f133_rs)
abbrev f133_L := List (Fr (RDL f133_rs))
noncomputable def f133_Y : Tys := []
noncomputable def f133_E (k : Nat) : Env := [(175, .c (f175_con k))]
noncomputable def f133_A : Ann := {}
noncomputable abbrev f133_a (k : Nat) (F : f133_L) : Kont (RDL f133_rs) := ap T f133_Y (f133_E k) f133_A k (Kfin T f133_rs f133_ts) F
noncomputable def f133_entry_B (k : Nat) (a0 : Int) (a1 : Int) : Option (Int × Unit) := ((f175 k a0).bind fun r1 => ((f175 k a1).bind fun r2 => (if r1.1 = true then (if r2.1 = true then some (0, ()) else some ((-1), ())) else (if r2.1 = true then some (1, ()) else (if a0 < a1 then some ((-1), ()) else (if a1 < a0 then some (1, ()) else some (0, ())))))))
theorem f133_entry_P (k : Nat) (xs : DL f133_sig) : f133_a k (.c (f133_p 1) 0 :: []) .nx (σ0 20 64 f133_sig xs) = f133_entry_B k xs.1 xs.2.1 := by kernel_rfl
noncomputable def f133 (k : Nat) (a0 : Int) (a1 : Int) : Option (Int × Unit) := f133_entry_B k a0 a1
theorem f133_eq (k : Nat) (xs : DL f133_sig) : den T f133_Y (f133_E k) f133_A k f133_c 0 (σ0 20 64 f133_sig xs) (Kfin T f133_rs f133_ts) = f133 k xs.1 xs.2.1 :=
  Eq.trans (Eq.trans den_sb (ap_at (ap_cons _ rfl) _)) ((f133_entry_P k xs).trans (by rfl))
noncomputable def f133_con (k : Nat) : Con := ⟨f133_sig, f133_rs, fun xs => f133 k xs.1 xs.2.1⟩
theorem f133_ok (k : Nat) : PureOK Try.prog 133 f133_sig f133_rs (fun xs => f133 k xs.1 xs.2.1) :=
  (pure_of_den (k := k) (A := f133_A) (T := T) (Y := f133_Y) (E := f133_E k) (M := 64) (ts := f133_ts) T_ok ⟨f175_ok k, trivial⟩ ⟨f175_ent, trivial⟩ mixed (f := 133) (fn := Try.f133) (c := f133_c) (by kernel_rfl) (by kernel_rfl) (by kernel_rfl) (by decide) (by kernel_rfl)).congr fun xs => (f133_eq k xs).symm
theorem f133_ent : Ent Try.prog 133 := fun args w => by kernel_rfl
/-! ### slices.Compare[[]int,int]: function 68 -/
noncomputable def f68_c : Code := Try.f68.body.getD .skip
noncomputable abbrev f68_p (n : Nat) : Code := sb f68_c n
abbrev f68_sig : List PT := [(false, Tq3), (false, Tq3)]
abbrev f68_rs : List RT := [.d false (.int .i64)]
abbrev f68_ts : List RV := [.tmp 4]
abbrev f68_S := St → Option (RDL f68_rs)
abbrev f68_L := List (Fr (RDL f68_rs))
noncomputable def f68_Y : Tys := []
noncomputable def f68_E (k : Nat) : Env := [(133, .c (f133_con k))]
noncomputable def f68_A : Ann := { loops := [(0, { slots := [(0, .val false (.int .i64)), (1, .val false (.int .i64)), (9, .val false (.int .i64)), (10, .id), (11, .id)] })] }
noncomputable abbrev f68_a (k : Nat) (F : f68_L) : Kont (RDL f68_rs) := ap T f68_Y (f68_E k) f68_A k (Kfin T f68_rs f68_ts) F
noncomputable def f68_s_l0 (x0 : (List Int)) (x1 : (List Int)) (x10 : Int) (x11 : Int) : St := mkS 36 112 [(0, aV (.int .i64) x0), (1, aV (.int .i64) x1), (9, aV (.int .i64) x0), (10, aI x10), (11, aI x11)] []
abbrev f68_t_l0 := (List Int) → (List Int) → Int → Int → Option (Int × Unit)
noncomputable abbrev f68_o_l0 (R : f68_S) : f68_t_l0 := (fun x0 x1 x10 x11 => R (f68_s_l0 x0 x1 x10 x11))
noncomputable def f68_Q_l0 (k : Nat) (R_l0 : f68_S) : f68_L := [.c (f68_p 52) 0, .j (fun σ => R_l0 (cut f68_A.loops 0 σ)), .blk 0, .c (f68_p 7) 0]
noncomputable def f68_C_l0 (k : Nat) (n : Nat) (σ : St) : Option (RDL f68_rs) := loopK (fun σ K => den T f68_Y (f68_E k) f68_A k (f68_p 52) 0 σ K) (cut f68_A.loops 0) (f68_a k [.blk 0, .c (f68_p 7) 0]) n σ
noncomputable def f68_F_l0 (k : Nat) (G_l0 : f68_S) : f68_L := .c (f68_p 52) 0 :: .j (fun σ => G_l0 (cut f68_A.loops 0 σ)) :: .blk 0 :: .c (f68_p 7) 0 :: []
theorem f68_f_l0 (k : Nat) (R_l0 : f68_S) : f68_a k (f68_Q_l0 k R_l0) = f68_a k (f68_F_l0 k R_l0) := (ap_cons _ (ap_cons _ (ap_cons _ (ap_cons _ rfl))))
noncomputable def f68_entry_B (k : Nat) (g_l0 : f68_t_l0) (a0 : (List Int)) (a1 : (List Int)) : Option (Int × Unit) := (g_l0 a0 a1 (a0.length : Int) 0)
noncomputable def f68_l0_B (k : Nat) (g_l0 : f68_t_l0) (x0 : (List Int)) (x1 : (List Int)) (x10 : Int) (x11 : Int) : Option (Int × Unit) := (if x11 < x10 then (if 0 ≤ x11 then (if x11 < (x0.length : Int) then (if (x1.length : Int) ≤ x11 then some (1, ()) else (if 0 ≤ x11 then (if x11 < (x1.length : Int) then ((f133 k (x0.getD (x11).toNat 0) (x1.getD (x11).toNat 0)).bind fun r1 => (if ¬ (r1.1 = 0) then some (r1.1, ()) else (g_l0 x0 x1 x10 (w64 (x11 + 1))))) else none) else none)) else none) else none) else (if (x0.length : Int) < (x1.length : Int) then some ((-1), ()) else some (0, ())))
theorem f68_l0_P (k : Nat) (G_l0 : f68_S) : f68_o_l0 (fun σ => f68_a k (f68_F_l0 k G_l0) .nx σ) = f68_l0_B k (f68_o_l0 G_l0) := by kernel_rfl
noncomputable def f68_l0 (k : Nat) : Nat → f68_t_l0
  | 0 => fun _ _ _ _ => none
  | n + 1 => f68_l0_B k (f68_l0 k n)
theorem f68_l0_E (k : Nat) : ∀ n, f68_o_l0 (f68_C_l0 k n) = f68_l0 k n
  | 0 => rfl
  | n + 1 =>
    Eq.trans (congrArg f68_o_l0 (Eq.trans (b := fun σ => f68_a k (f68_Q_l0 k (f68_C_l0 k n)) .nx σ) lp_step (ap_fn (f68_f_l0 k (f68_C_l0 k n))))) ((f68_l0_P k (f68_C_l0 k n)).trans (by rw [f68_l0_E k n] <;> rfl))
theorem f68_entry_P (k : Nat) (G_l0 : f68_S) (xs : DL f68_sig) : f68_a k (.c (f68_p 2) 0 :: .c (f68_p 12) 0 :: .j (fun σ => f68_a k (.j (fun σ => G_l0 (cut f68_A.loops 0 σ)) :: .blk 0 :: .c (f68_p 7) 0 :: []) .nx σ) :: .c (f68_p 7) 0 :: []) .nx (σ0 36 112 f68_sig xs) = f68_entry_B k (f68_o_l0 G_l0) xs.1 xs.2.1 := by kernel_rfl
noncomputable def f68 (k : Nat) (a0 : (List Int)) (a1 : (List Int)) : Option (Int × Unit) := f68_entry_B k (f68_l0 k k) a0 a1
theorem f68_fe (k : Nat) : f68_a k [.c (f68_p 1) 0] = f68_a k (.c (f68_p 2) 0 :: .c (f68_p 12) 0 :: .j (fun σ => f68_a k (.j (fun σ => (f68_C_l0 k k) (cut f68_A.loops 0 σ)) :: .blk 0 :: .c (f68_p 7) 0 :: []) .nx σ) :: .c (f68_p 7) 0 :: []) := (Eq.trans ap_sq (ap_cons _ (Eq.trans ap_sq (Eq.trans ap_sq (ap_cons _ (Eq.trans (ap_bl 0) (Eq.trans (ap_j (Eq.trans (ap_lp (C := (f68_C_l0 k)) (fun _ _ => rfl)) (ap_cons _ (ap_cons _ (ap_cons _ rfl))))) (ap_cons _ (ap_cons _ rfl)))))))))
theorem f68_eq (k : Nat) (xs : DL f68_sig) : den T f68_Y (f68_E k) f68_A k f68_c 0 (σ0 36 112 f68_sig xs) (Kfin T f68_rs f68_ts) = f68 k xs.1 xs.2.1 :=
  Eq.trans (Eq.trans den_sb (ap_at (f68_fe k) _)) ((f68_entry_P k (f68_C_l0 k k) xs).trans (by rw [f68_l0_E k k] <;> rfl))
noncomputable def f68_con (k : Nat) : Con := ⟨f68_sig, f68_rs, fun xs => f68 k xs.1 xs.2.1⟩
theorem f68_ok (k : Nat) : PureOK Try.prog 68 f68_sig f68_rs (fun xs => f68 k xs.1 xs.2.1) :=
  (pure_of_den (k := k) (A := f68_A) (T := T) (Y := f68_Y) (E := f68_E k) (M := 112) (ts := f68_ts) T_ok ⟨f133_ok k, trivial⟩ ⟨f133_ent, trivial⟩ mixed (f := 68) (fn := Try.f68) (c := f68_c) (by kernel_rfl) (by kernel_rfl) (by kernel_rfl) (by decide) (by kernel_rfl)).congr fun xs => (f68_eq k xs).symm
theorem f68_ent : Ent Try.prog 68 := fun args w => by kernel_rfl
/-! ### terrier/terrlaw4.MultiFronts$1: function 67 -/
noncomputable def f67_c : Code := Try.f67.body.getD .skip
noncomputable abbrev f67_p (n : Nat) : Code := sb f67_c n
abbrev f67_sig : List PT := [(true, Tq0), (true, Tq0)]
abbrev f67_rs : List RT := [.d false (.int .i64)]
abbrev f67_ts : List RV := [.tmp 4]
abbrev f67_S := St → Option (RDL f67_rs)
abbrev f67_L := List (Fr (RDL f67_rs))
noncomputable def f67_Y : Tys := [(78, Tq0)]
noncomputable def f67_E (k : Nat) : Env := [(68, .c (f68_con k))]
noncomputable def f67_A : Ann := {}
noncomputable abbrev f67_a (k : Nat) (F : f67_L) : Kont (RDL f67_rs) := ap T f67_Y (f67_E k) f67_A k (Kfin T f67_rs f67_ts) F
noncomputable def f67_entry_B (k : Nat) (a0 : (Int × Int)) (a1 : (Int × Int)) : Option (Int × Unit) := ((f68 k ([a0.1, a0.2]) ([a1.1, a1.2])).bind fun r1 => some (r1.1, ()))
theorem f67_entry_P (k : Nat) (xs : DL f67_sig) : f67_a k (.c (f67_p 1) 0 :: []) .nx (σ0 8 32 f67_sig xs) = f67_entry_B k xs.1 xs.2.1 := by kernel_rfl
noncomputable def f67 (k : Nat) (a0 : (Int × Int)) (a1 : (Int × Int)) : Option (Int × Unit) := f67_entry_B k a0 a1
theorem f67_eq (k : Nat) (xs : DL f67_sig) : den T f67_Y (f67_E k) f67_A k f67_c 0 (σ0 8 32 f67_sig xs) (Kfin T f67_rs f67_ts) = f67 k xs.1 xs.2.1 :=
  Eq.trans (Eq.trans den_sb (ap_at (ap_cons _ rfl) _)) ((f67_entry_P k xs).trans (by rfl))
noncomputable def f67_con (k : Nat) : Con := ⟨f67_sig, f67_rs, fun xs => f67 k xs.1 xs.2.1⟩
theorem f67_ok (k : Nat) : PureOK Try.prog 67 f67_sig f67_rs (fun xs => f67 k xs.1 xs.2.1) :=
  (pure_of_den (k := k) (A := f67_A) (T := T) (Y := f67_Y) (E := f67_E k) (M := 32) (ts := f67_ts) T_ok ⟨f68_ok k, trivial⟩ ⟨f68_ent, trivial⟩ mixed (f := 67) (fn := Try.f67) (c := f67_c) (by kernel_rfl) (by kernel_rfl) (by kernel_rfl) (by decide) (by kernel_rfl)).congr fun xs => (f67_eq k xs).symm
theorem f67_ent : Ent Try.prog 67 := fun args w => by kernel_rfl
/-! ### slices.SortFunc[[][2]int,[2]int]: function 66, off the shelf -/
abbrev f66_sig : List PT := [(false, .fn 67)]
abbrev f66_rs : List RT := []
abbrev f66_ls : List LO := [.row Tq0]
noncomputable def f66 (k : Nat) (a : (List (Int × Int))) (a0 : Unit) : Option (((List (Int × Int)) × Unit) × Unit) := sortK (e := Tq0) (fun x y => f67 k x y) a
noncomputable def f66_con (k : Nat) : BCon := ⟨0, true, f66_ls, f66_sig, f66_rs, fun x xs => f66 k x.1 xs.1⟩
theorem f66_ok (k : Nat) : BoxOK Try.prog 66 0 true f66_ls f66_sig f66_rs (fun x xs => f66 k x.1 xs.1) := sortK_box (e := Tq0) (f := fun x y => f67 k x y) Try.laysF66 rfl (fun w => by kernel_rfl) (fun w => by kernel_rfl) (f67_ok k) f67_ent
theorem f66_ent : Ent Try.prog 66 := fun args w => by kernel_rfl
/-! ### slices.Equal[[][2]int,[2]int]: function 70 -/
noncomputable def f70_c : Code := Try.f70.body.getD .skip
noncomputable abbrev f70_p (n : Nat) : Code := sb f70_c n
abbrev f70_sig : List PT := [(false, Tq1), (false, Tq1)]
abbrev f70_rs : List RT := [.d false .bool]
abbrev f70_ts : List RV := [.tmp 4]
abbrev f70_S := St → Option (RDL f70_rs)
abbrev f70_L := List (Fr (RDL f70_rs))
noncomputable def f70_Y : Tys := []
noncomputable def f70_E (k : Nat) : Env := []
noncomputable def f70_A : Ann := { loops := [(0, { slots := [(0, .val false Tq0), (1, .val false Tq0), (12, .id), (13, .id)] })] }
noncomputable abbrev f70_a (k : Nat) (F : f70_L) : Kont (RDL f70_rs) := ap T f70_Y (f70_E k) f70_A k (Kfin T f70_rs f70_ts) F
noncomputable def f70_s_l0 (x0 : (List (Int × Int))) (x1 : (List (Int × Int))) (x12 : Int) (x13 : Int) : St := mkS 26 80 [(0, aV Tq0 x0), (1, aV Tq0 x1), (12, aI x12), (13, aI x13)] []
abbrev f70_t_l0 := (List (Int × Int)) → (List (Int × Int)) → Int → Int → Option (Bool × Unit)
noncomputable abbrev f70_o_l0 (R : f70_S) : f70_t_l0 := (fun x0 x1 x12 x13 => R (f70_s_l0 x0 x1 x12 x13))
noncomputable def f70_Q_l0 (k : Nat) (R_l0 : f70_S) : f70_L := [.c (f70_p 116) 0, .j (fun σ => R_l0 (cut f70_A.loops 0 σ)), .blk 0, .c (f70_p 15) 0]
noncomputable def f70_C_l0 (k : Nat) (n : Nat) (σ : St) : Option (RDL f70_rs) := loopK (fun σ K => den T f70_Y (f70_E k) f70_A k (f70_p 116) 0 σ K) (cut f70_A.loops 0) (f70_a k [.blk 0, .c (f70_p 15) 0]) n σ
noncomputable def f70_F_l0 (k : Nat) (G_l0 : f70_S) : f70_L := .c (f70_p 116) 0 :: .j (fun σ => G_l0 (cut f70_A.loops 0 σ)) :: .blk 0 :: .c (f70_p 15) 0 :: []
theorem f70_f_l0 (k : Nat) (R_l0 : f70_S) : f70_a k (f70_Q_l0 k R_l0) = f70_a k (f70_F_l0 k R_l0) := (ap_cons _ (ap_cons _ (ap_cons _ (ap_cons _ rfl))))
noncomputable def f70_entry_B (k : Nat) (g_l0 : f70_t_l0) (a0 : Td2) (a1 : Td2) : Option (Bool × Unit) := (if ¬ ((a0.length : Int) = (a1.length : Int)) then some (false, ()) else (g_l0 a0 a1 (a0.length : Int) 0))
noncomputable def f70_l0_B (k : Nat) (g_l0 : f70_t_l0) (x0 : (List (Int × Int))) (x1 : (List (Int × Int))) (x12 : Int) (x13 : Int) : Option (Bool × Unit) := (if x13 < x12 then (if 0 ≤ x13 then (if x13 < (x0.length : Int) then (if 0 ≤ x13 then (if x13 < (x1.length : Int) then (if ¬ ((((x0.getD (x13).toNat (0, 0)).1) = ((x1.getD (x13).toNat (0, 0)).1)) ∧ (((x0.getD (x13).toNat (0, 0)).2) = ((x1.getD (x13).toNat (0, 0)).2))) then some (false, ()) else (g_l0 x0 x1 x12 (w64 (x13 + 1)))) else none) else none) else none) else none) else some (true, ()))
theorem f70_l0_P (k : Nat) (G_l0 : f70_S) : f70_o_l0 (fun σ => f70_a k (f70_F_l0 k G_l0) .nx σ) = f70_l0_B k (f70_o_l0 G_l0) := by kernel_rfl
noncomputable def f70_l0 (k : Nat) : Nat → f70_t_l0
  | 0 => fun _ _ _ _ => none
  | n + 1 => f70_l0_B k (f70_l0 k n)
theorem f70_l0_E (k : Nat) : ∀ n, f70_o_l0 (f70_C_l0 k n) = f70_l0 k n
  | 0 => rfl
  | n + 1 =>
    Eq.trans (congrArg f70_o_l0 (Eq.trans (b := fun σ => f70_a k (f70_Q_l0 k (f70_C_l0 k n)) .nx σ) lp_step (ap_fn (f70_f_l0 k (f70_C_l0 k n))))) ((f70_l0_P k (f70_C_l0 k n)).trans (by rw [f70_l0_E k n] <;> rfl))
theorem f70_entry_P (k : Nat) (G_l0 : f70_S) (xs : DL f70_sig) : f70_a k (.c (f70_p 2) 0 :: .c (f70_p 6) 0 :: .c (f70_p 28) 0 :: .j (fun σ => f70_a k (.j (fun σ => G_l0 (cut f70_A.loops 0 σ)) :: .blk 0 :: .c (f70_p 15) 0 :: []) .nx σ) :: .c (f70_p 15) 0 :: []) .nx (σ0 26 80 f70_sig xs) = f70_entry_B k (f70_o_l0 G_l0) xs.1 xs.2.1 := by kernel_rfl
noncomputable def f70 (k : Nat) (a0 : Td2) (a1 : Td2) : Option (Bool × Unit) := f70_entry_B k (f70_l0 k k) a0 a1
theorem f70_fe (k : Nat) : f70_a k [.c (f70_p 1) 0] = f70_a k (.c (f70_p 2) 0 :: .c (f70_p 6) 0 :: .c (f70_p 28) 0 :: .j (fun σ => f70_a k (.j (fun σ => (f70_C_l0 k k) (cut f70_A.loops 0 σ)) :: .blk 0 :: .c (f70_p 15) 0 :: []) .nx σ) :: .c (f70_p 15) 0 :: []) := (Eq.trans ap_sq (ap_cons _ (Eq.trans ap_sq (ap_cons _ (Eq.trans ap_sq (Eq.trans ap_sq (ap_cons _ (Eq.trans (ap_bl 0) (Eq.trans (ap_j (Eq.trans (ap_lp (C := (f70_C_l0 k)) (fun _ _ => rfl)) (ap_cons _ (ap_cons _ (ap_cons _ rfl))))) (ap_cons _ (ap_cons _ rfl)))))))))))
theorem f70_eq (k : Nat) (xs : DL f70_sig) : den T f70_Y (f70_E k) f70_A k f70_c 0 (σ0 26 80 f70_sig xs) (Kfin T f70_rs f70_ts) = f70 k xs.1 xs.2.1 :=
  Eq.trans (Eq.trans den_sb (ap_at (f70_fe k) _)) ((f70_entry_P k (f70_C_l0 k k) xs).trans (by rw [f70_l0_E k k] <;> rfl))
noncomputable def f70_con (k : Nat) : Con := ⟨f70_sig, f70_rs, fun xs => f70 k xs.1 xs.2.1⟩
theorem f70_ok (k : Nat) : PureOK Try.prog 70 f70_sig f70_rs (fun xs => f70 k xs.1 xs.2.1) :=
  (pure_of_den (k := k) (A := f70_A) (T := T) (Y := f70_Y) (E := f70_E k) (M := 80) (ts := f70_ts) T_ok trivial trivial mixed (f := 70) (fn := Try.f70) (c := f70_c) (by kernel_rfl) (by kernel_rfl) (by kernel_rfl) (by decide) (by kernel_rfl)).congr fun xs => (f70_eq k xs).symm
theorem f70_ent : Ent Try.prog 70 := fun args w => by kernel_rfl
/-! ### terrier/multi.Less: function 72 -/
noncomputable def f72_c : Code := Try.f72.body.getD .skip
noncomputable abbrev f72_p (n : Nat) : Code := sb f72_c n
abbrev f72_sig : List PT := [(true, Tq0), (true, Tq0)]
abbrev f72_rs : List RT := [.d false .bool]
abbrev f72_ts : List RV := [.tmp 4]
abbrev f72_S := St → Option (RDL f72_rs)
abbrev f72_L := List (Fr (RDL f72_rs))
noncomputable def f72_Y : Tys := []
noncomputable def f72_E (k : Nat) : Env := []
noncomputable def f72_A : Ann := { regs := [(1, { slots := [(4, .bool)] })] }
noncomputable abbrev f72_a (k : Nat) (F : f72_L) : Kont (RDL f72_rs) := ap T f72_Y (f72_E k) f72_A k (Kfin T f72_rs f72_ts) F
noncomputable def f72_s_r1 (x4 : Bool) : St := mkS 17 64 [(4, aB x4)] []
abbrev f72_t_r1 := Bool → Option (Bool × Unit)
noncomputable abbrev f72_o_r1 (R : f72_S) : f72_t_r1 := (fun x4 => R (f72_s_r1 x4))
noncomputable def f72_Q_r1 (k : Nat) : f72_L := [.c (f72_p 7) 0]
noncomputable def f72_C_r1 (k : Nat) : f72_S := fun σ => f72_a k (f72_Q_r1 k) .nx σ
noncomputable def f72_F_r1 (k : Nat) : f72_L := .c (f72_p 7) 0 :: []
theorem f72_f_r1 (k : Nat) : f72_a k (f72_Q_r1 k) = f72_a k (f72_F_r1 k) := (ap_cons _ rfl)
noncomputable def f72_entry_B (k : Nat) (g_r1 : f72_t_r1) (a0 : (Int × Int)) (a1 : (Int × Int)) : Option (Bool × Unit) := (if a0.1 ≤ a1.1 then (g_r1 (decide (a0.2 ≤ a1.2))) else (g_r1 false))
noncomputable def f72_r1_B (k : Nat) (x4 : Bool) : Option (Bool × Unit) := some (decide (x4 = true), ())
theorem f72_r1_P (k : Nat) : f72_o_r1 (fun σ => f72_a k (f72_F_r1 k) .nx σ) = f72_r1_B k := by kernel_rfl
noncomputable def f72_r1 (k : Nat) : f72_t_r1 := f72_r1_B k
theorem f72_r1_E (k : Nat) : f72_o_r1 (f72_C_r1 k) = f72_r1 k :=
  Eq.trans (congrArg f72_o_r1 (ap_fn (f72_f_r1 k))) ((f72_r1_P k).trans (by rfl))
theorem f72_entry_P (k : Nat) (G_r1 : f72_S) (xs : DL f72_sig) : f72_a k (.c (f72_p 2) 0 :: .c (f72_p 6) 0 :: .j G_r1 :: f72_F_r1 k) .nx (σ0 17 64 f72_sig xs) = f72_entry_B k (f72_o_r1 G_r1) xs.1 xs.2.1 := by kernel_rfl
noncomputable def f72 (k : Nat) (a0 : (Int × Int)) (a1 : (Int × Int)) : Option (Bool × Unit) := f72_entry_B k (f72_r1 k) a0 a1
theorem f72_fe (k : Nat) : f72_a k [.c (f72_p 1) 0] = f72_a k (.c (f72_p 2) 0 :: .c (f72_p 6) 0 :: .j (f72_C_r1 k) :: f72_F_r1 k) := (Eq.trans ap_sq (ap_cons _ (Eq.trans ap_sq (ap_cons _ (Eq.trans (ap_pass (C := (f72_C_r1 k)) (fun _ => rfl)) (ap_cons _ (f72_f_r1 k)))))))
theorem f72_eq (k : Nat) (xs : DL f72_sig) : den T f72_Y (f72_E k) f72_A k f72_c 0 (σ0 17 64 f72_sig xs) (Kfin T f72_rs f72_ts) = f72 k xs.1 xs.2.1 :=
  Eq.trans (Eq.trans den_sb (ap_at (f72_fe k) _)) ((f72_entry_P k (f72_C_r1 k) xs).trans (by rw [f72_r1_E k] <;> rfl))
noncomputable def f72_con (k : Nat) : Con := ⟨f72_sig, f72_rs, fun xs => f72 k xs.1 xs.2.1⟩
theorem f72_ok (k : Nat) : PureOK Try.prog 72 f72_sig f72_rs (fun xs => f72 k xs.1 xs.2.1) :=
  (pure_of_den (k := k) (A := f72_A) (T := T) (Y := f72_Y) (E := f72_E k) (M := 64) (ts := f72_ts) T_ok trivial trivial mixed (f := 72) (fn := Try.f72) (c := f72_c) (by kernel_rfl) (by kernel_rfl) (by kernel_rfl) (by decide) (by kernel_rfl)).congr fun xs => (f72_eq k xs).symm
theorem f72_ent : Ent Try.prog 72 := fun args w => by kernel_rfl
/-! ### terrier/multi.Front$1: function 135 -/
noncomputable def f135_c : Code := Try.f135.body.getD .skip
noncomputable abbrev f135_p (n : Nat) : Code := sb f135_c n
abbrev f135_sig : List PT := [(true, Tq0), (false, (.ptr Tq0))]
abbrev f135_rs : List RT := [.d false .bool]
abbrev f135_ts : List RV := [.tmp 3]
abbrev f135_S := St → Option (RDL f135_rs)
abbrev f135_L := List (Fr (RDL f135_rs))
noncomputable def f135_Y : Tys := []
noncomputable def f135_E (k : Nat) : Env := [(72, .c (f72_con k))]
noncomputable def f135_A : Ann := { regs := [(1, { slots := [(3, .bool)] })] }
noncomputable abbrev f135_a (k : Nat) (F : f135_L) : Kont (RDL f135_rs) := ap T f135_Y (f135_E k) f135_A k (Kfin T f135_rs f135_ts) F
noncomputable def f135_s_r1 (x3 : Bool) : St := mkS 12 48 [(3, aB x3)] []
abbrev f135_t_r1 := Bool → Option (Bool × Unit)
noncomputable abbrev f135_o_r1 (R : f135_S) : f135_t_r1 := (fun x3 => R (f135_s_r1 x3))
noncomputable def f135_Q_r1 (k : Nat) : f135_L := [.c (f135_p 7) 0]
noncomputable def f135_C_r1 (k : Nat) : f135_S := fun σ => f135_a k (f135_Q_r1 k) .nx σ
noncomputable def f135_F_r1 (k : Nat) : f135_L := .c (f135_p 7) 0 :: []
theorem f135_f_r1 (k : Nat) : f135_a k (f135_Q_r1 k) = f135_a k (f135_F_r1 k) := (ap_cons _ rfl)
noncomputable def f135_entry_B (k : Nat) (g_r1 : f135_t_r1) (a0 : (Int × Int)) (a1 : (Int × Int)) : Option (Bool × Unit) := (if ¬ ((a0.1 = a1.1) ∧ (a0.2 = a1.2)) then ((f72 k (a0.1, a0.2) (a1.1, a1.2)).bind fun r1 => (g_r1 (decide (r1.1 = true)))) else (g_r1 false))
noncomputable def f135_r1_B (k : Nat) (x3 : Bool) : Option (Bool × Unit) := some (decide (x3 = true), ())
theorem f135_r1_P (k : Nat) : f135_o_r1 (fun σ => f135_a k (f135_F_r1 k) .nx σ) = f135_r1_B k := by kernel_rfl
noncomputable def f135_r1 (k : Nat) : f135_t_r1 := f135_r1_B k
theorem f135_r1_E (k : Nat) : f135_o_r1 (f135_C_r1 k) = f135_r1 k :=
  Eq.trans (congrArg f135_o_r1 (ap_fn (f135_f_r1 k))) ((f135_r1_P k).trans (by rfl))
theorem f135_entry_P (k : Nat) (G_r1 : f135_S) (xs : DL f135_sig) : f135_a k (.c (f135_p 2) 0 :: .c (f135_p 6) 0 :: .j G_r1 :: f135_F_r1 k) .nx (σ0 12 48 f135_sig xs) = f135_entry_B k (f135_o_r1 G_r1) xs.1 xs.2.1 := by kernel_rfl
noncomputable def f135 (k : Nat) (a0 : (Int × Int)) (a1 : (Int × Int)) : Option (Bool × Unit) := f135_entry_B k (f135_r1 k) a0 a1
theorem f135_fe (k : Nat) : f135_a k [.c (f135_p 1) 0] = f135_a k (.c (f135_p 2) 0 :: .c (f135_p 6) 0 :: .j (f135_C_r1 k) :: f135_F_r1 k) := (Eq.trans ap_sq (ap_cons _ (Eq.trans ap_sq (ap_cons _ (Eq.trans (ap_pass (C := (f135_C_r1 k)) (fun _ => rfl)) (ap_cons _ (f135_f_r1 k)))))))
theorem f135_eq (k : Nat) (xs : DL f135_sig) : den T f135_Y (f135_E k) f135_A k f135_c 0 (σ0 12 48 f135_sig xs) (Kfin T f135_rs f135_ts) = f135 k xs.1 xs.2.1 :=
  Eq.trans (Eq.trans den_sb (ap_at (f135_fe k) _)) ((f135_entry_P k (f135_C_r1 k) xs).trans (by rw [f135_r1_E k] <;> rfl))
noncomputable def f135_con (k : Nat) : Con := ⟨f135_sig, f135_rs, fun xs => f135 k xs.1 xs.2.1⟩
theorem f135_ok (k : Nat) : PureOK Try.prog 135 f135_sig f135_rs (fun xs => f135 k xs.1 xs.2.1) :=
  (pure_of_den (k := k) (A := f135_A) (T := T) (Y := f135_Y) (E := f135_E k) (M := 48) (ts := f135_ts) T_ok ⟨f72_ok k, trivial⟩ ⟨f72_ent, trivial⟩ mixed (f := 135) (fn := Try.f135) (c := f135_c) (by kernel_rfl) (by kernel_rfl) (by kernel_rfl) (by decide) (by kernel_rfl)).congr fun xs => (f135_eq k xs).symm
theorem f135_ent : Ent Try.prog 135 := fun args w => by kernel_rfl
/-! ### slices.IndexFunc[[][2]int,[2]int]: function 176 -/
noncomputable def f176_c : Code := Try.f176.body.getD .skip
noncomputable abbrev f176_p (n : Nat) : Code := sb f176_c n
abbrev f176_sig : List PT := [(false, Tq1), (false, Tq4)]
abbrev f176_rs : List RT := [.d false (.int .i64)]
abbrev f176_ts : List RV := [.tmp 4]
abbrev f176_S := St → Option (RDL f176_rs)
abbrev f176_L := List (Fr (RDL f176_rs))
noncomputable def f176_Y : Tys := []
noncomputable def f176_E (k : Nat) : Env := [(135, .c (f135_con k))]
noncomputable def f176_A : Ann := { loops := [(0, { slots := [(0, .val false Tq0), (1, .id), (7, .id), (8, .id)] })] }
noncomputable abbrev f176_a (k : Nat) (F : f176_L) : Kont (RDL f176_rs) := ap T f176_Y (f176_E k) f176_A k (Kfin T f176_rs f176_ts) F
noncomputable def f176_s_l0 (x0 : (List (Int × Int))) (x1 : (Int × Int)) (x7 : Int) (x8 : Int) : St := mkS 19 64 [(0, aV Tq0 x0), (1, .cp (.one (.dat Tq4 x1))), (7, aI x7), (8, aI x8)] []
abbrev f176_t_l0 := (List (Int × Int)) → (Int × Int) → Int → Int → Option (Int × Unit)
noncomputable abbrev f176_o_l0 (R : f176_S) : f176_t_l0 := (fun x0 x1 x7 x8 => R (f176_s_l0 x0 x1 x7 x8))
noncomputable def f176_Q_l0 (k : Nat) (R_l0 : f176_S) : f176_L := [.c (f176_p 52) 0, .j (fun σ => R_l0 (cut f176_A.loops 0 σ)), .blk 0, .c (f176_p 7) 0]
noncomputable def f176_C_l0 (k : Nat) (n : Nat) (σ : St) : Option (RDL f176_rs) := loopK (fun σ K => den T f176_Y (f176_E k) f176_A k (f176_p 52) 0 σ K) (cut f176_A.loops 0) (f176_a k [.blk 0, .c (f176_p 7) 0]) n σ
noncomputable def f176_F_l0 (k : Nat) (G_l0 : f176_S) : f176_L := .c (f176_p 52) 0 :: .j (fun σ => G_l0 (cut f176_A.loops 0 σ)) :: .blk 0 :: .c (f176_p 7) 0 :: []
theorem f176_f_l0 (k : Nat) (R_l0 : f176_S) : f176_a k (f176_Q_l0 k R_l0) = f176_a k (f176_F_l0 k R_l0) := (ap_cons _ (ap_cons _ (ap_cons _ (ap_cons _ rfl))))
noncomputable def f176_entry_B (k : Nat) (g_l0 : f176_t_l0) (a0 : Td2) (a1 : (Int × Int)) : Option (Int × Unit) := (g_l0 a0 a1 (a0.length : Int) 0)
noncomputable def f176_l0_B (k : Nat) (g_l0 : f176_t_l0) (x0 : (List (Int × Int))) (x1 : (Int × Int)) (x7 : Int) (x8 : Int) : Option (Int × Unit) := (if x8 < x7 then (if 0 ≤ x8 then (if x8 < (x0.length : Int) then ((f135 k ((x0.getD (x8).toNat (0, 0)).1, (x0.getD (x8).toNat (0, 0)).2) x1).bind fun r1 => (if r1.1 = true then some (x8, ()) else (g_l0 x0 x1 x7 (w64 (x8 + 1))))) else none) else none) else some ((-1), ()))
theorem f176_l0_P (k : Nat) (G_l0 : f176_S) : f176_o_l0 (fun σ => f176_a k (f176_F_l0 k G_l0) .nx σ) = f176_l0_B k (f176_o_l0 G_l0) := by kernel_rfl
noncomputable def f176_l0 (k : Nat) : Nat → f176_t_l0
  | 0 => fun _ _ _ _ => none
  | n + 1 => f176_l0_B k (f176_l0 k n)
theorem f176_l0_E (k : Nat) : ∀ n, f176_o_l0 (f176_C_l0 k n) = f176_l0 k n
  | 0 => rfl
  | n + 1 =>
    Eq.trans (congrArg f176_o_l0 (Eq.trans (b := fun σ => f176_a k (f176_Q_l0 k (f176_C_l0 k n)) .nx σ) lp_step (ap_fn (f176_f_l0 k (f176_C_l0 k n))))) ((f176_l0_P k (f176_C_l0 k n)).trans (by rw [f176_l0_E k n] <;> rfl))
theorem f176_entry_P (k : Nat) (G_l0 : f176_S) (xs : DL f176_sig) : f176_a k (.c (f176_p 2) 0 :: .c (f176_p 12) 0 :: .j (fun σ => f176_a k (.j (fun σ => G_l0 (cut f176_A.loops 0 σ)) :: .blk 0 :: .c (f176_p 7) 0 :: []) .nx σ) :: .c (f176_p 7) 0 :: []) .nx (σ0 19 64 f176_sig xs) = f176_entry_B k (f176_o_l0 G_l0) xs.1 xs.2.1 := by kernel_rfl
noncomputable def f176 (k : Nat) (a0 : Td2) (a1 : (Int × Int)) : Option (Int × Unit) := f176_entry_B k (f176_l0 k k) a0 a1
theorem f176_fe (k : Nat) : f176_a k [.c (f176_p 1) 0] = f176_a k (.c (f176_p 2) 0 :: .c (f176_p 12) 0 :: .j (fun σ => f176_a k (.j (fun σ => (f176_C_l0 k k) (cut f176_A.loops 0 σ)) :: .blk 0 :: .c (f176_p 7) 0 :: []) .nx σ) :: .c (f176_p 7) 0 :: []) := (Eq.trans ap_sq (ap_cons _ (Eq.trans ap_sq (Eq.trans ap_sq (ap_cons _ (Eq.trans (ap_bl 0) (Eq.trans (ap_j (Eq.trans (ap_lp (C := (f176_C_l0 k)) (fun _ _ => rfl)) (ap_cons _ (ap_cons _ (ap_cons _ rfl))))) (ap_cons _ (ap_cons _ rfl)))))))))
theorem f176_eq (k : Nat) (xs : DL f176_sig) : den T f176_Y (f176_E k) f176_A k f176_c 0 (σ0 19 64 f176_sig xs) (Kfin T f176_rs f176_ts) = f176 k xs.1 xs.2.1 :=
  Eq.trans (Eq.trans den_sb (ap_at (f176_fe k) _)) ((f176_entry_P k (f176_C_l0 k k) xs).trans (by rw [f176_l0_E k k] <;> rfl))
noncomputable def f176_con (k : Nat) : Con := ⟨f176_sig, f176_rs, fun xs => f176 k xs.1 xs.2.1⟩
theorem f176_ok (k : Nat) : PureOK Try.prog 176 f176_sig f176_rs (fun xs => f176 k xs.1 xs.2.1) :=
  (pure_of_den (k := k) (A := f176_A) (T := T) (Y := f176_Y) (E := f176_E k) (M := 64) (ts := f176_ts) T_ok ⟨f135_ok k, trivial⟩ ⟨f135_ent, trivial⟩ mixed (f := 176) (fn := Try.f176) (c := f176_c) (by kernel_rfl) (by kernel_rfl) (by kernel_rfl) (by decide) (by kernel_rfl)).congr fun xs => (f176_eq k xs).symm
theorem f176_ent : Ent Try.prog 176 := fun args w => by kernel_rfl
/-! ### slices.ContainsFunc[[][2]int,[2]int]: function 134 -/
noncomputable def f134_c : Code := Try.f134.body.getD .skip
noncomputable abbrev f134_p (n : Nat) : Code := sb f134_c n
abbrev f134_sig : List PT := [(false, Tq1), (false, Tq4)]
abbrev f134_rs : List RT := [.d false .bool]
abbrev f134_ts : List RV := [.tmp 4]
abbrev f134_S := St → Option (RDL f134_rs)
abbrev f134_L := List (Fr (RDL f134_rs))
noncomputable def f134_Y : Tys := []
noncomputable def f134_E (k : Nat) : Env := [(176, .c (f176_con k))]
noncomputable def f134_A : Ann := {}
noncomputable abbrev f134_a (k : Nat) (F : f134_L) : Kont (RDL f134_rs) := ap T f134_Y (f134_E k) f134_A k (Kfin T f134_rs f134_ts) F
noncomputable def f134_entry_B (k : Nat) (a0 : Td2) (a1 : (Int × Int)) : Option (Bool × Unit) := ((f176 k a0 a1).bind fun r1 => some (decide (0 ≤ r1.1), ()))
theorem f134_entry_P (k : Nat) (xs : DL f134_sig) : f134_a k (.c (f134_p 1) 0 :: []) .nx (σ0 9 32 f134_sig xs) = f134_entry_B k xs.1 xs.2.1 := by kernel_rfl
noncomputable def f134 (k : Nat) (a0 : Td2) (a1 : (Int × Int)) : Option (Bool × Unit) := f134_entry_B k a0 a1
theorem f134_eq (k : Nat) (xs : DL f134_sig) : den T f134_Y (f134_E k) f134_A k f134_c 0 (σ0 9 32 f134_sig xs) (Kfin T f134_rs f134_ts) = f134 k xs.1 xs.2.1 :=
  Eq.trans (Eq.trans den_sb (ap_at (ap_cons _ rfl) _)) ((f134_entry_P k xs).trans (by rfl))
noncomputable def f134_con (k : Nat) : Con := ⟨f134_sig, f134_rs, fun xs => f134 k xs.1 xs.2.1⟩
theorem f134_ok (k : Nat) : PureOK Try.prog 134 f134_sig f134_rs (fun xs => f134 k xs.1 xs.2.1) :=
  (pure_of_den (k := k) (A := f134_A) (T := T) (Y := f134_Y) (E := f134_E k) (M := 32) (ts := f134_ts) T_ok ⟨f176_ok k, trivial⟩ ⟨f176_ent, trivial⟩ mixed (f := 134) (fn := Try.f134) (c := f134_c) (by kernel_rfl) (by kernel_rfl) (by kernel_rfl) (by decide) (by kernel_rfl)).congr fun xs => (f134_eq k xs).symm
theorem f134_ent : Ent Try.prog 134 := fun args w => by kernel_rfl
/-! ### slices.Compact[[][2]int,[2]int]: function 137 -/
noncomputable def f137_c : Code := Try.f137.body.getD .skip
noncomputable abbrev f137_p (n : Nat) : Code := sb f137_c n
abbrev f137_sig : List PT := []
abbrev f137_rs : List RT := []
abbrev f137_ts : List RV := [.tmp 2]
abbrev f137_ls : List LO := [.row Tq0]
abbrev f137_S := St → Option (LOD f137_ls × RDL f137_rs)
abbrev f137_L := List (Fr (LOD f137_ls × RDL f137_rs))
noncomputable def f137_Y : Tys := [(1000059, Tq0)]
noncomputable def f137_E (k : Nat) : Env := []
noncomputable def f137_A : Ann := { loops := [(0, { slots := [(0, .id), (3, .id)], keys := [(0, [])] }), (2, { slots := [(0, .id), (3, .id), (4, .id), (5, .id)], keys := [(0, [])] })], conds := [(7, { slots := [(0, .id), (3, .id)], keys := [(0, [])] }), (12, { slots := [(0, .id), (3, .id), (4, .id), (5, .id)], keys := [(0, [])] })] }
noncomputable abbrev f137_a (k : Nat) (F : f137_L) : Kont (LOD f137_ls × RDL f137_rs) := ap T f137_Y (f137_E k) f137_A k (KfinB T false f137_ls f137_rs f137_ts) F
noncomputable def f137_s_l0 (y0 : (List (Int × Int))) (x3 : Int) : St := mkS 61 192 [(0, aO 0), (3, aI x3)] [(0, .vec Tq0 y0)]
abbrev f137_t_l0 := (List (Int × Int)) → Int → Option (((List (Int × Int)) × Unit) × (Unit))
noncomputable abbrev f137_o_l0 (R : f137_S) : f137_t_l0 := (fun y0 x3 => R (f137_s_l0 y0 x3))
noncomputable def f137_Q_l0 (k : Nat) (R_l0 : f137_S) : f137_L := [.c (f137_p 116) 0, .j (fun σ => R_l0 (cut f137_A.loops 0 σ)), .blk 0, .c (f137_p 15) 0]
noncomputable def f137_C_l0 (k : Nat) (n : Nat) (σ : St) : Option (LOD f137_ls × RDL f137_rs) := loopK (fun σ K => den T f137_Y (f137_E k) f137_A k (f137_p 116) 0 σ K) (cut f137_A.loops 0) (f137_a k [.blk 0, .c (f137_p 15) 0]) n σ
noncomputable def f137_s_l2 (y0 : (List (Int × Int))) (x3 : Int) (x4_lo : Nat) (x4_n : Nat) (x5 : Int) : St := mkS 61 192 [(0, aO 0), (3, aI x3), (4, .cp (.one (.part 0 2 x4_lo x4_n))), (5, aI x5)] [(0, .vec Tq0 y0)]
abbrev f137_t_l2 := (List (Int × Int)) → Int → Nat → Nat → Int → Option (((List (Int × Int)) × Unit) × (Unit))
noncomputable abbrev f137_o_l2 (R : f137_S) : f137_t_l2 := (fun y0 x3 x4_lo x4_n x5 => R (f137_s_l2 y0 x3 x4_lo x4_n x5))
noncomputable def f137_Q_l2 (k : Nat) (R_l0 R_l2 : f137_S) : f137_L := [.c (f137_p 119380) 2, .j (fun σ => R_l2 (cut f137_A.loops 2 σ)), .blk 2, .c (f137_p 14923) 1, .cond 7, .blk 1, .c (f137_p 467) 0, .j (fun σ => R_l0 (cut f137_A.loops 0 σ)), .blk 0, .c (f137_p 15) 0]
noncomputable def f137_C_l2 (k : Nat) (R_l0 : f137_S) (n : Nat) (σ : St) : Option (LOD f137_ls × RDL f137_rs) := loopK (fun σ K => den T f137_Y (f137_E k) f137_A k (f137_p 119380) 2 σ K) (cut f137_A.loops 2) (f137_a k [.blk 2, .c (f137_p 14923) 1, .cond 7, .blk 1, .c (f137_p 467) 0, .j (fun σ => R_l0 (cut f137_A.loops 0 σ)), .blk 0, .c (f137_p 15) 0]) n σ
noncomputable def f137_s_c7 (y0 : (List (Int × Int))) (x3 : Int) : St := mkS 61 192 [(0, aO 0), (3, aI x3)] [(0, .vec Tq0 y0)]
abbrev f137_t_c7 := (List (Int × Int)) → Int → Option (((List (Int × Int)) × Unit) × (Unit))
noncomputable abbrev f137_o_c7 (R : f137_S) : f137_t_c7 := (fun y0 x3 => R (f137_s_c7 y0 x3))
noncomputable def f137_Q_c7 (k : Nat) (R_l0 : f137_S) : f137_L := [.blk 1, .c (f137_p 467) 0, .j (fun σ => R_l0 (cut f137_A.loops 0 σ)), .blk 0, .c (f137_p 15) 0]
noncomputable def f137_C_c7 (k : Nat) (R_l0 : f137_S) : f137_S := fun σ => f137_a k (f137_Q_c7 k R_l0) .nx σ
noncomputable def f137_s_c12 (y0 : (List (Int × Int))) (x3 : Int) (x4_lo : Nat) (x4_n : Nat) (x5 : Int) : St := mkS 61 192 [(0, aO 0), (3, aI x3), (4, .cp (.one (.part 0 2 x4_lo x4_n))), (5, aI x5)] [(0, .vec Tq0 y0)]
abbrev f137_t_c12 := (List (Int × Int)) → Int → Nat → Nat → Int → Option (((List (Int × Int)) × Unit) × (Unit))
noncomputable abbrev f137_o_c12 (R : f137_S) : f137_t_c12 := (fun y0 x3 x4_lo x4_n x5 => R (f137_s_c12 y0 x3 x4_lo x4_n x5))
noncomputable def f137_Q_c12 (k : Nat) (R_l2 R_l0 : f137_S) : f137_L := [.blk 3, .c (f137_p 477523) 2, .j (fun σ => R_l2 (cut f137_A.loops 2 σ)), .blk 2, .c (f137_p 14923) 1, .cond 7, .blk 1, .c (f137_p 467) 0, .j (fun σ => R_l0 (cut f137_A.loops 0 σ)), .blk 0, .c (f137_p 15) 0]
noncomputable def f137_C_c12 (k : Nat) (R_l2 R_l0 : f137_S) : f137_S := fun σ => f137_a k (f137_Q_c12 k R_l2 R_l0) .nx σ
noncomputable def f137_F_c7 (k : Nat) (G_l0 : f137_S) : f137_L := .blk 1 :: .c (f137_p 467) 0 :: .j (fun σ => G_l0 (cut f137_A.loops 0 σ)) :: .blk 0 :: .c (f137_p 15) 0 :: []
theorem f137_f_c7 (k : Nat) (R_l0 : f137_S) : f137_a k (f137_Q_c7 k R_l0) = f137_a k (f137_F_c7 k R_l0) := (ap_cons _ (ap_cons _ (ap_cons _ (ap_cons _ (ap_cons _ rfl)))))
noncomputable def f137_F_l0 (k : Nat) (G_l0 G_l2 G_c7 : f137_S) : f137_L := .c (f137_p 232) 0 :: .j (fun σ => f137_a k (.c (f137_p 1864) 1 :: .i (.tmp 25) (fun σ => f137_a k (.c (f137_p 7460) 1 :: .c (f137_p 29844) 1 :: .j (fun σ => f137_a k (.j (fun σ => G_l2 (cut f137_A.loops 2 σ)) :: .blk 2 :: .c (f137_p 14923) 1 :: .j (fun σ => G_c7 (cut f137_A.conds 7 σ)) :: f137_F_c7 k G_l0) .nx σ) :: .c (f137_p 14923) 1 :: .j (fun σ => G_c7 (cut f137_A.conds 7 σ)) :: f137_F_c7 k G_l0) .nx σ) (fun σ => f137_a k (.c (f137_p 3731) 1 :: .j (fun σ => G_c7 (cut f137_A.conds 7 σ)) :: f137_F_c7 k G_l0) .nx σ) :: f137_F_c7 k G_l0) .nx σ) :: .c (f137_p 467) 0 :: .j (fun σ => G_l0 (cut f137_A.loops 0 σ)) :: .blk 0 :: .c (f137_p 15) 0 :: []
theorem f137_f_l0 (k : Nat) (R_l0 : f137_S) : f137_a k (f137_Q_l0 k R_l0) = f137_a k (f137_F_l0 k R_l0 (f137_C_l2 k R_l0 k) (f137_C_c7 k R_l0)) := (Eq.trans ap_sq (ap_cons _ (Eq.trans ap_sq (Eq.trans (ap_bl 1) (Eq.trans (ap_j (Eq.trans ap_sq (ap_cons _ (Eq.trans (ap_cn (.tmp 25) 7) (Eq.trans (ap_i (Eq.trans ap_sq (ap_cons _ (Eq.trans ap_sq (Eq.trans ap_sq (ap_cons _ (Eq.trans (ap_bl 2) (Eq.trans (ap_j (Eq.trans (ap_lp (C := (f137_C_l2 k R_l0)) (fun _ _ => rfl)) (ap_cons _ (ap_cons _ (ap_cons _ (Eq.trans (ap_condj (C := (f137_C_c7 k R_l0)) (fun _ => rfl)) (ap_cons _ (f137_f_c7 k R_l0)))))))) (ap_cons _ (ap_cons _ (Eq.trans (ap_condj (C := (f137_C_c7 k R_l0)) (fun _ => rfl)) (ap_cons _ (f137_f_c7 k R_l0)))))))))))) (ap_cons _ (Eq.trans (ap_condj (C := (f137_C_c7 k R_l0)) (fun _ => rfl)) (ap_cons _ (f137_f_c7 k R_l0))))) (ap_cons _ (f137_f_c7 k R_l0))))))) (ap_cons _ (ap_cons _ (ap_cons _ (ap_cons _ (ap_cons _ rfl))))))))))
noncomputable def f137_F_c12 (k : Nat) (G_l0 G_l2 G_c7 : f137_S) : f137_L := .blk 3 :: .c (f137_p 477523) 2 :: .j (fun σ => G_l2 (cut f137_A.loops 2 σ)) :: .blk 2 :: .c (f137_p 14923) 1 :: .j (fun σ => G_c7 (cut f137_A.conds 7 σ)) :: f137_F_c7 k G_l0
theorem f137_f_c12 (k : Nat) (R_l2 R_l0 : f137_S) : f137_a k (f137_Q_c12 k R_l2 R_l0) = f137_a k (f137_F_c12 k R_l0 R_l2 (f137_C_c7 k R_l0)) := (ap_cons _ (ap_cons _ (ap_cons _ (ap_cons _ (ap_cons _ (Eq.trans (ap_condj (C := (f137_C_c7 k R_l0)) (fun _ => rfl)) (ap_cons _ (f137_f_c7 k R_l0))))))))
noncomputable def f137_F_l2 (k : Nat) (G_l0 G_l2 G_c7 G_c12 : f137_S) : f137_L := .c (f137_p 238760) 2 :: .j (fun σ => f137_a k (.c (f137_p 1910088) 3 :: .c (f137_p 1910089) 3 :: .j G_c12 :: f137_F_c12 k G_l0 G_l2 G_c7) .nx σ) :: .c (f137_p 477523) 2 :: .j (fun σ => G_l2 (cut f137_A.loops 2 σ)) :: .blk 2 :: .c (f137_p 14923) 1 :: .j (fun σ => G_c7 (cut f137_A.conds 7 σ)) :: f137_F_c7 k G_l0
theorem f137_f_l2 (k : Nat) (R_l0 R_l2 : f137_S) : f137_a k (f137_Q_l2 k R_l0 R_l2) = f137_a k (f137_F_l2 k R_l0 R_l2 (f137_C_c7 k R_l0) (f137_C_c12 k R_l2 R_l0)) := (Eq.trans ap_sq (ap_cons _ (Eq.trans ap_sq (Eq.trans (ap_bl 3) (Eq.trans (ap_j (Eq.trans ap_sq (ap_cons _ (ap_cons _ (Eq.trans (ap_pass (C := (f137_C_c12 k R_l2 R_l0)) (fun _ => rfl)) (ap_cons _ (f137_f_c12 k R_l2 R_l0))))))) (ap_cons _ (ap_cons _ (ap_cons _ (ap_cons _ (ap_cons _ (Eq.trans (ap_condj (C := (f137_C_c7 k R_l0)) (fun _ => rfl)) (ap_cons _ (f137_f_c7 k R_l0)))))))))))))
noncomputable def f137_entry_B (k : Nat) (g_l0 : f137_t_l0) (a : Td2) : Option (((List (Int × Int)) × Unit) × (Unit)) := (if (a.length : Int) < 2 then some ((a, ()), (())) else (g_l0 a 1))
noncomputable def f137_l0_B (k : Nat) (g_l2 : f137_t_l2) (g_c7 : f137_t_c7) (y0 : (List (Int × Int))) (x3 : Int) : Option (((List (Int × Int)) × Unit) × (Unit)) := (if x3 < (y0.length : Int) then (if 0 ≤ x3 then (if x3 < (y0.length : Int) then (if 0 ≤ (w64 (x3 - 1)) then (if (w64 (x3 - 1)) < (y0.length : Int) then (if (((y0.getD ((x3).toNat) (0, 0)).1) = ((y0.getD ((w64 (x3 - 1)).toNat) (0, 0)).1)) ∧ (((y0.getD ((x3).toNat) (0, 0)).2) = ((y0.getD ((w64 (x3 - 1)).toNat) (0, 0)).2)) then (if 0 ≤ x3 then (if x3 ≤ (y0.length : Int) then (g_l2 y0 x3 ((x3).toNat) ((y0.length : Int).toNat - (x3).toNat) 1) else none) else none) else (g_c7 y0 x3)) else none) else none) else none) else none) else some ((y0, ()), (())))
noncomputable def f137_l2_B (k : Nat) (g_c12 : f137_t_c12) (y0 : (List (Int × Int))) (x3 : Int) (x4_lo : Nat) (x4_n : Nat) (x5 : Int) : Option (((List (Int × Int)) × Unit) × (Unit)) := (if x5 < (x4_n : Int) then (if 0 ≤ x5 then (if x5 < (x4_n : Int) then (if 0 ≤ (w64 (x5 - 1)) then (if (w64 (x5 - 1)) < (x4_n : Int) then (if ¬ ((((y0.getD (x4_lo + (x5).toNat) (0, 0)).1) = ((y0.getD (x4_lo + (w64 (x5 - 1)).toNat) (0, 0)).1)) ∧ (((y0.getD (x4_lo + (x5).toNat) (0, 0)).2) = ((y0.getD (x4_lo + (w64 (x5 - 1)).toNat) (0, 0)).2))) then (if 0 ≤ x5 then (if x5 < (x4_n : Int) then (if 0 ≤ x3 then (if x3 < (y0.length : Int) then (g_c12 (y0.set ((x3).toNat) ((y0.getD (x4_lo + (x5).toNat) (0, 0)).1, (y0.getD (x4_lo + (x5).toNat) (0, 0)).2)) (w64 (x3 + 1)) x4_lo x4_n x5) else none) else none) else none) else none) else (g_c12 y0 x3 x4_lo x4_n x5)) else none) else none) else none) else none) else (if 0 ≤ x3 then (if x3 ≤ (y0.length : Int) then (if 0 ≤ x3 then (if x3 ≤ ((clrL y0 ((0, 0) : (Int × Int)) ((x3).toNat) ((y0.length : Int).toNat - (x3).toNat)).length : Int) then some ((((clrL y0 ((0, 0) : (Int × Int)) ((x3).toNat) ((y0.length : Int).toNat - (x3).toNat)).take (x3).toNat), ()), (())) else none) else none) else none) else none))
noncomputable def f137_c7_B (k : Nat) (g_l0 : f137_t_l0) (y0 : (List (Int × Int))) (x3 : Int) : Option (((List (Int × Int)) × Unit) × (Unit)) := (g_l0 y0 (w64 (x3 + 1)))
noncomputable def f137_c12_B (k : Nat) (g_l2 : f137_t_l2) (y0 : (List (Int × Int))) (x3 : Int) (x4_lo : Nat) (x4_n : Nat) (x5 : Int) : Option (((List (Int × Int)) × Unit) × (Unit)) := (g_l2 y0 x3 x4_lo x4_n (w64 (x5 + 1)))
theorem f137_c12_P (k : Nat) (G_l0 G_l2 G_c7 : f137_S) : f137_o_c12 (fun σ => f137_a k (f137_F_c12 k G_l0 G_l2 G_c7) .nx σ) = f137_c12_B k (f137_o_l2 G_l2) := by kernel_rfl
noncomputable def f137_c12 (k : Nat) (r_l2 : f137_t_l2) (r_l0 : f137_t_l0) : f137_t_c12 := f137_c12_B k r_l2
theorem f137_c12_E (k : Nat) (R_l2 R_l0 : f137_S) : f137_o_c12 (f137_C_c12 k R_l2 R_l0) = f137_c12 k (f137_o_l2 R_l2) (f137_o_l0 R_l0) :=
  Eq.trans (congrArg f137_o_c12 (ap_fn (f137_f_c12 k R_l2 R_l0))) ((f137_c12_P k R_l0 R_l2 (f137_C_c7 k R_l0)).trans (by rfl))
theorem f137_l2_P (k : Nat) (G_l0 G_l2 G_c7 G_c12 : f137_S) : f137_o_l2 (fun σ => f137_a k (f137_F_l2 k G_l0 G_l2 G_c7 G_c12) .nx σ) = f137_l2_B k (f137_o_c12 G_c12) := by kernel_rfl
noncomputable def f137_l2 (k : Nat) (r_l0 : f137_t_l0) : Nat → f137_t_l2
  | 0 => fun _ _ _ _ _ => none
  | n + 1 => f137_l2_B k (f137_c12 k (f137_l2 k r_l0 n) r_l0)
theorem f137_l2_E (k : Nat) (R_l0 : f137_S) : ∀ n, f137_o_l2 (f137_C_l2 k R_l0 n) = f137_l2 k (f137_o_l0 R_l0) n
  | 0 => rfl
  | n + 1 =>
    Eq.trans (congrArg f137_o_l2 (Eq.trans (b := fun σ => f137_a k (f137_Q_l2 k R_l0 (f137_C_l2 k R_l0 n)) .nx σ) lp_step (ap_fn (f137_f_l2 k R_l0 (f137_C_l2 k R_l0 n))))) ((f137_l2_P k R_l0 (f137_C_l2 k R_l0 n) (f137_C_c7 k R_l0) (f137_C_c12 k (f137_C_l2 k R_l0 n) R_l0)).trans (by rw [f137_c12_E k (f137_C_l2 k R_l0 n) R_l0, f137_l2_E k R_l0 n] <;> rfl))
theorem f137_c7_P (k : Nat) (G_l0 : f137_S) : f137_o_c7 (fun σ => f137_a k (f137_F_c7 k G_l0) .nx σ) = f137_c7_B k (f137_o_l0 G_l0) := by kernel_rfl
noncomputable def f137_c7 (k : Nat) (r_l0 : f137_t_l0) : f137_t_c7 := f137_c7_B k r_l0
theorem f137_c7_E (k : Nat) (R_l0 : f137_S) : f137_o_c7 (f137_C_c7 k R_l0) = f137_c7 k (f137_o_l0 R_l0) :=
  Eq.trans (congrArg f137_o_c7 (ap_fn (f137_f_c7 k R_l0))) ((f137_c7_P k R_l0).trans (by rfl))
theorem f137_l0_P (k : Nat) (G_l0 G_l2 G_c7 : f137_S) : f137_o_l0 (fun σ => f137_a k (f137_F_l0 k G_l0 G_l2 G_c7) .nx σ) = f137_l0_B k (f137_o_l2 G_l2) (f137_o_c7 G_c7) := by kernel_rfl
noncomputable def f137_l0 (k : Nat) : Nat → f137_t_l0
  | 0 => fun _ _ => none
  | n + 1 => f137_l0_B k (f137_l2 k (f137_l0 k n) k) (f137_c7 k (f137_l0 k n))
theorem f137_l0_E (k : Nat) : ∀ n, f137_o_l0 (f137_C_l0 k n) = f137_l0 k n
  | 0 => rfl
  | n + 1 =>
    Eq.trans (congrArg f137_o_l0 (Eq.trans (b := fun σ => f137_a k (f137_Q_l0 k (f137_C_l0 k n)) .nx σ) lp_step (ap_fn (f137_f_l0 k (f137_C_l0 k n))))) ((f137_l0_P k (f137_C_l0 k n) (f137_C_l2 k (f137_C_l0 k n) k) (f137_C_c7 k (f137_C_l0 k n))).trans (by rw [f137_l2_E k (f137_C_l0 k n) k, f137_c7_E k (f137_C_l0 k n), f137_l0_E k n] <;> rfl))
theorem f137_entry_P (k : Nat) (G_l0 : f137_S) (x : LOD f137_ls) (xs : DL f137_sig) : f137_a k (.c (f137_p 2) 0 :: .c (f137_p 6) 0 :: .c (f137_p 28) 0 :: .j (fun σ => f137_a k (.j (fun σ => G_l0 (cut f137_A.loops 0 σ)) :: .blk 0 :: .c (f137_p 15) 0 :: []) .nx σ) :: .c (f137_p 15) 0 :: []) .nx (σ0B 61 192 0 f137_ls x f137_sig xs) = f137_entry_B k (f137_o_l0 G_l0) x.1 := by kernel_rfl
noncomputable def f137 (k : Nat) (a : Td2) : Option (((List (Int × Int)) × Unit) × (Unit)) := f137_entry_B k (f137_l0 k k) a
theorem f137_fe (k : Nat) : f137_a k [.c (f137_p 1) 0] = f137_a k (.c (f137_p 2) 0 :: .c (f137_p 6) 0 :: .c (f137_p 28) 0 :: .j (fun σ => f137_a k (.j (fun σ => (f137_C_l0 k k) (cut f137_A.loops 0 σ)) :: .blk 0 :: .c (f137_p 15) 0 :: []) .nx σ) :: .c (f137_p 15) 0 :: []) := (Eq.trans ap_sq (ap_cons _ (Eq.trans ap_sq (ap_cons _ (Eq.trans ap_sq (Eq.trans ap_sq (ap_cons _ (Eq.trans (ap_bl 0) (Eq.trans (ap_j (Eq.trans (ap_lp (C := (f137_C_l0 k)) (fun _ _ => rfl)) (ap_cons _ (ap_cons _ (ap_cons _ rfl))))) (ap_cons _ (ap_cons _ rfl)))))))))))
theorem f137_eq (k : Nat) (x : LOD f137_ls) (xs : DL f137_sig) : den T f137_Y (f137_E k) f137_A k f137_c 0 (σ0B 61 192 0 f137_ls x f137_sig xs) (KfinB T false f137_ls f137_rs f137_ts) = f137 k x.1 :=
  Eq.trans (Eq.trans den_sb (ap_at (f137_fe k) _)) ((f137_entry_P k (f137_C_l0 k k) x xs).trans (by rw [f137_l0_E k k] <;> rfl))
noncomputable def f137_con (k : Nat) : BCon := ⟨0, false, f137_ls, f137_sig, f137_rs, fun x xs => f137 k x.1⟩
theorem f137_ok (k : Nat) : BoxOK Try.prog 137 0 false f137_ls f137_sig f137_rs (fun x xs => f137 k x.1) :=
  (box_of_den (k := k) (A := f137_A) (T := T) (Y := f137_Y) (E := f137_E k) (M := 192) (ts := f137_ts) T_ok trivial trivial mixed (f := 137) (fn := Try.f137) (c := f137_c) (by kernel_rfl) (by kernel_rfl) (by kernel_rfl) (by decide) (by kernel_rfl) (by decide)).congr fun x xs => (f137_eq k x xs).symm
theorem f137_ent : Ent Try.prog 137 := fun args w => by kernel_rfl
/-! ### terrier/multi.Front$2: function 136 -/
noncomputable def f136_c : Code := Try.f136.body.getD .skip
noncomputable abbrev f136_p (n : Nat) : Code := sb f136_c n
abbrev f136_sig : List PT := [(true, Tq0), (true, Tq0)]
abbrev f136_rs : List RT := [.d false (.int .i64)]
abbrev f136_ts : List RV := [.tmp 4]
abbrev f136_S := St → Option (RDL f136_rs)
abbrev f136_L := List (Fr (RDL f136_rs))
noncomputable def f136_Y : Tys := [(78, Tq0)]
noncomputable def f136_E (k : Nat) : Env := [(68, .c (f68_con k))]
noncomputable def f136_A : Ann := {}
noncomputable abbrev f136_a (k : Nat) (F : f136_L) : Kont (RDL f136_rs) := ap T f136_Y (f136_E k) f136_A k (Kfin T f136_rs f136_ts) F
noncomputable def f136_entry_B (k : Nat) (a0 : (Int × Int)) (a1 : (Int × Int)) : Option (Int × Unit) := ((f68 k ([a0.1, a0.2]) ([a1.1, a1.2])).bind fun r1 => some (r1.1, ()))
theorem f136_entry_P (k : Nat) (xs : DL f136_sig) : f136_a k (.c (f136_p 1) 0 :: []) .nx (σ0 8 32 f136_sig xs) = f136_entry_B k xs.1 xs.2.1 := by kernel_rfl
noncomputable def f136 (k : Nat) (a0 : (Int × Int)) (a1 : (Int × Int)) : Option (Int × Unit) := f136_entry_B k a0 a1
theorem f136_eq (k : Nat) (xs : DL f136_sig) : den T f136_Y (f136_E k) f136_A k f136_c 0 (σ0 8 32 f136_sig xs) (Kfin T f136_rs f136_ts) = f136 k xs.1 xs.2.1 :=
  Eq.trans (Eq.trans den_sb (ap_at (ap_cons _ rfl) _)) ((f136_entry_P k xs).trans (by rfl))
noncomputable def f136_con (k : Nat) : Con := ⟨f136_sig, f136_rs, fun xs => f136 k xs.1 xs.2.1⟩
theorem f136_ok (k : Nat) : PureOK Try.prog 136 f136_sig f136_rs (fun xs => f136 k xs.1 xs.2.1) :=
  (pure_of_den (k := k) (A := f136_A) (T := T) (Y := f136_Y) (E := f136_E k) (M := 32) (ts := f136_ts) T_ok ⟨f68_ok k, trivial⟩ ⟨f68_ent, trivial⟩ mixed (f := 136) (fn := Try.f136) (c := f136_c) (by kernel_rfl) (by kernel_rfl) (by kernel_rfl) (by decide) (by kernel_rfl)).congr fun xs => (f136_eq k xs).symm
theorem f136_ent : Ent Try.prog 136 := fun args w => by kernel_rfl
/-! ### slices.SortFunc[[][2]int,[2]int]: function 66, off the shelf -/
abbrev f66v1_sig : List PT := [(false, .fn 136)]
abbrev f66v1_rs : List RT := []
abbrev f66v1_ls : List LO := [.row Tq0]
noncomputable def f66v1 (k : Nat) (a : (List (Int × Int))) (a0 : Unit) : Option (((List (Int × Int)) × Unit) × Unit) := sortK (e := Tq0) (fun x y => f136 k x y) a
noncomputable def f66v1_con (k : Nat) : BCon := ⟨0, true, f66v1_ls, f66v1_sig, f66v1_rs, fun x xs => f66v1 k x.1 xs.1⟩
theorem f66v1_ok (k : Nat) : BoxOK Try.prog 66 0 true f66v1_ls f66v1_sig f66v1_rs (fun x xs => f66v1 k x.1 xs.1) := sortK_box (e := Tq0) (f := fun x y => f136 k x y) Try.laysF66 rfl (fun w => by kernel_rfl) (fun w => by kernel_rfl) (f136_ok k) f136_ent
theorem f66v1_ent : Ent Try.prog 66 := fun args w => by kernel_rfl
/-! ### terrier/multi.Front: function 71 -/
noncomputable def f71_c : Code := Try.f71.body.getD .skip
noncomputable abbrev f71_p (n : Nat) : Code := sb f71_c n
abbrev f71_sig : List PT := [(false, Tq1)]
abbrev f71_rs : List RT := [.new Tq0]
abbrev f71_ts : List RV := [.tmp 2]
abbrev f71_S := St → Option (RDL f71_rs)
abbrev f71_L := List (Fr (RDL f71_rs))
noncomputable def f71_Y : Tys := [(78, Tq0)]
noncomputable def f71_E (k : Nat) : Env := [(134, .c (f134_con k)), (137, .b (f137_con k)), (66, .b (f66v1_con k))]
noncomputable def f71_A : Ann := { loops := [(0, { mat := [(3, 19, Tq0)], slots := [(0, .val false Tq0), (3, .id), (6, .val false Tq0), (7, .id), (8, .id)], keys := [(19, [])] })], conds := [(6, { mat := [(3, 19, Tq0)], slots := [(0, .val false Tq0), (3, .id), (6, .val false Tq0), (7, .id), (8, .id)], keys := [(19, [])] })] }
noncomputable abbrev f71_a (k : Nat) (F : f71_L) : Kont (RDL f71_rs) := ap T f71_Y (f71_E k) f71_A k (Kfin T f71_rs f71_ts) F
noncomputable def f71_s_l0 (y19 : (List (Int × Int))) (x0 : (List (Int × Int))) (x7 : Int) (x8 : Int) : St := mkS 25 80 [(0, aV Tq0 x0), (3, aO 19), (6, aV Tq0 x0), (7, aI x7), (8, aI x8)] [(19, .vec Tq0 y19)]
abbrev f71_t_l0 := (List (Int × Int)) → (List (Int × Int)) → Int → Int → Option ((List (Int × Int)) × Unit)
noncomputable abbrev f71_o_l0 (R : f71_S) : f71_t_l0 := (fun y19 x0 x7 x8 => R (f71_s_l0 y19 x0 x7 x8))
noncomputable def f71_Q_l0 (k : Nat) (R_l0 : f71_S) : f71_L := [.c (f71_p 116) 0, .j (fun σ => R_l0 (cut f71_A.loops 0 σ)), .blk 0, .c (f71_p 15) 0]
noncomputable def f71_C_l0 (k : Nat) (n : Nat) (σ : St) : Option (RDL f71_rs) := loopK (fun σ K => den T f71_Y (f71_E k) f71_A k (f71_p 116) 0 σ K) (cut f71_A.loops 0) (f71_a k [.blk 0, .c (f71_p 15) 0]) n σ
noncomputable def f71_s_c6 (y19 : (List (Int × Int))) (x0 : (List (Int × Int))) (x7 : Int) (x8 : Int) : St := mkS 25 80 [(0, aV Tq0 x0), (3, aO 19), (6, aV Tq0 x0), (7, aI x7), (8, aI x8)] [(19, .vec Tq0 y19)]
abbrev f71_t_c6 := (List (Int × Int)) → (List (Int × Int)) → Int → Int → Option ((List (Int × Int)) × Unit)
noncomputable abbrev f71_o_c6 (R : f71_S) : f71_t_c6 := (fun y19 x0 x7 x8 => R (f71_s_c6 y19 x0 x7 x8))
noncomputable def f71_Q_c6 (k : Nat) (R_l0 : f71_S) : f71_L := [.blk 1, .c (f71_p 935) 0, .j (fun σ => R_l0 (cut f71_A.loops 0 σ)), .blk 0, .c (f71_p 15) 0]
noncomputable def f71_C_c6 (k : Nat) (R_l0 : f71_S) : f71_S := fun σ => f71_a k (f71_Q_c6 k R_l0) .nx σ
noncomputable def f71_F_c6 (k : Nat) (G_l0 : f71_S) : f71_L := .blk 1 :: .c (f71_p 935) 0 :: .j (fun σ => G_l0 (cut f71_A.loops 0 σ)) :: .blk 0 :: .c (f71_p 15) 0 :: []
theorem f71_f_c6 (k : Nat) (R_l0 : f71_S) : f71_a k (f71_Q_c6 k R_l0) = f71_a k (f71_F_c6 k R_l0) := (ap_cons _ (ap_cons _ (ap_cons _ (ap_cons _ (ap_cons _ rfl)))))
noncomputable def f71_F_l0 (k : Nat) (G_l0 G_c6 : f71_S) : f71_L := .c (f71_p 232) 0 :: .c (f71_p 466) 0 :: .j (fun σ => f71_a k (.c (f71_p 3736) 1 :: .c (f71_p 7474) 1 :: .c (f71_p 7475) 1 :: .j G_c6 :: f71_F_c6 k G_l0) .nx σ) :: .c (f71_p 935) 0 :: .j (fun σ => G_l0 (cut f71_A.loops 0 σ)) :: .blk 0 :: .c (f71_p 15) 0 :: []
theorem f71_f_l0 (k : Nat) (R_l0 : f71_S) : f71_a k (f71_Q_l0 k R_l0) = f71_a k (f71_F_l0 k R_l0 (f71_C_c6 k R_l0)) := (Eq.trans ap_sq (ap_cons _ (Eq.trans ap_sq (ap_cons _ (Eq.trans ap_sq (Eq.trans (ap_bl 1) (Eq.trans (ap_j (Eq.trans ap_sq (ap_cons _ (Eq.trans ap_sq (ap_cons _ (ap_cons _ (Eq.trans (ap_pass (C := (f71_C_c6 k R_l0)) (fun _ => rfl)) (ap_cons _ (f71_f_c6 k R_l0))))))))) (ap_cons _ (ap_cons _ (ap_cons _ (ap_cons _ (ap_cons _ rfl))))))))))))
noncomputable def f71_entry_B (k : Nat) (g_l0 : f71_t_l0) (a0 : Td2) : Option ((List (Int × Int)) × Unit) := (g_l0 ([] : List (Int × Int)) a0 (a0.length : Int) 0)
noncomputable def f71_l0_B (k : Nat) (g_c6 : f71_t_c6) (y19 : (List (Int × Int))) (x0 : (List (Int × Int))) (x7 : Int) (x8 : Int) : Option ((List (Int × Int)) × Unit) := (if x8 < x7 then (if 0 ≤ x8 then (if x8 < (x0.length : Int) then ((f134 k x0 ((x0.getD (x8).toNat (0, 0)).1, (x0.getD (x8).toNat (0, 0)).2)).bind fun r1 => (if ¬ (r1.1 = true) then (if (y19.length + 1) * 16 ≤ 140737488355328 then (g_c6 (y19 ++ [((x0.getD (x8).toNat (0, 0)).1, (x0.getD (x8).toNat (0, 0)).2)]) x0 x7 x8) else none) else (g_c6 y19 x0 x7 x8))) else none) else none) else ((f66v1 k y19 ()).bind fun r2 => ((f137 k r2.1.1).bind fun r3 => some (r3.1.1, ()))))
noncomputable def f71_c6_B (k : Nat) (g_l0 : f71_t_l0) (y19 : (List (Int × Int))) (x0 : (List (Int × Int))) (x7 : Int) (x8 : Int) : Option ((List (Int × Int)) × Unit) := (g_l0 y19 x0 x7 (w64 (x8 + 1)))
theorem f71_c6_P (k : Nat) (G_l0 : f71_S) : f71_o_c6 (fun σ => f71_a k (f71_F_c6 k G_l0) .nx σ) = f71_c6_B k (f71_o_l0 G_l0) := by kernel_rfl
noncomputable def f71_c6 (k : Nat) (r_l0 : f71_t_l0) : f71_t_c6 := f71_c6_B k r_l0
theorem f71_c6_E (k : Nat) (R_l0 : f71_S) : f71_o_c6 (f71_C_c6 k R_l0) = f71_c6 k (f71_o_l0 R_l0) :=
  Eq.trans (congrArg f71_o_c6 (ap_fn (f71_f_c6 k R_l0))) ((f71_c6_P k R_l0).trans (by rfl))
theorem f71_l0_P (k : Nat) (G_l0 G_c6 : f71_S) : f71_o_l0 (fun σ => f71_a k (f71_F_l0 k G_l0 G_c6) .nx σ) = f71_l0_B k (f71_o_c6 G_c6) := by kernel_rfl
noncomputable def f71_l0 (k : Nat) : Nat → f71_t_l0
  | 0 => fun _ _ _ _ => none
  | n + 1 => f71_l0_B k (f71_c6 k (f71_l0 k n))
theorem f71_l0_E (k : Nat) : ∀ n, f71_o_l0 (f71_C_l0 k n) = f71_l0 k n
  | 0 => rfl
  | n + 1 =>
    Eq.trans (congrArg f71_o_l0 (Eq.trans (b := fun σ => f71_a k (f71_Q_l0 k (f71_C_l0 k n)) .nx σ) lp_step (ap_fn (f71_f_l0 k (f71_C_l0 k n))))) ((f71_l0_P k (f71_C_l0 k n) (f71_C_c6 k (f71_C_l0 k n))).trans (by rw [f71_c6_E k (f71_C_l0 k n), f71_l0_E k n] <;> rfl))
theorem f71_entry_P (k : Nat) (G_l0 : f71_S) (xs : DL f71_sig) : f71_a k (.c (f71_p 2) 0 :: .c (f71_p 6) 0 :: .c (f71_p 28) 0 :: .j (fun σ => f71_a k (.j (fun σ => G_l0 (cut f71_A.loops 0 σ)) :: .blk 0 :: .c (f71_p 15) 0 :: []) .nx σ) :: .c (f71_p 15) 0 :: []) .nx (σ0 25 80 f71_sig xs) = f71_entry_B k (f71_o_l0 G_l0) xs.1 := by kernel_rfl
noncomputable def f71 (k : Nat) (a0 : Td2) : Option ((List (Int × Int)) × Unit) := f71_entry_B k (f71_l0 k k) a0
theorem f71_fe (k : Nat) : f71_a k [.c (f71_p 1) 0] = f71_a k (.c (f71_p 2) 0 :: .c (f71_p 6) 0 :: .c (f71_p 28) 0 :: .j (fun σ => f71_a k (.j (fun σ => (f71_C_l0 k k) (cut f71_A.loops 0 σ)) :: .blk 0 :: .c (f71_p 15) 0 :: []) .nx σ) :: .c (f71_p 15) 0 :: []) := (Eq.trans ap_sq (ap_cons _ (Eq.trans ap_sq (ap_cons _ (Eq.trans ap_sq (Eq.trans ap_sq (ap_cons _ (Eq.trans (ap_bl 0) (Eq.trans (ap_j (Eq.trans (ap_lp (C := (f71_C_l0 k)) (fun _ _ => rfl)) (ap_cons _ (ap_cons _ (ap_cons _ rfl))))) (ap_cons _ (ap_cons _ rfl)))))))))))
theorem f71_eq (k : Nat) (xs : DL f71_sig) : den T f71_Y (f71_E k) f71_A k f71_c 0 (σ0 25 80 f71_sig xs) (Kfin T f71_rs f71_ts) = f71 k xs.1 :=
  Eq.trans (Eq.trans den_sb (ap_at (f71_fe k) _)) ((f71_entry_P k (f71_C_l0 k k) xs).trans (by rw [f71_l0_E k k] <;> rfl))
noncomputable def f71_con (k : Nat) : Con := ⟨f71_sig, f71_rs, fun xs => f71 k xs.1⟩
theorem f71_ok (k : Nat) : PureOK Try.prog 71 f71_sig f71_rs (fun xs => f71 k xs.1) :=
  (pure_of_den (k := k) (A := f71_A) (T := T) (Y := f71_Y) (E := f71_E k) (M := 80) (ts := f71_ts) T_ok ⟨f134_ok k, f137_ok k, f66v1_ok k, trivial⟩ ⟨f134_ent, f137_ent, f66v1_ent, trivial⟩ mixed (f := 71) (fn := Try.f71) (c := f71_c) (by kernel_rfl) (by kernel_rfl) (by kernel_rfl) (by decide) (by kernel_rfl)).congr fun xs => (f71_eq k xs).symm
theorem f71_ent : Ent Try.prog 71 := fun args w => by kernel_rfl
/-! ### terrier/terrlaw4.chosen: function 69 -/
noncomputable def f69_c : Code := Try.f69.body.getD .skip
noncomputable abbrev f69_p (n : Nat) : Code := sb f69_c n
abbrev f69_sig : List PT := []
abbrev f69_rs : List RT := [.d false .bool]
abbrev f69_ts : List RV := [.tmp 0]
abbrev f69_S := St → Option (RDL f69_rs)
abbrev f69_L := List (Fr (RDL f69_rs))
noncomputable def f69_Y : Tys := [(78, Tq0)]
noncomputable def f69_E (k : Nat) : Env := [(70, .c (f70_con k)), (71, .c (f71_con k))]
noncomputable def f69_A : Ann := {}
noncomputable abbrev f69_a (k : Nat) (F : f69_L) : Kont (RDL f69_rs) := ap T f69_Y (f69_E k) f69_A k (Kfin T f69_rs f69_ts) F
noncomputable def f69_entry_B (k : Nat)  : Option (Bool × Unit) := ((f71 k ([(3, 1), (1, 3), (3, 3), (1, 3)])).bind fun r1 => ((f70 k r1.1 ([(1, 3), (3, 1)])).bind fun r2 => some (decide (r2.1 = true), ())))
theorem f69_entry_P (k : Nat) (xs : DL f69_sig) : f69_a k (.c (f69_p 1) 0 :: []) .nx (σ0 11 48 f69_sig xs) = f69_entry_B k  := by kernel_rfl
noncomputable def f69 (k : Nat)  : Option (Bool × Unit) := f69_entry_B k 
theorem f69_eq (k : Nat) (xs : DL f69_sig) : den T f69_Y (f69_E k) f69_A k f69_c 0 (σ0 11 48 f69_sig xs) (Kfin T f69_rs f69_ts) = f69 k  :=
  Eq.trans (Eq.trans den_sb (ap_at (ap_cons _ rfl) _)) ((f69_entry_P k xs).trans (by rfl))
noncomputable def f69_con (k : Nat) : Con := ⟨f69_sig, f69_rs, fun xs => f69 k ⟩
theorem f69_ok (k : Nat) : PureOK Try.prog 69 f69_sig f69_rs (fun xs => f69 k ) :=
  (pure_of_den (k := k) (A := f69_A) (T := T) (Y := f69_Y) (E := f69_E k) (M := 48) (ts := f69_ts) T_ok ⟨f70_ok k, f71_ok k, trivial⟩ ⟨f70_ent, f71_ent, trivial⟩ mixed (f := 69) (fn := Try.f69) (c := f69_c) (by kernel_rfl) (by kernel_rfl) (by kernel_rfl) (by decide) (by kernel_rfl)).congr fun xs => (f69_eq k xs).symm
theorem f69_ent : Ent Try.prog 69 := fun args w => by kernel_rfl
/-! ### terrier/terrlaw4.MultiFronts: function 13 -/
noncomputable def f13_c : Code := Try.f13.body.getD .skip
noncomputable abbrev f13_p (n : Nat) : Code := sb f13_c n
abbrev f13_sig : List PT := [(false, Tq1), (true, Tq0), (true, Tq0)]
abbrev f13_rs : List RT := [.d false .bool]
abbrev f13_ts : List RV := [.tmp 6]
abbrev f13_S := St → Option (RDL f13_rs)
abbrev f13_L := List (Fr (RDL f13_rs))
noncomputable def f13_Y : Tys := [(78, Tq0)]
noncomputable def f13_E (k : Nat) : Env := [(65, .c (f65_con k)), (66, .b (f66_con k)), (69, .c (f69_con k)), (70, .c (f70_con k)), (71, .c (f71_con k)), (72, .c (f72_con k))]
noncomputable def f13_A : Ann := { loops := [(0, { mat := [(7, 53, Tq0)], slots := [(0, .val false Tq0), (4, .id), (5, .id), (7, .id), (13, .val false Tq0), (14, .id), (15, .id)], keys := [(4, []), (5, []), (53, [])] }), (2, { mat := [(7, 53, Tq0)], slots := [(0, .val false Tq0), (4, .id), (5, .id), (7, .id), (9, .id), (10, .bool), (13, .val false Tq0), (14, .id), (15, .id), (19, .val false Tq0), (20, .id), (21, .id)], keys := [(4, []), (5, []), (9, []), (53, [])] })], regs := [(9, { mat := [(7, 53, Tq0)], slots := [(0, .val false Tq0), (4, .id), (5, .id), (7, .id), (9, .id), (10, .bool), (13, .val false Tq0), (14, .id), (15, .id), (19, .val false Tq0), (20, .id), (21, .id), (41, .bool)], keys := [(4, []), (5, []), (9, []), (53, [])] }), (12, { mat := [(7, 53, Tq0)], slots := [(0, .val false Tq0), (4, .id), (5, .id), (7, .id), (9, .id), (13, .val false Tq0), (14, .id), (15, .id), (49, .bool)], keys := [(4, []), (5, []), (9, []), (53, [])] }), (16, { slots := [(6, .bool)] })], conds := [(10, { mat := [(7, 53, Tq0)], slots := [(0, .val false Tq0), (4, .id), (5, .id), (7, .id), (9, .id), (10, .bool), (13, .val false Tq0), (14, .id), (15, .id), (19, .val false Tq0), (20, .id), (21, .id)], keys := [(4, []), (5, []), (9, []), (53, [])] }), (13, { mat := [(7, 53, Tq0)], slots := [(0, .val false Tq0), (4, .id), (5, .id), (7, .id), (13, .val false Tq0), (14, .id), (15, .id)], keys := [(4, []), (5, []), (53, [])] })] }
noncomputable abbrev f13_a (k : Nat) (F : f13_L) : Kont (RDL f13_rs) := ap T f13_Y (f13_E k) f13_A k (Kfin T f13_rs f13_ts) F
noncomputable def f13_s_l0 (y4_0 : Int) (y4_1 : Int) (y5_0 : Int) (y5_1 : Int) (y53 : (List (Int × Int))) (x0 : (List (Int × Int))) (x14 : Int) (x15 : Int) : St := mkS 82 256 [(0, aV Tq0 x0), (4, aP 4), (5, aP 5), (7, aO 53), (13, aV Tq0 x0), (14, aI x14), (15, aI x15)] [(4, .box [cI y4_0, cI y4_1]), (5, .box [cI y5_0, cI y5_1]), (53, .vec Tq0 y53)]
abbrev f13_t_l0 := Int → Int → Int → Int → (List (Int × Int)) → (List (Int × Int)) → Int → Int → Option (Bool × Unit)
noncomputable abbrev f13_o_l0 (R : f13_S) : f13_t_l0 := (fun y4_0 y4_1 y5_0 y5_1 y53 x0 x14 x15 => R (f13_s_l0 y4_0 y4_1 y5_0 y5_1 y53 x0 x14 x15))
noncomputable def f13_Q_l0 (k : Nat) (R_l0 : f13_S) : f13_L := [.c (f13_p 116) 0, .j (fun σ => R_l0 (cut f13_A.loops 0 σ)), .blk 0, .c (f13_p 15) 0]
noncomputable def f13_C_l0 (k : Nat) (n : Nat) (σ : St) : Option (RDL f13_rs) := loopK (fun σ K => den T f13_Y (f13_E k) f13_A k (f13_p 116) 0 σ K) (cut f13_A.loops 0) (f13_a k [.blk 0, .c (f13_p 15) 0]) n σ
noncomputable def f13_s_l2 (y4_0 : Int) (y4_1 : Int) (y5_0 : Int) (y5_1 : Int) (y53 : (List (Int × Int))) (y9_0 : Int) (y9_1 : Int) (x0 : (List (Int × Int))) (x10 : Bool) (x14 : Int) (x15 : Int) (x20 : Int) (x21 : Int) : St := mkS 82 256 [(0, aV Tq0 x0), (4, aP 4), (5, aP 5), (7, aO 53), (9, aP 9), (10, aB x10), (13, aV Tq0 x0), (14, aI x14), (15, aI x15), (19, aV Tq0 x0), (20, aI x20), (21, aI x21)] [(4, .box [cI y4_0, cI y4_1]), (5, .box [cI y5_0, cI y5_1]), (9, .box [cI y9_0, cI y9_1]), (53, .vec Tq0 y53)]
abbrev f13_t_l2 := Int → Int → Int → Int → (List (Int × Int)) → Int → Int → (List (Int × Int)) → Bool → Int → Int → Int → Int → Option (Bool × Unit)
noncomputable abbrev f13_o_l2 (R : f13_S) : f13_t_l2 := (fun y4_0 y4_1 y5_0 y5_1 y53 y9_0 y9_1 x0 x10 x14 x15 x20 x21 => R (f13_s_l2 y4_0 y4_1 y5_0 y5_1 y53 y9_0 y9_1 x0 x10 x14 x15 x20 x21))
noncomputable def f13_Q_l2 (k : Nat) (R_l0 R_l2 : f13_S) : f13_L := [.c (f13_p 119604) 2, .j (fun σ => R_l2 (cut f13_A.loops 2 σ)), .blk 2, .c (f13_p 14951) 1, .blk 1, .c (f13_p 935) 0, .j (fun σ => R_l0 (cut f13_A.loops 0 σ)), .blk 0, .c (f13_p 15) 0]
noncomputable def f13_C_l2 (k : Nat) (R_l0 : f13_S) (n : Nat) (σ : St) : Option (RDL f13_rs) := loopK (fun σ K => den T f13_Y (f13_E k) f13_A k (f13_p 119604) 2 σ K) (cut f13_A.loops 2) (f13_a k [.blk 2, .c (f13_p 14951) 1, .blk 1, .c (f13_p 935) 0, .j (fun σ => R_l0 (cut f13_A.loops 0 σ)), .blk 0, .c (f13_p 15) 0]) n σ
noncomputable def f13_s_r9 (y4_0 : Int) (y4_1 : Int) (y5_0 : Int) (y5_1 : Int) (y53 : (List (Int × Int))) (y9_0 : Int) (y9_1 : Int) (x0 : (List (Int × Int))) (x10 : Bool) (x14 : Int) (x15 : Int) (x20 : Int) (x21 : Int) (x41 : Bool) : St := mkS 82 256 [(0, aV Tq0 x0), (4, aP 4), (5, aP 5), (7, aO 53), (9, aP 9), (10, aB x10), (13, aV Tq0 x0), (14, aI x14), (15, aI x15), (19, aV Tq0 x0), (20, aI x20), (21, aI x21), (41, aB x41)] [(4, .box [cI y4_0, cI y4_1]), (5, .box [cI y5_0, cI y5_1]), (9, .box [cI y9_0, cI y9_1]), (53, .vec Tq0 y53)]
abbrev f13_t_r9 := Int → Int → Int → Int → (List (Int × Int)) → Int → Int → (List (Int × Int)) → Bool → Int → Int → Int → Int → Bool → Option (Bool × Unit)
noncomputable abbrev f13_o_r9 (R : f13_S) : f13_t_r9 := (fun y4_0 y4_1 y5_0 y5_1 y53 y9_0 y9_1 x0 x10 x14 x15 x20 x21 x41 => R (f13_s_r9 y4_0 y4_1 y5_0 y5_1 y53 y9_0 y9_1 x0 x10 x14 x15 x20 x21 x41))
noncomputable def f13_Q_r9 (k : Nat) (R_l2 R_l0 : f13_S) : f13_L := [.c (f13_p 7654707) 3, .blk 3, .c (f13_p 956839) 2, .j (fun σ => R_l2 (cut f13_A.loops 2 σ)), .blk 2, .c (f13_p 14951) 1, .blk 1, .c (f13_p 935) 0, .j (fun σ => R_l0 (cut f13_A.loops 0 σ)), .blk 0, .c (f13_p 15) 0]
noncomputable def f13_C_r9 (k : Nat) (R_l2 R_l0 : f13_S) : f13_S := fun σ => f13_a k (f13_Q_r9 k R_l2 R_l0) .nx σ
noncomputable def f13_s_r12 (y4_0 : Int) (y4_1 : Int) (y5_0 : Int) (y5_1 : Int) (y53 : (List (Int × Int))) (y9_0 : Int) (y9_1 : Int) (x0 : (List (Int × Int))) (x14 : Int) (x15 : Int) (x49 : Bool) : St := mkS 82 256 [(0, aV Tq0 x0), (4, aP 4), (5, aP 5), (7, aO 53), (9, aP 9), (13, aV Tq0 x0), (14, aI x14), (15, aI x15), (49, aB x49)] [(4, .box [cI y4_0, cI y4_1]), (5, .box [cI y5_0, cI y5_1]), (9, .box [cI y9_0, cI y9_1]), (53, .vec Tq0 y53)]
abbrev f13_t_r12 := Int → Int → Int → Int → (List (Int × Int)) → Int → Int → (List (Int × Int)) → Int → Int → Bool → Option (Bool × Unit)
noncomputable abbrev f13_o_r12 (R : f13_S) : f13_t_r12 := (fun y4_0 y4_1 y5_0 y5_1 y53 y9_0 y9_1 x0 x14 x15 x49 => R (f13_s_r12 y4_0 y4_1 y5_0 y5_1 y53 y9_0 y9_1 x0 x14 x15 x49))
noncomputable def f13_Q_r12 (k : Nat) (R_l0 : f13_S) : f13_L := [.c (f13_p 29903) 1, .blk 1, .c (f13_p 935) 0, .j (fun σ => R_l0 (cut f13_A.loops 0 σ)), .blk 0, .c (f13_p 15) 0]
noncomputable def f13_C_r12 (k : Nat) (R_l0 : f13_S) : f13_S := fun σ => f13_a k (f13_Q_r12 k R_l0) .nx σ
noncomputable def f13_s_c10 (y4_0 : Int) (y4_1 : Int) (y5_0 : Int) (y5_1 : Int) (y53 : (List (Int × Int))) (y9_0 : Int) (y9_1 : Int) (x0 : (List (Int × Int))) (x10 : Bool) (x14 : Int) (x15 : Int) (x20 : Int) (x21 : Int) : St := mkS 82 256 [(0, aV Tq0 x0), (4, aP 4), (5, aP 5), (7, aO 53), (9, aP 9), (10, aB x10), (13, aV Tq0 x0), (14, aI x14), (15, aI x15), (19, aV Tq0 x0), (20, aI x20), (21, aI x21)] [(4, .box [cI y4_0, cI y4_1]), (5, .box [cI y5_0, cI y5_1]), (9, .box [cI y9_0, cI y9_1]), (53, .vec Tq0 y53)]
abbrev f13_t_c10 := Int → Int → Int → Int → (List (Int × Int)) → Int → Int → (List (Int × Int)) → Bool → Int → Int → Int → Int → Option (Bool × Unit)
noncomputable abbrev f13_o_c10 (R : f13_S) : f13_t_c10 := (fun y4_0 y4_1 y5_0 y5_1 y53 y9_0 y9_1 x0 x10 x14 x15 x20 x21 => R (f13_s_c10 y4_0 y4_1 y5_0 y5_1 y53 y9_0 y9_1 x0 x10 x14 x15 x20 x21))
noncomputable def f13_Q_c10 (k : Nat) (R_l2 R_l0 : f13_S) : f13_L := [.blk 3, .c (f13_p 956839) 2, .j (fun σ => R_l2 (cut f13_A.loops 2 σ)), .blk 2, .c (f13_p 14951) 1, .blk 1, .c (f13_p 935) 0, .j (fun σ => R_l0 (cut f13_A.loops 0 σ)), .blk 0, .c (f13_p 15) 0]
noncomputable def f13_C_c10 (k : Nat) (R_l2 R_l0 : f13_S) : f13_S := fun σ => f13_a k (f13_Q_c10 k R_l2 R_l0) .nx σ
noncomputable def f13_s_c13 (y4_0 : Int) (y4_1 : Int) (y5_0 : Int) (y5_1 : Int) (y53 : (List (Int × Int))) (x0 : (List (Int × Int))) (x14 : Int) (x15 : Int) : St := mkS 82 256 [(0, aV Tq0 x0), (4, aP 4), (5, aP 5), (7, aO 53), (13, aV Tq0 x0), (14, aI x14), (15, aI x15)] [(4, .box [cI y4_0, cI y4_1]), (5, .box [cI y5_0, cI y5_1]), (53, .vec Tq0 y53)]
abbrev f13_t_c13 := Int → Int → Int → Int → (List (Int × Int)) → (List (Int × Int)) → Int → Int → Option (Bool × Unit)
noncomputable abbrev f13_o_c13 (R : f13_S) : f13_t_c13 := (fun y4_0 y4_1 y5_0 y5_1 y53 x0 x14 x15 => R (f13_s_c13 y4_0 y4_1 y5_0 y5_1 y53 x0 x14 x15))
noncomputable def f13_Q_c13 (k : Nat) (R_l0 : f13_S) : f13_L := [.blk 1, .c (f13_p 935) 0, .j (fun σ => R_l0 (cut f13_A.loops 0 σ)), .blk 0, .c (f13_p 15) 0]
noncomputable def f13_C_c13 (k : Nat) (R_l0 : f13_S) : f13_S := fun σ => f13_a k (f13_Q_c13 k R_l0) .nx σ
noncomputable def f13_s_r16 (x6 : Bool) : St := mkS 82 256 [(6, aB x6)] []
abbrev f13_t_r16 := Bool → Option (Bool × Unit)
noncomputable abbrev f13_o_r16 (R : f13_S) : f13_t_r16 := (fun x6 => R (f13_s_r16 x6))
noncomputable def f13_Q_r16 (k : Nat) : f13_L := [.c (f13_p 63) 0]
noncomputable def f13_C_r16 (k : Nat) : f13_S := fun σ => f13_a k (f13_Q_r16 k) .nx σ
noncomputable def f13_F_r16 (k : Nat) : f13_L := .c (f13_p 63) 0 :: []
theorem f13_f_r16 (k : Nat) : f13_a k (f13_Q_r16 k) = f13_a k (f13_F_r16 k) := (ap_cons _ rfl)
noncomputable def f13_F_c13 (k : Nat) (G_l0 G_r16 : f13_S) : f13_L := .blk 1 :: .c (f13_p 935) 0 :: .j (fun σ => G_l0 (cut f13_A.loops 0 σ)) :: .blk 0 :: .c (f13_p 30) 0 :: .c (f13_p 62) 0 :: .j G_r16 :: f13_F_r16 k
theorem f13_f_c13 (k : Nat) (R_l0 : f13_S) : f13_a k (f13_Q_c13 k R_l0) = f13_a k (f13_F_c13 k R_l0 (f13_C_r16 k)) := (ap_cons _ (ap_cons _ (ap_cons _ (ap_cons _ (Eq.trans ap_sq (ap_cons _ (Eq.trans ap_sq (ap_cons _ (Eq.trans (ap_pass (C := (f13_C_r16 k)) (fun _ => rfl)) (ap_cons _ (f13_f_r16 k)))))))))))
noncomputable def f13_F_r12 (k : Nat) (G_l0 G_c13 G_r16 : f13_S) : f13_L := .c (f13_p 29903) 1 :: .j G_c13 :: f13_F_c13 k G_l0 G_r16
theorem f13_f_r12 (k : Nat) (R_l0 : f13_S) : f13_a k (f13_Q_r12 k R_l0) = f13_a k (f13_F_r12 k R_l0 (f13_C_c13 k R_l0) (f13_C_r16 k)) := (ap_cons _ (Eq.trans (ap_pass (C := (f13_C_c13 k R_l0)) (fun _ => rfl)) (ap_cons _ (f13_f_c13 k R_l0))))
noncomputable def f13_F_l0 (k : Nat) (G_l0 G_l2 G_r12 G_c13 G_r16 : f13_S) : f13_L := .c (f13_p 232) 0 :: .c (f13_p 466) 0 :: .j (fun σ => f13_a k (.c (f13_p 3736) 1 :: .c (f13_p 7474) 1 :: .c (f13_p 29900) 1 :: .j (fun σ => f13_a k (.j (fun σ => G_l2 (cut f13_A.loops 2 σ)) :: .blk 2 :: .c (f13_p 29902) 1 :: .j G_r12 :: f13_F_r12 k G_l0 G_c13 G_r16) .nx σ) :: .c (f13_p 29902) 1 :: .j G_r12 :: f13_F_r12 k G_l0 G_c13 G_r16) .nx σ) :: .c (f13_p 935) 0 :: .j (fun σ => G_l0 (cut f13_A.loops 0 σ)) :: .blk 0 :: .c (f13_p 30) 0 :: .c (f13_p 62) 0 :: .j G_r16 :: f13_F_r16 k
theorem f13_f_l0 (k : Nat) (R_l0 : f13_S) : f13_a k (f13_Q_l0 k R_l0) = f13_a k (f13_F_l0 k R_l0 (f13_C_l2 k R_l0 k) (f13_C_r12 k R_l0) (f13_C_c13 k R_l0) (f13_C_r16 k)) := (Eq.trans ap_sq (ap_cons _ (Eq.trans ap_sq (ap_cons _ (Eq.trans ap_sq (Eq.trans (ap_bl 1) (Eq.trans (ap_j (Eq.trans ap_sq (ap_cons _ (Eq.trans ap_sq (ap_cons _ (Eq.trans ap_sq (Eq.trans ap_sq (ap_cons _ (Eq.trans (ap_bl 2) (Eq.trans (ap_j (Eq.trans (ap_lp (C := (f13_C_l2 k R_l0)) (fun _ _ => rfl)) (ap_cons _ (ap_cons _ (Eq.trans ap_sq (ap_cons _ (Eq.trans (ap_pass (C := (f13_C_r12 k R_l0)) (fun _ => rfl)) (ap_cons _ (f13_f_r12 k R_l0))))))))) (ap_cons _ (Eq.trans ap_sq (ap_cons _ (Eq.trans (ap_pass (C := (f13_C_r12 k R_l0)) (fun _ => rfl)) (ap_cons _ (f13_f_r12 k R_l0)))))))))))))))) (ap_cons _ (ap_cons _ (ap_cons _ (ap_cons _ (Eq.trans ap_sq (ap_cons _ (Eq.trans ap_sq (ap_cons _ (Eq.trans (ap_pass (C := (f13_C_r16 k)) (fun _ => rfl)) (ap_cons _ (f13_f_r16 k))))))))))))))))))
noncomputable def f13_F_c10 (k : Nat) (G_l0 G_l2 G_r12 G_c13 G_r16 : f13_S) : f13_L := .blk 3 :: .c (f13_p 956839) 2 :: .j (fun σ => G_l2 (cut f13_A.loops 2 σ)) :: .blk 2 :: .c (f13_p 29902) 1 :: .j G_r12 :: f13_F_r12 k G_l0 G_c13 G_r16
theorem f13_f_c10 (k : Nat) (R_l2 R_l0 : f13_S) : f13_a k (f13_Q_c10 k R_l2 R_l0) = f13_a k (f13_F_c10 k R_l0 R_l2 (f13_C_r12 k R_l0) (f13_C_c13 k R_l0) (f13_C_r16 k)) := (ap_cons _ (ap_cons _ (ap_cons _ (ap_cons _ (Eq.trans ap_sq (ap_cons _ (Eq.trans (ap_pass (C := (f13_C_r12 k R_l0)) (fun _ => rfl)) (ap_cons _ (f13_f_r12 k R_l0)))))))))
noncomputable def f13_F_r9 (k : Nat) (G_l0 G_l2 G_r12 G_c10 G_c13 G_r16 : f13_S) : f13_L := .c (f13_p 7654707) 3 :: .j G_c10 :: f13_F_c10 k G_l0 G_l2 G_r12 G_c13 G_r16
theorem f13_f_r9 (k : Nat) (R_l2 R_l0 : f13_S) : f13_a k (f13_Q_r9 k R_l2 R_l0) = f13_a k (f13_F_r9 k R_l0 R_l2 (f13_C_r12 k R_l0) (f13_C_c10 k R_l2 R_l0) (f13_C_c13 k R_l0) (f13_C_r16 k)) := (ap_cons _ (Eq.trans (ap_pass (C := (f13_C_c10 k R_l2 R_l0)) (fun _ => rfl)) (ap_cons _ (f13_f_c10 k R_l2 R_l0))))
noncomputable def f13_F_l2 (k : Nat) (G_l0 G_l2 G_r9 G_r12 G_c10 G_c13 G_r16 : f13_S) : f13_L := .c (f13_p 239208) 2 :: .c (f13_p 478418) 2 :: .j (fun σ => f13_a k (.c (f13_p 3827352) 3 :: .c (f13_p 7654706) 3 :: .j G_r9 :: f13_F_r9 k G_l0 G_l2 G_r12 G_c10 G_c13 G_r16) .nx σ) :: .c (f13_p 956839) 2 :: .j (fun σ => G_l2 (cut f13_A.loops 2 σ)) :: .blk 2 :: .c (f13_p 29902) 1 :: .j G_r12 :: f13_F_r12 k G_l0 G_c13 G_r16
theorem f13_f_l2 (k : Nat) (R_l0 R_l2 : f13_S) : f13_a k (f13_Q_l2 k R_l0 R_l2) = f13_a k (f13_F_l2 k R_l0 R_l2 (f13_C_r9 k R_l2 R_l0) (f13_C_r12 k R_l0) (f13_C_c10 k R_l2 R_l0) (f13_C_c13 k R_l0) (f13_C_r16 k)) := (Eq.trans ap_sq (ap_cons _ (Eq.trans ap_sq (ap_cons _ (Eq.trans ap_sq (Eq.trans (ap_bl 3) (Eq.trans (ap_j (Eq.trans ap_sq (ap_cons _ (Eq.trans ap_sq (ap_cons _ (Eq.trans (ap_pass (C := (f13_C_r9 k R_l2 R_l0)) (fun _ => rfl)) (ap_cons _ (f13_f_r9 k R_l2 R_l0)))))))) (ap_cons _ (ap_cons _ (ap_cons _ (ap_cons _ (Eq.trans ap_sq (ap_cons _ (Eq.trans (ap_pass (C := (f13_C_r12 k R_l0)) (fun _ => rfl)) (ap_cons _ (f13_f_r12 k R_l0))))))))))))))))
noncomputable def f13_entry_B (k : Nat) (g_l0 : f13_t_l0) (a0 : Td2) (a1 : (Int × Int)) (a2 : (Int × Int)) : Option (Bool × Unit) := (g_l0 a1.1 a1.2 a2.1 a2.2 ([] : List (Int × Int)) a0 (a0.length : Int) 0)
noncomputable def f13_l0_B (k : Nat) (g_l2 : f13_t_l2) (g_r16 : f13_t_r16) (y4_0 : Int) (y4_1 : Int) (y5_0 : Int) (y5_1 : Int) (y53 : (List (Int × Int))) (x0 : (List (Int × Int))) (x14 : Int) (x15 : Int) : Option (Bool × Unit) := (if x15 < x14 then (if 0 ≤ x15 then (if x15 < (x0.length : Int) then (g_l2 y4_0 y4_1 y5_0 y5_1 y53 ((x0.getD (x15).toNat (0, 0)).1) ((x0.getD (x15).toNat (0, 0)).2) x0 true x14 x15 (x0.length : Int) 0) else none) else none) else ((f66 k y53 ()).bind fun r1 => ((f69 k ).bind fun r2 => (if r2.1 = true then ((f71 k x0).bind fun r3 => ((f70 k r3.1 r1.1.1).bind fun r4 => (if r4.1 = true then ((f72 k (y4_0, y4_1) (y5_0, y5_1)).bind fun r5 => (if y4_0 ≤ y5_0 then (g_r16 (decide (decide (r5.1 = true) = decide (y4_1 ≤ y5_1)))) else (g_r16 (decide (decide (r5.1 = true) = false))))) else (g_r16 false)))) else (g_r16 false)))))
noncomputable def f13_l2_B (k : Nat) (g_r9 : f13_t_r9) (g_r12 : f13_t_r12) (y4_0 : Int) (y4_1 : Int) (y5_0 : Int) (y5_1 : Int) (y53 : (List (Int × Int))) (y9_0 : Int) (y9_1 : Int) (x0 : (List (Int × Int))) (x10 : Bool) (x14 : Int) (x15 : Int) (x20 : Int) (x21 : Int) : Option (Bool × Unit) := (if x21 < x20 then (if 0 ≤ x21 then (if x21 < (x0.length : Int) then (if ¬ ((((x0.getD (x21).toNat (0, 0)).1) = y9_0) ∧ (((x0.getD (x21).toNat (0, 0)).2) = y9_1)) then (if ((x0.getD (x21).toNat (0, 0)).1) ≤ y9_0 then (g_r9 y4_0 y4_1 y5_0 y5_1 y53 y9_0 y9_1 x0 (decide (x10 = true)) x14 x15 x20 x21 (decide (((x0.getD (x21).toNat (0, 0)).2) ≤ y9_1))) else (g_r9 y4_0 y4_1 y5_0 y5_1 y53 y9_0 y9_1 x0 (decide (x10 = true)) x14 x15 x20 x21 false)) else (g_r9 y4_0 y4_1 y5_0 y5_1 y53 y9_0 y9_1 x0 (decide (x10 = true)) x14 x15 x20 x21 false)) else none) else none) else (if x10 = true then ((f65 k y53 (y9_0, y9_1)).bind fun r1 => (g_r12 y4_0 y4_1 y5_0 y5_1 y53 y9_0 y9_1 x0 x14 x15 (decide (¬ (r1.1 = true))))) else (g_r12 y4_0 y4_1 y5_0 y5_1 y53 y9_0 y9_1 x0 x14 x15 false)))
noncomputable def f13_r9_B (k : Nat) (g_c10 : f13_t_c10) (y4_0 : Int) (y4_1 : Int) (y5_0 : Int) (y5_1 : Int) (y53 : (List (Int × Int))) (y9_0 : Int) (y9_1 : Int) (x0 : (List (Int × Int))) (x10 : Bool) (x14 : Int) (x15 : Int) (x20 : Int) (x21 : Int) (x41 : Bool) : Option (Bool × Unit) := (if x41 = true then (g_c10 y4_0 y4_1 y5_0 y5_1 y53 y9_0 y9_1 x0 false x14 x15 x20 x21) else (g_c10 y4_0 y4_1 y5_0 y5_1 y53 y9_0 y9_1 x0 (decide (x10 = true)) x14 x15 x20 x21))
noncomputable def f13_r12_B (k : Nat) (g_c13 : f13_t_c13) (y4_0 : Int) (y4_1 : Int) (y5_0 : Int) (y5_1 : Int) (y53 : (List (Int × Int))) (y9_0 : Int) (y9_1 : Int) (x0 : (List (Int × Int))) (x14 : Int) (x15 : Int) (x49 : Bool) : Option (Bool × Unit) := (if x49 = true then (if (y53.length + 1) * 16 ≤ 140737488355328 then (g_c13 y4_0 y4_1 y5_0 y5_1 (y53 ++ [(y9_0, y9_1)]) x0 x14 x15) else none) else (g_c13 y4_0 y4_1 y5_0 y5_1 y53 x0 x14 x15))
noncomputable def f13_c10_B (k : Nat) (g_l2 : f13_t_l2) (y4_0 : Int) (y4_1 : Int) (y5_0 : Int) (y5_1 : Int) (y53 : (List (Int × Int))) (y9_0 : Int) (y9_1 : Int) (x0 : (List (Int × Int))) (x10 : Bool) (x14 : Int) (x15 : Int) (x20 : Int) (x21 : Int) : Option (Bool × Unit) := (g_l2 y4_0 y4_1 y5_0 y5_1 y53 y9_0 y9_1 x0 (decide (x10 = true)) x14 x15 x20 (w64 (x21 + 1)))
noncomputable def f13_c13_B (k : Nat) (g_l0 : f13_t_l0) (y4_0 : Int) (y4_1 : Int) (y5_0 : Int) (y5_1 : Int) (y53 : (List (Int × Int))) (x0 : (List (Int × Int))) (x14 : Int) (x15 : Int) : Option (Bool × Unit) := (g_l0 y4_0 y4_1 y5_0 y5_1 y53 x0 x14 (w64 (x15 + 1)))
noncomputable def f13_r16_B (k : Nat) (x6 : Bool) : Option (Bool × Unit) := some (decide (x6 = true), ())
theorem f13_c10_P (k : Nat) (G_l0 G_l2 G_r12 G_c13 G_r16 : f13_S) : f13_o_c10 (fun σ => f13_a k (f13_F_c10 k G_l0 G_l2 G_r12 G_c13 G_r16) .nx σ) = f13_c10_B k (f13_o_l2 G_l2) := by kernel_rfl
noncomputable def f13_c10 (k : Nat) (r_l2 : f13_t_l2) (r_l0 : f13_t_l0) : f13_t_c10 := f13_c10_B k r_l2
theorem f13_c10_E (k : Nat) (R_l2 R_l0 : f13_S) : f13_o_c10 (f13_C_c10 k R_l2 R_l0) = f13_c10 k (f13_o_l2 R_l2) (f13_o_l0 R_l0) :=
  Eq.trans (congrArg f13_o_c10 (ap_fn (f13_f_c10 k R_l2 R_l0))) ((f13_c10_P k R_l0 R_l2 (f13_C_r12 k R_l0) (f13_C_c13 k R_l0) (f13_C_r16 k)).trans (by rfl))
theorem f13_r9_P (k : Nat) (G_l0 G_l2 G_r12 G_c10 G_c13 G_r16 : f13_S) : f13_o_r9 (fun σ => f13_a k (f13_F_r9 k G_l0 G_l2 G_r12 G_c10 G_c13 G_r16) .nx σ) = f13_r9_B k (f13_o_c10 G_c10) := by kernel_rfl
noncomputable def f13_r9 (k : Nat) (r_l2 : f13_t_l2) (r_l0 : f13_t_l0) : f13_t_r9 := f13_r9_B k (f13_c10 k r_l2 r_l0)
theorem f13_r9_E (k : Nat) (R_l2 R_l0 : f13_S) : f13_o_r9 (f13_C_r9 k R_l2 R_l0) = f13_r9 k (f13_o_l2 R_l2) (f13_o_l0 R_l0) :=
  Eq.trans (congrArg f13_o_r9 (ap_fn (f13_f_r9 k R_l2 R_l0))) ((f13_r9_P k R_l0 R_l2 (f13_C_r12 k R_l0) (f13_C_c10 k R_l2 R_l0) (f13_C_c13 k R_l0) (f13_C_r16 k)).trans (by rw [f13_c10_E k R_l2 R_l0] <;> rfl))
theorem f13_c13_P (k : Nat) (G_l0 G_r16 : f13_S) : f13_o_c13 (fun σ => f13_a k (f13_F_c13 k G_l0 G_r16) .nx σ) = f13_c13_B k (f13_o_l0 G_l0) := by kernel_rfl
noncomputable def f13_c13 (k : Nat) (r_l0 : f13_t_l0) : f13_t_c13 := f13_c13_B k r_l0
theorem f13_c13_E (k : Nat) (R_l0 : f13_S) : f13_o_c13 (f13_C_c13 k R_l0) = f13_c13 k (f13_o_l0 R_l0) :=
  Eq.trans (congrArg f13_o_c13 (ap_fn (f13_f_c13 k R_l0))) ((f13_c13_P k R_l0 (f13_C_r16 k)).trans (by rfl))
theorem f13_r12_P (k : Nat) (G_l0 G_c13 G_r16 : f13_S) : f13_o_r12 (fun σ => f13_a k (f13_F_r12 k G_l0 G_c13 G_r16) .nx σ) = f13_r12_B k (f13_o_c13 G_c13) := by kernel_rfl
noncomputable def f13_r12 (k : Nat) (r_l0 : f13_t_l0) : f13_t_r12 := f13_r12_B k (f13_c13 k r_l0)
theorem f13_r12_E (k : Nat) (R_l0 : f13_S) : f13_o_r12 (f13_C_r12 k R_l0) = f13_r12 k (f13_o_l0 R_l0) :=
  Eq.trans (congrArg f13_o_r12 (ap_fn (f13_f_r12 k R_l0))) ((f13_r12_P k R_l0 (f13_C_c13 k R_l0) (f13_C_r16 k)).trans (by rw [f13_c13_E k R_l0] <;> rfl))
theorem f13_l2_P (k : Nat) (G_l0 G_l2 G_r9 G_r12 G_c10 G_c13 G_r16 : f13_S) : f13_o_l2 (fun σ => f13_a k (f13_F_l2 k G_l0 G_l2 G_r9 G_r12 G_c10 G_c13 G_r16) .nx σ) = f13_l2_B k (f13_o_r9 G_r9) (f13_o_r12 G_r12) := by kernel_rfl
noncomputable def f13_l2 (k : Nat) (r_l0 : f13_t_l0) : Nat → f13_t_l2
  | 0 => fun _ _ _ _ _ _ _ _ _ _ _ _ _ => none
  | n + 1 => f13_l2_B k (f13_r9 k (f13_l2 k r_l0 n) r_l0) (f13_r12 k r_l0)
theorem f13_l2_E (k : Nat) (R_l0 : f13_S) : ∀ n, f13_o_l2 (f13_C_l2 k R_l0 n) = f13_l2 k (f13_o_l0 R_l0) n
  | 0 => rfl
  | n + 1 =>
    Eq.trans (congrArg f13_o_l2 (Eq.trans (b := fun σ => f13_a k (f13_Q_l2 k R_l0 (f13_C_l2 k R_l0 n)) .nx σ) lp_step (ap_fn (f13_f_l2 k R_l0 (f13_C_l2 k R_l0 n))))) ((f13_l2_P k R_l0 (f13_C_l2 k R_l0 n) (f13_C_r9 k (f13_C_l2 k R_l0 n) R_l0) (f13_C_r12 k R_l0) (f13_C_c10 k (f13_C_l2 k R_l0 n) R_l0) (f13_C_c13 k R_l0) (f13_C_r16 k)).trans (by rw [f13_r9_E k (f13_C_l2 k R_l0 n) R_l0, f13_r12_E k R_l0, f13_l2_E k R_l0 n] <;> rfl))
theorem f13_r16_P (k : Nat) : f13_o_r16 (fun σ => f13_a k (f13_F_r16 k) .nx σ) = f13_r16_B k := by kernel_rfl
noncomputable def f13_r16 (k : Nat) : f13_t_r16 := f13_r16_B k
theorem f13_r16_E (k : Nat) : f13_o_r16 (f13_C_r16 k) = f13_r16 k :=
  Eq.trans (congrArg f13_o_r16 (ap_fn (f13_f_r16 k))) ((f13_r16_P k).trans (by rfl))
theorem f13_l0_P (k : Nat) (G_l0 G_l2 G_r12 G_c13 G_r16 : f13_S) : f13_o_l0 (fun σ => f13_a k (f13_F_l0 k G_l0 G_l2 G_r12 G_c13 G_r16) .nx σ) = f13_l0_B k (f13_o_l2 G_l2) (f13_o_r16 G_r16) := by kernel_rfl
noncomputable def f13_l0 (k : Nat) : Nat → f13_t_l0
  | 0 => fun _ _ _ _ _ _ _ _ => none
  | n + 1 => f13_l0_B k (f13_l2 k (f13_l0 k n) k) (f13_r16 k)
theorem f13_l0_E (k : Nat) : ∀ n, f13_o_l0 (f13_C_l0 k n) = f13_l0 k n
  | 0 => rfl
  | n + 1 =>
    Eq.trans (congrArg f13_o_l0 (Eq.trans (b := fun σ => f13_a k (f13_Q_l0 k (f13_C_l0 k n)) .nx σ) lp_step (ap_fn (f13_f_l0 k (f13_C_l0 k n))))) ((f13_l0_P k (f13_C_l0 k n) (f13_C_l2 k (f13_C_l0 k n) k) (f13_C_r12 k (f13_C_l0 k n)) (f13_C_c13 k (f13_C_l0 k n)) (f13_C_r16 k)).trans (by rw [f13_l2_E k (f13_C_l0 k n) k, f13_r16_E k, f13_l0_E k n] <;> rfl))
theorem f13_entry_P (k : Nat) (G_l0 G_r16 : f13_S) (xs : DL f13_sig) : f13_a k (.c (f13_p 2) 0 :: .c (f13_p 6) 0 :: .c (f13_p 28) 0 :: .j (fun σ => f13_a k (.j (fun σ => G_l0 (cut f13_A.loops 0 σ)) :: .blk 0 :: .c (f13_p 30) 0 :: .c (f13_p 62) 0 :: .j G_r16 :: f13_F_r16 k) .nx σ) :: .c (f13_p 30) 0 :: .c (f13_p 62) 0 :: .j G_r16 :: f13_F_r16 k) .nx (σ0 82 256 f13_sig xs) = f13_entry_B k (f13_o_l0 G_l0) xs.1 xs.2.1 xs.2.2.1 := by kernel_rfl
noncomputable def f13 (k : Nat) (a0 : Td2) (a1 : (Int × Int)) (a2 : (Int × Int)) : Option (Bool × Unit) := f13_entry_B k (f13_l0 k k) a0 a1 a2
theorem f13_fe (k : Nat) : f13_a k [.c (f13_p 1) 0] = f13_a k (.c (f13_p 2) 0 :: .c (f13_p 6) 0 :: .c (f13_p 28) 0 :: .j (fun σ => f13_a k (.j (fun σ => (f13_C_l0 k k) (cut f13_A.loops 0 σ)) :: .blk 0 :: .c (f13_p 30) 0 :: .c (f13_p 62) 0 :: .j (f13_C_r16 k) :: f13_F_r16 k) .nx σ) :: .c (f13_p 30) 0 :: .c (f13_p 62) 0 :: .j (f13_C_r16 k) :: f13_F_r16 k) := (Eq.trans ap_sq (ap_cons _ (Eq.trans ap_sq (ap_cons _ (Eq.trans ap_sq (Eq.trans ap_sq (ap_cons _ (Eq.trans (ap_bl 0) (Eq.trans (ap_j (Eq.trans (ap_lp (C := (f13_C_l0 k)) (fun _ _ => rfl)) (ap_cons _ (ap_cons _ (Eq.trans ap_sq (ap_cons _ (Eq.trans ap_sq (ap_cons _ (Eq.trans (ap_pass (C := (f13_C_r16 k)) (fun _ => rfl)) (ap_cons _ (f13_f_r16 k))))))))))) (ap_cons _ (Eq.trans ap_sq (ap_cons _ (Eq.trans ap_sq (ap_cons _ (Eq.trans (ap_pass (C := (f13_C_r16 k)) (fun _ => rfl)) (ap_cons _ (f13_f_r16 k)))))))))))))))))
theorem f13_eq (k : Nat) (xs : DL f13_sig) : den T f13_Y (f13_E k) f13_A k f13_c 0 (σ0 82 256 f13_sig xs) (Kfin T f13_rs f13_ts) = f13 k xs.1 xs.2.1 xs.2.2.1 :=
  Eq.trans (Eq.trans den_sb (ap_at (f13_fe k) _)) ((f13_entry_P k (f13_C_l0 k k) (f13_C_r16 k) xs).trans (by rw [f13_l0_E k k] <;> rfl))
noncomputable def f13_con (k : Nat) : Con := ⟨f13_sig, f13_rs, fun xs => f13 k xs.1 xs.2.1 xs.2.2.1⟩
theorem f13_ok (k : Nat) : PureOK Try.prog 13 f13_sig f13_rs (fun xs => f13 k xs.1 xs.2.1 xs.2.2.1) :=
  (pure_of_den (k := k) (A := f13_A) (T := T) (Y := f13_Y) (E := f13_E k) (M := 256) (ts := f13_ts) T_ok ⟨f65_ok k, f66_ok k, f69_ok k, f70_ok k, f71_ok k, f72_ok k, trivial⟩ ⟨f65_ent, f66_ent, f69_ent, f70_ent, f71_ent, f72_ent, trivial⟩ mixed (f := 13) (fn := Try.f13) (c := f13_c) (by kernel_rfl) (by kernel_rfl) (by kernel_rfl) (by decide) (by kernel_rfl)).congr fun xs => (f13_eq k xs).symm
theorem f13_ent : Ent Try.prog 13 := fun args w => by kernel_rfl
noncomputable def Pure_MultiFronts : Prop := ∀ xs : DL f13_sig, wfs f13_sig xs → ∃ k, f13 k xs.1 xs.2.1 xs.2.2.1 = some (true, ())
end Go.Proofs.Ytpbmlhlpfbcnbaa.Rw
