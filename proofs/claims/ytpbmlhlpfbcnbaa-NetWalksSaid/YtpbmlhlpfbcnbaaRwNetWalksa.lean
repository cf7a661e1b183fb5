/- What the functions that the law NetWalks reaches come to, part 1. No condition. -/
import Derived.Test.YtpbmlhlpfbcnbaaRxEv
import Derived.Test.YtpbmlhlpfbcnbaaProg
namespace Go.Proofs.Ytpbmlhlpfbcnbaa.Rw
open Go.Rx Go.Proofs
set_option linter.unusedVariables false
set_option maxRecDepth 100000
def T : Tab := [(3, ⟨.int .i64, 1, 8, some (false, [cI 0]), false⟩),
  (5, ⟨.int .u8, 1, 1, some (false, [.int .u8 0]), false⟩),
  (9, ⟨.str, 1, 16, some (false, [.str ByteArray.empty]), false⟩),
  (25, ⟨.slice 3, 1, 24, some (false, [.nil]), false⟩),
  (26, ⟨.int .i64, 1, 8, some (false, [cI 0]), false⟩),
  (45, ⟨.slice 50, 1, 24, some (false, [.nil]), false⟩),
  (50, ⟨.struct [(0, 3), (1, 3)], 2, 16, some (true, [cI 0, cI 0]), true⟩),
  (61, ⟨.slice 129, 1, 24, some (false, [.nil]), false⟩),
  (62, ⟨.slice 169, 1, 24, some (false, [.nil]), false⟩),
  (64, ⟨.struct [(0, 45), (1, 61), (2, 62)], 3, 72, some (true, [.nil, .nil, .nil]), true⟩),
  (129, ⟨.struct [(0, 3), (1, 3), (2, 3), (3, 3)], 4, 32, some (true, [cI 0, cI 0, cI 0, cI 0]), true⟩),
  (139, ⟨.struct [(0, 25)], 1, 24, some (true, [.nil]), true⟩),
  (147, ⟨.int .u64, 1, 8, some (false, [.int .u64 0]), false⟩),
  (169, ⟨.struct [(0, 3), (1, 3)], 2, 16, some (true, [cI 0, cI 0]), true⟩),
  (193, ⟨.int .u64, 1, 8, some (false, [.int .u64 0]), false⟩),
  (221, ⟨.int .i64, 1, 8, some (false, [cI 0]), false⟩)]
theorem T_ok : TabOK Try.prog T := ⟨by kernel_rfl, by kernel_rfl, by kernel_rfl, by kernel_rfl, by kernel_rfl, by kernel_rfl, by kernel_rfl, by kernel_rfl, by kernel_rfl, by kernel_rfl, by kernel_rfl, by kernel_rfl, by kernel_rfl, by kernel_rfl, by kernel_rfl, by kernel_rfl, trivial⟩
theorem mixed : Try.prog.follows .mixedOrders = true := by kernel_rfl
abbrev Ts0 : ByteArray := ⟨[0, 1, 2, 2, 3, 3, 3, 3, 4, 4, 4, 4, 4, 4, 4, 4, 5, 5, 5, 5, 5, 5, 5, 5, 5, 5, 5, 5, 5, 5, 5, 5, 6, 6, 6, 6, 6, 6, 6, 6, 6, 6, 6, 6, 6, 6, 6, 6, 6, 6, 6, 6, 6, 6, 6, 6, 6, 6, 6, 6, 6, 6, 6, 6, 7, 7, 7, 7, 7, 7, 7, 7, 7, 7, 7, 7, 7, 7, 7, 7, 7, 7, 7, 7, 7, 7, 7, 7, 7, 7, 7, 7, 7, 7, 7, 7, 7, 7, 7, 7, 7, 7, 7, 7, 7, 7, 7, 7, 7, 7, 7, 7, 7, 7, 7, 7, 7, 7, 7, 7, 7, 7, 7, 7, 7, 7, 7, 7, 8, 8, 8, 8, 8, 8, 8, 8, 8, 8, 8, 8, 8, 8, 8, 8, 8, 8, 8, 8, 8, 8, 8, 8, 8, 8, 8, 8, 8, 8, 8, 8, 8, 8, 8, 8, 8, 8, 8, 8, 8, 8, 8, 8, 8, 8, 8, 8, 8, 8, 8, 8, 8, 8, 8, 8, 8, 8, 8, 8, 8, 8, 8, 8, 8, 8, 8, 8, 8, 8, 8, 8, 8, 8, 8, 8, 8, 8, 8, 8, 8, 8, 8, 8, 8, 8, 8, 8, 8, 8, 8, 8, 8, 8, 8, 8, 8, 8, 8, 8, 8, 8, 8, 8, 8, 8, 8, 8, 8, 8, 8, 8, 8, 8, 8, 8, 8, 8, 8, 8, 8, 8, 8, 8, 8, 8, 8, 8].toArray⟩
abbrev Tq1 : Ty := (.pair (.int .i64) (.int .i64))
abbrev Tq2 : Ty := (.sl false Tq1)
abbrev Td3 : Type := (List (Int × Int))
abbrev Tq4 : Ty := (.pair (.int .i64) Tq1)
abbrev Tq5 : Ty := (.pair (.int .i64) Tq4)
abbrev Tq6 : Ty := (.sl false Tq5)
abbrev Tq7 : Ty := (.pair Tq6 Tq2)
abbrev Tq8 : Ty := (.pair Tq2 Tq7)
abbrev Tq9 : Ty := (.sl false (.int .i64))
abbrev Td10 : Type := (Int × (Int × Int))
abbrev Td11 : Type := (List (Int × Td10))
abbrev Td12 : Type := (Td3 × (Td11 × Td3))
/-! ### terrier/terrmake.Below: function 23 -/
noncomputable def f23_c : Code := Try.f23.body.getD .skip
noncomputable abbrev f23_p (n : Nat) : Code := sb f23_c n
abbrev f23_sig : List PT := [(false, (.int .i64)), (false, (.int .i64))]
abbrev f23_rs : List RT := [.d false (.int .i64)]
abbrev f23_ts : List RV := [.tmp 4]
abbrev f23_S := St → Option (RDL f23_rs)
abbrev f23_L := List (Fr (RDL f23_rs))
def f23_Y : Tys := []
noncomputable def f23_E (k : Nat) : Env := []
def f23_A : Ann := { conds := [(3, { slots := [(0, .id)] })] }
noncomputable abbrev f23_a (k : Nat) (F : f23_L) : Kont (RDL f23_rs) := ap T f23_Y (f23_E k) f23_A k (Kfin T f23_rs f23_ts) F
def f23_s_c3 (x0 : Int) : St := mkS 14 48 [(0, aI x0)] []
abbrev f23_t_c3 := Int → Option (Int × Unit)
abbrev f23_o_c3 (R : f23_S) : f23_t_c3 := (fun x0 => R (f23_s_c3 x0))
noncomputable def f23_Q_c3 (k : Nat) : f23_L := [.c (f23_p 15) 0]
noncomputable def f23_C_c3 (k : Nat) : f23_S := fun σ => f23_a k (f23_Q_c3 k) .nx σ
noncomputable def f23_F_c3 (k : Nat) : f23_L := .c (f23_p 15) 0 :: []
theorem f23_f_c3 (k : Nat) : f23_a k (f23_Q_c3 k) = f23_a k (f23_F_c3 k) := (ap_cons _ rfl)
def f23_entry_B (k : Nat) (g_c3 : f23_t_c3) (a0 : Int) (a1 : Int) : Option (Int × Unit) := (if ¬ a1 = 0 then (if (a0.tmod a1) < 0 then (g_c3 (w64 ((a0.tmod a1) + a1))) else (g_c3 (a0.tmod a1))) else none)
def f23_c3_B (k : Nat) (x0 : Int) : Option (Int × Unit) := some (x0, ())
theorem f23_c3_P (k : Nat) : f23_o_c3 (fun σ => f23_a k (f23_F_c3 k) .nx σ) = f23_c3_B k := by kernel_rfl
def f23_c3 (k : Nat) : f23_t_c3 := f23_c3_B k
theorem f23_c3_E (k : Nat) : f23_o_c3 (f23_C_c3 k) = f23_c3 k :=
  Eq.trans (congrArg f23_o_c3 (ap_fn (f23_f_c3 k))) ((f23_c3_P k).trans (by rfl))
theorem f23_entry_P (k : Nat) (G_c3 : f23_S) (xs : DL f23_sig) : f23_a k (.c (f23_p 2) 0 :: .c (f23_p 6) 0 :: .c (f23_p 28) 0 :: .c (f23_p 29) 0 :: .j G_c3 :: f23_F_c3 k) .nx (σ0 14 48 f23_sig xs) = f23_entry_B k (f23_o_c3 G_c3) xs.1 xs.2.1 := by kernel_rfl
def f23 (k : Nat) (a0 : Int) (a1 : Int) : Option (Int × Unit) := f23_entry_B k (f23_c3 k) a0 a1
theorem f23_fe (k : Nat) : f23_a k [.c (f23_p 1) 0] = f23_a k (.c (f23_p 2) 0 :: .c (f23_p 6) 0 :: .c (f23_p 28) 0 :: .c (f23_p 29) 0 :: .j (f23_C_c3 k) :: f23_F_c3 k) := (Eq.trans ap_sq (ap_cons _ (Eq.trans ap_sq (ap_cons _ (Eq.trans ap_sq (Eq.trans ap_sq (ap_cons _ (ap_cons _ (Eq.trans (ap_pass (C := (f23_C_c3 k)) (fun _ => rfl)) (ap_cons _ (f23_f_c3 k)))))))))))
theorem f23_eq (k : Nat) (xs : DL f23_sig) : den T f23_Y (f23_E k) f23_A k f23_c 0 (σ0 14 48 f23_sig xs) (Kfin T f23_rs f23_ts) = f23 k xs.1 xs.2.1 :=
  Eq.trans (Eq.trans den_sb (ap_at (f23_fe k) _)) ((f23_entry_P k (f23_C_c3 k) xs).trans (by rw [f23_c3_E k] <;> rfl))
noncomputable def f23_con (k : Nat) : Con := ⟨f23_sig, f23_rs, fun xs => f23 k xs.1 xs.2.1⟩
theorem f23_ok (k : Nat) : PureOK Try.prog 23 f23_sig f23_rs (fun xs => f23 k xs.1 xs.2.1) :=
  (pure_of_den (k := k) (A := f23_A) (T := T) (Y := f23_Y) (E := f23_E k) (M := 48) (ts := f23_ts) T_ok trivial trivial mixed (f := 23) (fn := Try.f23) (c := f23_c) (by kernel_rfl) (by kernel_rfl) (by kernel_rfl) (by decide) (by kernel_rfl)).congr fun xs => (f23_eq k xs).symm
theorem f23_ent : Ent Try.prog 23 := fun args w => by kernel_rfl
/-! ### slices.Index[[]terrier/api.Ban,terrier/api.Ban]: function 159 -/
noncomputable def f159_c : Code := Try.f159.body.getD .skip
noncomputable abbrev f159_p (n : Nat) : Code := sb f159_c n
abbrev f159_sig : List PT := [(false, Tq2), (true, Tq1)]
abbrev f159_rs : List RT := [.d false (.int .i64)]
abbrev f159_ts : List RV := [.tmp 4]
abbrev f159_S := St → Option (RDL f159_rs)
abbrev f159_L := List (Fr (RDL f159_rs))
def f159_Y : Tys := []
noncomputable def f159_E (k : Nat) : Env := []
def f159_A : Ann := { loops := [(0, { slots := [(0, .val false Tq1), (3, .id), (7, .id), (8, .id)], keys := [(3, [])] })] }
noncomputable abbrev f159_a (k : Nat) (F : f159_L) : Kont (RDL f159_rs) := ap T f159_Y (f159_E k) f159_A k (Kfin T f159_rs f159_ts) F
def f159_s_l0 (y3_0 : Int) (y3_1 : Int) (x0 : (List (Int × Int))) (x7 : Int) (x8 : Int) : St := mkS 19 64 [(0, aV Tq1 x0), (3, aP 3), (7, aI x7), (8, aI x8)] [(3, .box [cI y3_0, cI y3_1])]
abbrev f159_t_l0 := Int → Int → (List (Int × Int)) → Int → Int → Option (Int × Unit)
abbrev f159_o_l0 (R : f159_S) : f159_t_l0 := (fun y3_0 y3_1 x0 x7 x8 => R (f159_s_l0 y3_0 y3_1 x0 x7 x8))
noncomputable def f159_Q_l0 (k : Nat) (R_l0 : f159_S) : f159_L := [.c (f159_p 52) 0, .j (fun σ => R_l0 (cut f159_A.loops 0 σ)), .blk 0, .c (f159_p 7) 0]
noncomputable def f159_C_l0 (k : Nat) (n : Nat) (σ : St) : Option (RDL f159_rs) := loopK (fun σ K => den T f159_Y (f159_E k) f159_A k (f159_p 52) 0 σ K) (cut f159_A.loops 0) (f159_a k [.blk 0, .c (f159_p 7) 0]) n σ
noncomputable def f159_F_l0 (k : Nat) (G_l0 : f159_S) : f159_L := .c (f159_p 52) 0 :: .j (fun σ => G_l0 (cut f159_A.loops 0 σ)) :: .blk 0 :: .c (f159_p 7) 0 :: []
theorem f159_f_l0 (k : Nat) (R_l0 : f159_S) : f159_a k (f159_Q_l0 k R_l0) = f159_a k (f159_F_l0 k R_l0) := (ap_cons _ (ap_cons _ (ap_cons _ (ap_cons _ rfl))))
def f159_entry_B (k : Nat) (g_l0 : f159_t_l0) (a0 : Td3) (a1 : (Int × Int)) : Option (Int × Unit) := (g_l0 a1.1 a1.2 a0 (a0.length : Int) 0)
def f159_l0_B (k : Nat) (g_l0 : f159_t_l0) (y3_0 : Int) (y3_1 : Int) (x0 : (List (Int × Int))) (x7 : Int) (x8 : Int) : Option (Int × Unit) := (if x8 < x7 then (if 0 ≤ x8 then (if x8 < (x0.length : Int) then (if (y3_0 = ((x0.getD (x8).toNat (0, 0)).1)) ∧ (y3_1 = ((x0.getD (x8).toNat (0, 0)).2)) then some (x8, ()) else (g_l0 y3_0 y3_1 x0 x7 (w64 (x8 + 1)))) else none) else none) else some ((-1), ()))
theorem f159_l0_P (k : Nat) (G_l0 : f159_S) : f159_o_l0 (fun σ => f159_a k (f159_F_l0 k G_l0) .nx σ) = f159_l0_B k (f159_o_l0 G_l0) := by kernel_rfl
def f159_l0 (k : Nat) : Nat → f159_t_l0
  | 0 => fun _ _ _ _ _ => none
  | n + 1 => f159_l0_B k (f159_l0 k n)
theorem f159_l0_E (k : Nat) : ∀ n, f159_o_l0 (f159_C_l0 k n) = f159_l0 k n
  | 0 => rfl
  | n + 1 =>
    Eq.trans (congrArg f159_o_l0 (Eq.trans (b := fun σ => f159_a k (f159_Q_l0 k (f159_C_l0 k n)) .nx σ) (by kernel_rfl) (ap_fn (f159_f_l0 k (f159_C_l0 k n))))) ((f159_l0_P k (f159_C_l0 k n)).trans (by rw [f159_l0_E k n] <;> rfl))
theorem f159_entry_P (k : Nat) (G_l0 : f159_S) (xs : DL f159_sig) : f159_a k (.c (f159_p 2) 0 :: .c (f159_p 12) 0 :: .j (fun σ => f159_a k (.j (fun σ => G_l0 (cut f159_A.loops 0 σ)) :: .blk 0 :: .c (f159_p 7) 0 :: []) .nx σ) :: .c (f159_p 7) 0 :: []) .nx (σ0 19 64 f159_sig xs) = f159_entry_B k (f159_o_l0 G_l0) xs.1 xs.2.1 := by kernel_rfl
def f159 (k : Nat) (a0 : Td3) (a1 : (Int × Int)) : Option (Int × Unit) := f159_entry_B k (f159_l0 k k) a0 a1
theorem f159_fe (k : Nat) : f159_a k [.c (f159_p 1) 0] = f159_a k (.c (f159_p 2) 0 :: .c (f159_p 12) 0 :: .j (fun σ => f159_a k (.j (fun σ => (f159_C_l0 k k) (cut f159_A.loops 0 σ)) :: .blk 0 :: .c (f159_p 7) 0 :: []) .nx σ) :: .c (f159_p 7) 0 :: []) := (Eq.trans ap_sq (ap_cons _ (Eq.trans ap_sq (Eq.trans ap_sq (ap_cons _ (Eq.trans (ap_bl 0) (Eq.trans (ap_j (Eq.trans (ap_lp (C := (f159_C_l0 k)) (fun _ _ => rfl)) (ap_cons _ (ap_cons _ (ap_cons _ rfl))))) (ap_cons _ (ap_cons _ rfl)))))))))
theorem f159_eq (k : Nat) (xs : DL f159_sig) : den T f159_Y (f159_E k) f159_A k f159_c 0 (σ0 19 64 f159_sig xs) (Kfin T f159_rs f159_ts) = f159 k xs.1 xs.2.1 :=
  Eq.trans (Eq.trans den_sb (ap_at (f159_fe k) _)) ((f159_entry_P k (f159_C_l0 k k) xs).trans (by rw [f159_l0_E k k] <;> rfl))
noncomputable def f159_con (k : Nat) : Con := ⟨f159_sig, f159_rs, fun xs => f159 k xs.1 xs.2.1⟩
theorem f159_ok (k : Nat) : PureOK Try.prog 159 f159_sig f159_rs (fun xs => f159 k xs.1 xs.2.1) :=
  (pure_of_den (k := k) (A := f159_A) (T := T) (Y := f159_Y) (E := f159_E k) (M := 64) (ts := f159_ts) T_ok trivial trivial mixed (f := 159) (fn := Try.f159) (c := f159_c) (by kernel_rfl) (by kernel_rfl) (by kernel_rfl) (by decide) (by kernel_rfl)).congr fun xs => (f159_eq k xs).symm
theorem f159_ent : Ent Try.prog 159 := fun args w => by kernel_rfl
/-! ### slices.Contains[[]terrier/api.Ban,terrier/api.Ban]: function 115 -/
noncomputable def f115_c : Code := Try.f115.body.getD .skip
noncomputable abbrev f115_p (n : Nat) : Code := sb f115_c n
abbrev f115_sig : List PT := [(false, Tq2), (true, Tq1)]
abbrev f115_rs : List RT := [.d false .bool]
abbrev f115_ts : List RV := [.tmp 4]
abbrev f115_S := St → Option (RDL f115_rs)
abbrev f115_L := List (Fr (RDL f115_rs))
def f115_Y : Tys := []
noncomputable def f115_E (k : Nat) : Env := [(159, .c (f159_con k))]
def f115_A : Ann := {}
noncomputable abbrev f115_a (k : Nat) (F : f115_L) : Kont (RDL f115_rs) := ap T f115_Y (f115_E k) f115_A k (Kfin T f115_rs f115_ts) F
def f115_entry_B (k : Nat) (a0 : Td3) (a1 : (Int × Int)) : Option (Bool × Unit) := ((f159 k a0 (a1.1, a1.2)).bind fun r1 => some (decide (0 ≤ r1.1), ()))
theorem f115_entry_P (k : Nat) (xs : DL f115_sig) : f115_a k (.c (f115_p 1) 0 :: []) .nx (σ0 9 32 f115_sig xs) = f115_entry_B k xs.1 xs.2.1 := by kernel_rfl
def f115 (k : Nat) (a0 : Td3) (a1 : (Int × Int)) : Option (Bool × Unit) := f115_entry_B k a0 a1
theorem f115_eq (k : Nat) (xs : DL f115_sig) : den T f115_Y (f115_E k) f115_A k f115_c 0 (σ0 9 32 f115_sig xs) (Kfin T f115_rs f115_ts) = f115 k xs.1 xs.2.1 :=
  Eq.trans (Eq.trans den_sb (ap_at (ap_cons _ rfl) _)) ((f115_entry_P k xs).trans (by rfl))
noncomputable def f115_con (k : Nat) : Con := ⟨f115_sig, f115_rs, fun xs => f115 k xs.1 xs.2.1⟩
theorem f115_ok (k : Nat) : PureOK Try.prog 115 f115_sig f115_rs (fun xs => f115 k xs.1 xs.2.1) :=
  (pure_of_den (k := k) (A := f115_A) (T := T) (Y := f115_Y) (E := f115_E k) (M := 32) (ts := f115_ts) T_ok ⟨f159_ok k, trivial⟩ ⟨f159_ent, trivial⟩ mixed (f := 115) (fn := Try.f115) (c := f115_c) (by kernel_rfl) (by kernel_rfl) (by kernel_rfl) (by decide) (by kernel_rfl)).congr fun xs => (f115_eq k xs).symm
theorem f115_ent : Ent Try.prog 115 := fun args w => by kernel_rfl
/-! ### terrier/terrkeep4.Walk: function 53 -/
noncomputable def f53_c : Code := Try.f53.body.getD .skip
noncomputable abbrev f53_p (n : Nat) : Code := sb f53_c n
abbrev f53_sig : List PT := [(true, Tq8), (false, (.int .i64)), (false, Tq9)]
abbrev f53_rs : List RT := [.d false Tq9, .d false (.int .i64), .d false (.int .i64)]
abbrev f53_ts : List RV := [.tmp 6, .tmp 7, .tmp 8]
abbrev f53_S := St → Option (RDL f53_rs)
abbrev f53_L := List (Fr (RDL f53_rs))
def f53_Y : Tys := [(3, (.int .i64))]
noncomputable def f53_E (k : Nat) : Env := [(23, .c (f23_con k)), (115, .c (f115_con k))]
def f53_A : Ann := { loops := [(0, { mat := [(9, 74, (.int .i64))], slots := [(3, .id), (9, .id), (10, .id), (11, .id), (19, .val false (.int .i64)), (20, .id), (21, .id)], keys := [(3, [.val false Tq1, .val false Tq5, .val false Tq1]), (74, [])] }), (2, { mat := [(9, 74, (.int .i64)), (14, 59, (.int .i64))], slots := [(3, .id), (9, .id), (10, .id), (11, .id), (13, .id), (14, .id), (19, .val false (.int .i64)), (20, .id), (21, .id), (26, .val false Tq5), (27, .id), (28, .id)], keys := [(3, [.val false Tq1, .val false Tq5, .val false Tq1]), (59, []), (74, [])] })], blks := [(0, { mat := [(9, 74, (.int .i64))], slots := [(9, .id), (10, .id), (11, .id)], keys := [(74, [])] })], regs := [(10, { mat := [(9, 74, (.int .i64)), (14, 59, (.int .i64))], slots := [(3, .id), (9, .id), (10, .id), (11, .id), (13, .id), (14, .id), (15, .id), (19, .val false (.int .i64)), (20, .id), (21, .id), (26, .val false Tq5), (27, .id), (28, .id), (55, .bool)], keys := [(3, [.val false Tq1, .val false Tq5, .val false Tq1]), (59, []), (74, [])] })], conds := [(11, { mat := [(9, 74, (.int .i64)), (14, 59, (.int .i64))], slots := [(3, .id), (9, .id), (10, .id), (11, .id), (13, .id), (14, .id), (19, .val false (.int .i64)), (20, .id), (21, .id), (26, .val false Tq5), (27, .id), (28, .id)], keys := [(3, [.val false Tq1, .val false Tq5, .val false Tq1]), (59, []), (74, [])] })] }
noncomputable abbrev f53_a (k : Nat) (F : f53_L) : Kont (RDL f53_rs) := ap T f53_Y (f53_E k) f53_A k (Kfin T f53_rs f53_ts) F
def f53_s_l0 (y3_0 : (List (Int × Int))) (y3_1 : (List (Int × (Int × (Int × Int))))) (y3_2 : (List (Int × Int))) (y74 : (List Int)) (x10 : Int) (x11 : Int) (x19 : (List Int)) (x20 : Int) (x21 : Int) : St := mkS 93 288 [(3, aP 3), (9, aO 74), (10, aI x10), (11, aI x11), (19, aV (.int .i64) x19), (20, aI x20), (21, aI x21)] [(3, .box [cV Tq1 y3_0, cV Tq5 y3_1, cV Tq1 y3_2]), (74, .vec (.int .i64) y74)]
abbrev f53_t_l0 := (List (Int × Int)) → (List (Int × (Int × (Int × Int)))) → (List (Int × Int)) → (List Int) → Int → Int → (List Int) → Int → Int → Option ((List Int) × Int × Int × Unit)
abbrev f53_o_l0 (R : f53_S) : f53_t_l0 := (fun y3_0 y3_1 y3_2 y74 x10 x11 x19 x20 x21 => R (f53_s_l0 y3_0 y3_1 y3_2 y74 x10 x11 x19 x20 x21))
noncomputable def f53_Q_l0 (k : Nat) (R_l0 : f53_S) : f53_L := [.c (f53_p 244) 0, .j (fun σ => R_l0 (cut f53_A.loops 0 σ)), .blk 0, .c (f53_p 31) 0]
noncomputable def f53_C_l0 (k : Nat) (n : Nat) (σ : St) : Option (RDL f53_rs) := loopK (fun σ K => den T f53_Y (f53_E k) f53_A k (f53_p 244) 0 σ K) (cut f53_A.loops 0) (f53_a k [.blk 0, .c (f53_p 31) 0]) n σ
def f53_s_l2 (y3_0 : (List (Int × Int))) (y3_1 : (List (Int × (Int × (Int × Int))))) (y3_2 : (List (Int × Int))) (y59 : (List Int)) (y74 : (List Int)) (x10 : Int) (x11 : Int) (x13 : Int) (x19 : (List Int)) (x20 : Int) (x21 : Int) (x27 : Int) (x28 : Int) : St := mkS 93 288 [(3, aP 3), (9, aO 74), (10, aI x10), (11, aI x11), (13, aI x13), (14, aO 59), (19, aV (.int .i64) x19), (20, aI x20), (21, aI x21), (26, aV Tq5 y3_1), (27, aI x27), (28, aI x28)] [(3, .box [cV Tq1 y3_0, cV Tq5 y3_1, cV Tq1 y3_2]), (59, .vec (.int .i64) y59), (74, .vec (.int .i64) y74)]
abbrev f53_t_l2 := (List (Int × Int)) → (List (Int × (Int × (Int × Int)))) → (List (Int × Int)) → (List Int) → (List Int) → Int → Int → Int → (List Int) → Int → Int → Int → Int → Option ((List Int) × Int × Int × Unit)
abbrev f53_o_l2 (R : f53_S) : f53_t_l2 := (fun y3_0 y3_1 y3_2 y59 y74 x10 x11 x13 x19 x20 x21 x27 x28 => R (f53_s_l2 y3_0 y3_1 y3_2 y59 y74 x10 x11 x13 x19 x20 x21 x27 x28))
noncomputable def f53_Q_l2 (k : Nat) (R_l0 R_l2 : f53_S) : f53_L := [.c (f53_p 250676) 2, .j (fun σ => R_l2 (cut f53_A.loops 2 σ)), .blk 2, .c (f53_p 31335) 1, .blk 1, .c (f53_p 1959) 0, .j (fun σ => R_l0 (cut f53_A.loops 0 σ)), .blk 0, .c (f53_p 31) 0]
noncomputable def f53_C_l2 (k : Nat) (R_l0 : f53_S) (n : Nat) (σ : St) : Option (RDL f53_rs) := loopK (fun σ K => den T f53_Y (f53_E k) f53_A k (f53_p 250676) 2 σ K) (cut f53_A.loops 2) (f53_a k [.blk 2, .c (f53_p 31335) 1, .blk 1, .c (f53_p 1959) 0, .j (fun σ => R_l0 (cut f53_A.loops 0 σ)), .blk 0, .c (f53_p 31) 0]) n σ
def f53_s_b0 (y74 : (List Int)) (x10 : Int) (x11 : Int) : St := mkS 93 288 [(9, aO 74), (10, aI x10), (11, aI x11)] [(74, .vec (.int .i64) y74)]
abbrev f53_t_b0 := (List Int) → Int → Int → Option ((List Int) × Int × Int × Unit)
abbrev f53_o_b0 (R : f53_S) : f53_t_b0 := (fun y74 x10 x11 => R (f53_s_b0 y74 x10 x11))
noncomputable def f53_Q_b0 (k : Nat) : f53_L := [.c (f53_p 31) 0]
noncomputable def f53_C_b0 (k : Nat) : f53_S := fun σ => f53_a k (f53_Q_b0 k) .nx σ
def f53_s_r10 (y3_0 : (List (Int × Int))) (y3_1 : (List (Int × (Int × (Int × Int))))) (y3_2 : (List (Int × Int))) (y59 : (List Int)) (y74 : (List Int)) (x10 : Int) (x11 : Int) (x13 : Int) (x15 : Int) (x19 : (List Int)) (x20 : Int) (x21 : Int) (x27 : Int) (x55 : Bool) : St := mkS 93 288 [(3, aP 3), (9, aO 74), (10, aI x10), (11, aI x11), (13, aI x13), (14, aO 59), (15, aI x15), (19, aV (.int .i64) x19), (20, aI x20), (21, aI x21), (26, aV Tq5 y3_1), (27, aI x27), (28, aI x15), (55, aB x55)] [(3, .box [cV Tq1 y3_0, cV Tq5 y3_1, cV Tq1 y3_2]), (59, .vec (.int .i64) y59), (74, .vec (.int .i64) y74)]
abbrev f53_t_r10 := (List (Int × Int)) → (List (Int × (Int × (Int × Int)))) → (List (Int × Int)) → (List Int) → (List Int) → Int → Int → Int → Int → (List Int) → Int → Int → Int → Bool → Option ((List Int) × Int × Int × Unit)
abbrev f53_o_r10 (R : f53_S) : f53_t_r10 := (fun y3_0 y3_1 y3_2 y59 y74 x10 x11 x13 x15 x19 x20 x21 x27 x55 => R (f53_s_r10 y3_0 y3_1 y3_2 y59 y74 x10 x11 x13 x15 x19 x20 x21 x27 x55))
noncomputable def f53_Q_r10 (k : Nat) (R_l2 R_l0 : f53_S) : f53_L := [.c (f53_p 16043315) 3, .blk 3, .c (f53_p 2005415) 2, .j (fun σ => R_l2 (cut f53_A.loops 2 σ)), .blk 2, .c (f53_p 31335) 1, .blk 1, .c (f53_p 1959) 0, .j (fun σ => R_l0 (cut f53_A.loops 0 σ)), .blk 0, .c (f53_p 31) 0]
noncomputable def f53_C_r10 (k : Nat) (R_l2 R_l0 : f53_S) : f53_S := fun σ => f53_a k (f53_Q_r10 k R_l2 R_l0) .nx σ
def f53_s_c11 (y3_0 : (List (Int × Int))) (y3_1 : (List (Int × (Int × (Int × Int))))) (y3_2 : (List (Int × Int))) (y59 : (List Int)) (y74 : (List Int)) (x10 : Int) (x11 : Int) (x13 : Int) (x19 : (List Int)) (x20 : Int) (x21 : Int) (x27 : Int) (x28 : Int) : St := mkS 93 288 [(3, aP 3), (9, aO 74), (10, aI x10), (11, aI x11), (13, aI x13), (14, aO 59), (19, aV (.int .i64) x19), (20, aI x20), (21, aI x21), (26, aV Tq5 y3_1), (27, aI x27), (28, aI x28)] [(3, .box [cV Tq1 y3_0, cV Tq5 y3_1, cV Tq1 y3_2]), (59, .vec (.int .i64) y59), (74, .vec (.int .i64) y74)]
abbrev f53_t_c11 := (List (Int × Int)) → (List (Int × (Int × (Int × Int)))) → (List (Int × Int)) → (List Int) → (List Int) → Int → Int → Int → (List Int) → Int → Int → Int → Int → Option ((List Int) × Int × Int × Unit)
abbrev f53_o_c11 (R : f53_S) : f53_t_c11 := (fun y3_0 y3_1 y3_2 y59 y74 x10 x11 x13 x19 x20 x21 x27 x28 => R (f53_s_c11 y3_0 y3_1 y3_2 y59 y74 x10 x11 x13 x19 x20 x21 x27 x28))
noncomputable def f53_Q_c11 (k : Nat) (R_l2 R_l0 : f53_S) : f53_L := [.blk 3, .c (f53_p 2005415) 2, .j (fun σ => R_l2 (cut f53_A.loops 2 σ)), .blk 2, .c (f53_p 31335) 1, .blk 1, .c (f53_p 1959) 0, .j (fun σ => R_l0 (cut f53_A.loops 0 σ)), .blk 0, .c (f53_p 31) 0]
noncomputable def f53_C_c11 (k : Nat) (R_l2 R_l0 : f53_S) : f53_S := fun σ => f53_a k (f53_Q_c11 k R_l2 R_l0) .nx σ
noncomputable def f53_F_b0 (k : Nat) : f53_L := .c (f53_p 31) 0 :: []
theorem f53_f_b0 (k : Nat) : f53_a k (f53_Q_b0 k) = f53_a k (f53_F_b0 k) := (ap_cons _ rfl)
noncomputable def f53_F_l0 (k : Nat) (G_l0 G_l2 G_b0 : f53_S) : f53_L := .c (f53_p 488) 0 :: .c (f53_p 978) 0 :: .j (fun σ => f53_a k (.c (f53_p 7832) 1 :: .c (f53_p 15666) 1 :: .c (f53_p 62668) 1 :: .j (fun σ => f53_a k (.j (fun σ => G_l2 (cut f53_A.loops 2 σ)) :: .blk 2 :: .c (f53_p 31335) 1 :: .blk 1 :: .c (f53_p 1959) 0 :: .j (fun σ => G_l0 (cut f53_A.loops 0 σ)) :: .b 0 (fun σ => G_b0 (cut f53_A.blks 0 σ)) :: f53_F_b0 k) .nx σ) :: .c (f53_p 31335) 1 :: .blk 1 :: .c (f53_p 1959) 0 :: .j (fun σ => G_l0 (cut f53_A.loops 0 σ)) :: .b 0 (fun σ => G_b0 (cut f53_A.blks 0 σ)) :: f53_F_b0 k) .nx σ) :: .c (f53_p 1959) 0 :: .j (fun σ => G_l0 (cut f53_A.loops 0 σ)) :: .b 0 (fun σ => G_b0 (cut f53_A.blks 0 σ)) :: f53_F_b0 k
theorem f53_f_l0 (k : Nat) (R_l0 : f53_S) : f53_a k (f53_Q_l0 k R_l0) = f53_a k (f53_F_l0 k R_l0 (f53_C_l2 k R_l0 k) (f53_C_b0 k)) := (Eq.trans ap_sq (ap_cons _ (Eq.trans ap_sq (ap_cons _ (Eq.trans ap_sq (Eq.trans (ap_bl 1) (Eq.trans (ap_j (Eq.trans ap_sq (ap_cons _ (Eq.trans ap_sq (ap_cons _ (Eq.trans ap_sq (Eq.trans ap_sq (ap_cons _ (Eq.trans (ap_bl 2) (Eq.trans (ap_j (Eq.trans (ap_lp (C := (f53_C_l2 k R_l0)) (fun _ _ => rfl)) (ap_cons _ (ap_cons _ (ap_cons _ (ap_cons _ (ap_cons _ (ap_cons _ (Eq.trans (ap_blkb (C := (f53_C_b0 k)) (fun _ => rfl)) (ap_cons _ (f53_f_b0 k))))))))))) (ap_cons _ (ap_cons _ (ap_cons _ (ap_cons _ (ap_cons _ (Eq.trans (ap_blkb (C := (f53_C_b0 k)) (fun _ => rfl)) (ap_cons _ (f53_f_b0 k)))))))))))))))))) (ap_cons _ (ap_cons _ (ap_cons _ (Eq.trans (ap_blkb (C := (f53_C_b0 k)) (fun _ => rfl)) (ap_cons _ (f53_f_b0 k)))))))))))))
noncomputable def f53_F_c11 (k : Nat) (G_l0 G_l2 G_b0 : f53_S) : f53_L := .blk 3 :: .c (f53_p 2005415) 2 :: .j (fun σ => G_l2 (cut f53_A.loops 2 σ)) :: .blk 2 :: .c (f53_p 31335) 1 :: .blk 1 :: .c (f53_p 1959) 0 :: .j (fun σ => G_l0 (cut f53_A.loops 0 σ)) :: .b 0 (fun σ => G_b0 (cut f53_A.blks 0 σ)) :: f53_F_b0 k
theorem f53_f_c11 (k : Nat) (R_l2 R_l0 : f53_S) : f53_a k (f53_Q_c11 k R_l2 R_l0) = f53_a k (f53_F_c11 k R_l0 R_l2 (f53_C_b0 k)) := (ap_cons _ (ap_cons _ (ap_cons _ (ap_cons _ (ap_cons _ (ap_cons _ (ap_cons _ (ap_cons _ (Eq.trans (ap_blkb (C := (f53_C_b0 k)) (fun _ => rfl)) (ap_cons _ (f53_f_b0 k)))))))))))
noncomputable def f53_F_r10 (k : Nat) (G_l0 G_l2 G_b0 G_c11 : f53_S) : f53_L := .c (f53_p 16043315) 3 :: .j G_c11 :: f53_F_c11 k G_l0 G_l2 G_b0
theorem f53_f_r10 (k : Nat) (R_l2 R_l0 : f53_S) : f53_a k (f53_Q_r10 k R_l2 R_l0) = f53_a k (f53_F_r10 k R_l0 R_l2 (f53_C_b0 k) (f53_C_c11 k R_l2 R_l0)) := (ap_cons _ (Eq.trans (ap_pass (C := (f53_C_c11 k R_l2 R_l0)) (fun _ => rfl)) (ap_cons _ (f53_f_c11 k R_l2 R_l0))))
noncomputable def f53_F_l2 (k : Nat) (G_l0 G_l2 G_b0 G_r10 G_c11 : f53_S) : f53_L := .c (f53_p 501352) 2 :: .c (f53_p 1002706) 2 :: .j (fun σ => f53_a k (.c (f53_p 8021656) 3 :: .c (f53_p 16043314) 3 :: .j G_r10 :: f53_F_r10 k G_l0 G_l2 G_b0 G_c11) .nx σ) :: .c (f53_p 2005415) 2 :: .j (fun σ => G_l2 (cut f53_A.loops 2 σ)) :: .blk 2 :: .c (f53_p 31335) 1 :: .blk 1 :: .c (f53_p 1959) 0 :: .j (fun σ => G_l0 (cut f53_A.loops 0 σ)) :: .b 0 (fun σ => G_b0 (cut f53_A.blks 0 σ)) :: f53_F_b0 k
theorem f53_f_l2 (k : Nat) (R_l0 R_l2 : f53_S) : f53_a k (f53_Q_l2 k R_l0 R_l2) = f53_a k (f53_F_l2 k R_l0 R_l2 (f53_C_b0 k) (f53_C_r10 k R_l2 R_l0) (f53_C_c11 k R_l2 R_l0)) := (Eq.trans ap_sq (ap_cons _ (Eq.trans ap_sq (ap_cons _ (Eq.trans ap_sq (Eq.trans (ap_bl 3) (Eq.trans (ap_j (Eq.trans ap_sq (ap_cons _ (Eq.trans ap_sq (ap_cons _ (Eq.trans (ap_pass (C := (f53_C_r10 k R_l2 R_l0)) (fun _ => rfl)) (ap_cons _ (f53_f_r10 k R_l2 R_l0)))))))) (ap_cons _ (ap_cons _ (ap_cons _ (ap_cons _ (ap_cons _ (ap_cons _ (ap_cons _ (ap_cons _ (Eq.trans (ap_blkb (C := (f53_C_b0 k)) (fun _ => rfl)) (ap_cons _ (f53_f_b0 k))))))))))))))))))
def f53_entry_B (k : Nat) (g_l0 : f53_t_l0) (a0 : Td12) (a1 : Int) (a2 : (List Int)) : Option ((List Int) × Int × Int × Unit) := (g_l0 a0.1 a0.2.1 a0.2.2 ([] : List Int) 0 a1 a2 (a2.length : Int) 0)
def f53_l0_B (k : Nat) (g_l2 : f53_t_l2) (g_b0 : f53_t_b0) (y3_0 : (List (Int × Int))) (y3_1 : (List (Int × (Int × (Int × Int))))) (y3_2 : (List (Int × Int))) (y74 : (List Int)) (x10 : Int) (x11 : Int) (x19 : (List Int)) (x20 : Int) (x21 : Int) : Option ((List Int) × Int × Int × Unit) := (if x21 < x20 then (if 0 ≤ x21 then (if x21 < (x19.length : Int) then (g_l2 y3_0 y3_1 y3_2 ([] : List Int) y74 x10 x11 (x19.getD (x21).toNat 0) x19 x20 x21 (y3_1.length : Int) 0) else none) else none) else (g_b0 y74 x10 x11))
def f53_l2_B (k : Nat) (g_l0 : f53_t_l0) (g_b0 : f53_t_b0) (g_r10 : f53_t_r10) (y3_0 : (List (Int × Int))) (y3_1 : (List (Int × (Int × (Int × Int))))) (y3_2 : (List (Int × Int))) (y59 : (List Int)) (y74 : (List Int)) (x10 : Int) (x11 : Int) (x13 : Int) (x19 : (List Int)) (x20 : Int) (x21 : Int) (x27 : Int) (x28 : Int) : Option ((List Int) × Int × Int × Unit) := (if x28 < x27 then (if 0 ≤ x28 then (if x28 < (y3_1.length : Int) then (if ((y3_1.getD (x28).toNat (0, (0, (0, 0)))).1) = x11 then (if (y74.length : Int) = 0 then (g_r10 y3_0 y3_1 y3_2 y59 y74 x10 x11 x13 x28 x19 x20 x21 x27 true) else (if 0 ≤ (w64 ((y74.length : Int) - 1)) then (if (w64 ((y74.length : Int) - 1)) < (y74.length : Int) then ((f115 k y3_2 ((y74.getD ((w64 ((y74.length : Int) - 1)).toNat) 0), x28)).bind fun r1 => (g_r10 y3_0 y3_1 y3_2 y59 y74 x10 x11 x13 x28 x19 x20 x21 x27 (decide (¬ (r1.1 = true))))) else none) else none)) else (g_r10 y3_0 y3_1 y3_2 y59 y74 x10 x11 x13 x28 x19 x20 x21 x27 false)) else none) else none) else (if (y59.length : Int) = 0 then (g_b0 y74 x10 x11) else ((f23 k x13 (y59.length : Int)).bind fun r2 => (if 0 ≤ r2.1 then (if r2.1 < (y59.length : Int) then (if (y74.length + 1) * 8 ≤ 140737488355328 then (if 0 ≤ (y59.getD ((r2.1).toNat) 0) then (if (y59.getD ((r2.1).toNat) 0) < (y3_1.length : Int) then (if 0 ≤ (y59.getD ((r2.1).toNat) 0) then (if (y59.getD ((r2.1).toNat) 0) < (y3_1.length : Int) then (g_l0 y3_0 y3_1 y3_2 (y74 ++ [(y59.getD ((r2.1).toNat) 0)]) (w64 (x10 + ((((y3_1.getD ((y59.getD ((r2.1).toNat) 0)).toNat (0, (0, (0, 0)))).2).2).1))) (((y3_1.getD ((y59.getD ((r2.1).toNat) 0)).toNat (0, (0, (0, 0)))).2).1) x19 x20 (w64 (x21 + 1))) else none) else none) else none) else none) else none) else none) else none))))
def f53_b0_B (k : Nat) (y74 : (List Int)) (x10 : Int) (x11 : Int) : Option ((List Int) × Int × Int × Unit) := some (y74, x10, x11, ())
def f53_r10_B (k : Nat) (g_c11 : f53_t_c11) (y3_0 : (List (Int × Int))) (y3_1 : (List (Int × (Int × (Int × Int))))) (y3_2 : (List (Int × Int))) (y59 : (List Int)) (y74 : (List Int)) (x10 : Int) (x11 : Int) (x13 : Int) (x15 : Int) (x19 : (List Int)) (x20 : Int) (x21 : Int) (x27 : Int) (x55 : Bool) : Option ((List Int) × Int × Int × Unit) := (if x55 = true then (if (y59.length + 1) * 8 ≤ 140737488355328 then (g_c11 y3_0 y3_1 y3_2 (y59 ++ [x15]) y74 x10 x11 x13 x19 x20 x21 x27 x15) else none) else (g_c11 y3_0 y3_1 y3_2 y59 y74 x10 x11 x13 x19 x20 x21 x27 x15))
def f53_c11_B (k : Nat) (g_l2 : f53_t_l2) (y3_0 : (List (Int × Int))) (y3_1 : (List (Int × (Int × (Int × Int))))) (y3_2 : (List (Int × Int))) (y59 : (List Int)) (y74 : (List Int)) (x10 : Int) (x11 : Int) (x13 : Int) (x19 : (List Int)) (x20 : Int) (x21 : Int) (x27 : Int) (x28 : Int) : Option ((List Int) × Int × Int × Unit) := (g_l2 y3_0 y3_1 y3_2 y59 y74 x10 x11 x13 x19 x20 x21 x27 (w64 (x28 + 1)))
theorem f53_b0_P (k : Nat) : f53_o_b0 (fun σ => f53_a k (f53_F_b0 k) .nx σ) = f53_b0_B k := by kernel_rfl
def f53_b0 (k : Nat) : f53_t_b0 := f53_b0_B k
theorem f53_b0_E (k : Nat) : f53_o_b0 (f53_C_b0 k) = f53_b0 k :=
  Eq.trans (congrArg f53_o_b0 (ap_fn (f53_f_b0 k))) ((f53_b0_P k).trans (by rfl))
theorem f53_c11_P (k : Nat) (G_l0 G_l2 G_b0 : f53_S) : f53_o_c11 (fun σ => f53_a k (f53_F_c11 k G_l0 G_l2 G_b0) .nx σ) = f53_c11_B k (f53_o_l2 G_l2) := by kernel_rfl
def f53_c11 (k : Nat) (r_l2 : f53_t_l2) (r_l0 : f53_t_l0) : f53_t_c11 := f53_c11_B k r_l2
theorem f53_c11_E (k : Nat) (R_l2 R_l0 : f53_S) : f53_o_c11 (f53_C_c11 k R_l2 R_l0) = f53_c11 k (f53_o_l2 R_l2) (f53_o_l0 R_l0) :=
  Eq.trans (congrArg f53_o_c11 (ap_fn (f53_f_c11 k R_l2 R_l0))) ((f53_c11_P k R_l0 R_l2 (f53_C_b0 k)).trans (by rfl))
theorem f53_r10_P (k : Nat) (G_l0 G_l2 G_b0 G_c11 : f53_S) : f53_o_r10 (fun σ => f53_a k (f53_F_r10 k G_l0 G_l2 G_b0 G_c11) .nx σ) = f53_r10_B k (f53_o_c11 G_c11) := by kernel_rfl
def f53_r10 (k : Nat) (r_l2 : f53_t_l2) (r_l0 : f53_t_l0) : f53_t_r10 := f53_r10_B k (f53_c11 k r_l2 r_l0)
theorem f53_r10_E (k : Nat) (R_l2 R_l0 : f53_S) : f53_o_r10 (f53_C_r10 k R_l2 R_l0) = f53_r10 k (f53_o_l2 R_l2) (f53_o_l0 R_l0) :=
  Eq.trans (congrArg f53_o_r10 (ap_fn (f53_f_r10 k R_l2 R_l0))) ((f53_r10_P k R_l0 R_l2 (f53_C_b0 k) (f53_C_c11 k R_l2 R_l0)).trans (by rw [f53_c11_E k R_l2 R_l0] <;> rfl))
theorem f53_l2_P (k : Nat) (G_l0 G_l2 G_b0 G_r10 G_c11 : f53_S) : f53_o_l2 (fun σ => f53_a k (f53_F_l2 k G_l0 G_l2 G_b0 G_r10 G_c11) .nx σ) = f53_l2_B k (f53_o_l0 G_l0) (f53_o_b0 G_b0) (f53_o_r10 G_r10) := by kernel_rfl
def f53_l2 (k : Nat) (r_l0 : f53_t_l0) : Nat → f53_t_l2
  | 0 => fun _ _ _ _ _ _ _ _ _ _ _ _ _ => none
  | n + 1 => f53_l2_B k r_l0 (f53_b0 k) (f53_r10 k (f53_l2 k r_l0 n) r_l0)
theorem f53_l2_E (k : Nat) (R_l0 : f53_S) : ∀ n, f53_o_l2 (f53_C_l2 k R_l0 n) = f53_l2 k (f53_o_l0 R_l0) n
  | 0 => rfl
  | n + 1 =>
    Eq.trans (congrArg f53_o_l2 (Eq.trans (b := fun σ => f53_a k (f53_Q_l2 k R_l0 (f53_C_l2 k R_l0 n)) .nx σ) (by kernel_rfl) (ap_fn (f53_f_l2 k R_l0 (f53_C_l2 k R_l0 n))))) ((f53_l2_P k R_l0 (f53_C_l2 k R_l0 n) (f53_C_b0 k) (f53_C_r10 k (f53_C_l2 k R_l0 n) R_l0) (f53_C_c11 k (f53_C_l2 k R_l0 n) R_l0)).trans (by rw [f53_b0_E k, f53_r10_E k (f53_C_l2 k R_l0 n) R_l0, f53_l2_E k R_l0 n] <;> rfl))
theorem f53_l0_P (k : Nat) (G_l0 G_l2 G_b0 : f53_S) : f53_o_l0 (fun σ => f53_a k (f53_F_l0 k G_l0 G_l2 G_b0) .nx σ) = f53_l0_B k (f53_o_l2 G_l2) (f53_o_b0 G_b0) := by kernel_rfl
def f53_l0 (k : Nat) : Nat → f53_t_l0
  | 0 => fun _ _ _ _ _ _ _ _ _ => none
  | n + 1 => f53_l0_B k (f53_l2 k (f53_l0 k n) k) (f53_b0 k)
theorem f53_l0_E (k : Nat) : ∀ n, f53_o_l0 (f53_C_l0 k n) = f53_l0 k n
  | 0 => rfl
  | n + 1 =>
    Eq.trans (congrArg f53_o_l0 (Eq.trans (b := fun σ => f53_a k (f53_Q_l0 k (f53_C_l0 k n)) .nx σ) (by kernel_rfl) (ap_fn (f53_f_l0 k (f53_C_l0 k n))))) ((f53_l0_P k (f53_C_l0 k n) (f53_C_l2 k (f53_C_l0 k n) k) (f53_C_b0 k)).trans (by rw [f53_l2_E k (f53_C_l0 k n) k, f53_b0_E k, f53_l0_E k n] <;> rfl))
theorem f53_entry_P (k : Nat) (G_l0 G_b0 : f53_S) (xs : DL f53_sig) : f53_a k (.c (f53_p 2) 0 :: .c (f53_p 6) 0 :: .c (f53_p 14) 0 :: .c (f53_p 60) 0 :: .j (fun σ => f53_a k (.j (fun σ => G_l0 (cut f53_A.loops 0 σ)) :: .b 0 (fun σ => G_b0 (cut f53_A.blks 0 σ)) :: f53_F_b0 k) .nx σ) :: f53_F_b0 k) .nx (σ0 93 288 f53_sig xs) = f53_entry_B k (f53_o_l0 G_l0) xs.1 xs.2.1 xs.2.2.1 := by kernel_rfl
def f53 (k : Nat) (a0 : Td12) (a1 : Int) (a2 : (List Int)) : Option ((List Int) × Int × Int × Unit) := f53_entry_B k (f53_l0 k k) a0 a1 a2
theorem f53_fe (k : Nat) : f53_a k [.c (f53_p 1) 0] = f53_a k (.c (f53_p 2) 0 :: .c (f53_p 6) 0 :: .c (f53_p 14) 0 :: .c (f53_p 60) 0 :: .j (fun σ => f53_a k (.j (fun σ => (f53_C_l0 k k) (cut f53_A.loops 0 σ)) :: .b 0 (fun σ => (f53_C_b0 k) (cut f53_A.blks 0 σ)) :: f53_F_b0 k) .nx σ) :: f53_F_b0 k) := (Eq.trans ap_sq (ap_cons _ (Eq.trans ap_sq (ap_cons _ (Eq.trans ap_sq (ap_cons _ (Eq.trans ap_sq (Eq.trans ap_sq (ap_cons _ (Eq.trans (ap_bl 0) (Eq.trans (ap_j (Eq.trans (ap_lp (C := (f53_C_l0 k)) (fun _ _ => rfl)) (ap_cons _ (Eq.trans (ap_blkb (C := (f53_C_b0 k)) (fun _ => rfl)) (ap_cons _ (f53_f_b0 k)))))) (ap_cons _ (f53_f_b0 k)))))))))))))
theorem f53_eq (k : Nat) (xs : DL f53_sig) : den T f53_Y (f53_E k) f53_A k f53_c 0 (σ0 93 288 f53_sig xs) (Kfin T f53_rs f53_ts) = f53 k xs.1 xs.2.1 xs.2.2.1 :=
  Eq.trans (Eq.trans den_sb (ap_at (f53_fe k) _)) ((f53_entry_P k (f53_C_l0 k k) (f53_C_b0 k) xs).trans (by rw [f53_l0_E k k] <;> rfl))
noncomputable def f53_con (k : Nat) : Con := ⟨f53_sig, f53_rs, fun xs => f53 k xs.1 xs.2.1 xs.2.2.1⟩
theorem f53_ok (k : Nat) : PureOK Try.prog 53 f53_sig f53_rs (fun xs => f53 k xs.1 xs.2.1 xs.2.2.1) :=
  (pure_of_den (k := k) (A := f53_A) (T := T) (Y := f53_Y) (E := f53_E k) (M := 288) (ts := f53_ts) T_ok ⟨f23_ok k, f115_ok k, trivial⟩ ⟨f23_ent, f115_ent, trivial⟩ mixed (f := 53) (fn := Try.f53) (c := f53_c) (by kernel_rfl) (by kernel_rfl) (by kernel_rfl) (by decide) (by kernel_rfl)).congr fun xs => (f53_eq k xs).symm
theorem f53_ent : Ent Try.prog 53 := fun args w => by kernel_rfl
/-! ### terrier/net.edge: function 116 -/
noncomputable def f116_c : Code := Try.f116.body.getD .skip
noncomputable abbrev f116_p (n : Nat) : Code := sb f116_c n
abbrev f116_sig : List PT := [(true, Tq8), (false, (.int .i64))]
abbrev f116_rs : List RT := [.d false .bool]
abbrev f116_ts : List RV := [.tmp 4]
abbrev f116_S := St → Option (RDL f116_rs)
abbrev f116_L := List (Fr (RDL f116_rs))
def f116_Y : Tys := []
noncomputable def f116_E (k : Nat) : Env := []
def f116_A : Ann := { regs := [(1, { slots := [(4, .bool)] })] }
noncomputable abbrev f116_a (k : Nat) (F : f116_L) : Kont (RDL f116_rs) := ap T f116_Y (f116_E k) f116_A k (Kfin T f116_rs f116_ts) F
def f116_s_r1 (x4 : Bool) : St := mkS 14 48 [(4, aB x4)] []
abbrev f116_t_r1 := Bool → Option (Bool × Unit)
abbrev f116_o_r1 (R : f116_S) : f116_t_r1 := (fun x4 => R (f116_s_r1 x4))
noncomputable def f116_Q_r1 (k : Nat) : f116_L := [.c (f116_p 7) 0]
noncomputable def f116_C_r1 (k : Nat) : f116_S := fun σ => f116_a k (f116_Q_r1 k) .nx σ
noncomputable def f116_F_r1 (k : Nat) : f116_L := .c (f116_p 7) 0 :: []
theorem f116_f_r1 (k : Nat) : f116_a k (f116_Q_r1 k) = f116_a k (f116_F_r1 k) := (ap_cons _ rfl)
def f116_entry_B (k : Nat) (g_r1 : f116_t_r1) (a0 : Td12) (a1 : Int) : Option (Bool × Unit) := (if 0 ≤ a1 then (g_r1 (decide (a1 < (a0.2.1.length : Int)))) else (g_r1 false))
def f116_r1_B (k : Nat) (x4 : Bool) : Option (Bool × Unit) := some (decide (x4 = true), ())
theorem f116_r1_P (k : Nat) : f116_o_r1 (fun σ => f116_a k (f116_F_r1 k) .nx σ) = f116_r1_B k := by kernel_rfl
def f116_r1 (k : Nat) : f116_t_r1 := f116_r1_B k
theorem f116_r1_E (k : Nat) : f116_o_r1 (f116_C_r1 k) = f116_r1 k :=
  Eq.trans (congrArg f116_o_r1 (ap_fn (f116_f_r1 k))) ((f116_r1_P k).trans (by rfl))
theorem f116_entry_P (k : Nat) (G_r1 : f116_S) (xs : DL f116_sig) : f116_a k (.c (f116_p 2) 0 :: .c (f116_p 6) 0 :: .j G_r1 :: f116_F_r1 k) .nx (σ0 14 48 f116_sig xs) = f116_entry_B k (f116_o_r1 G_r1) xs.1 xs.2.1 := by kernel_rfl
def f116 (k : Nat) (a0 : Td12) (a1 : Int) : Option (Bool × Unit) := f116_entry_B k (f116_r1 k) a0 a1
theorem f116_fe (k : Nat) : f116_a k [.c (f116_p 1) 0] = f116_a k (.c (f116_p 2) 0 :: .c (f116_p 6) 0 :: .j (f116_C_r1 k) :: f116_F_r1 k) := (Eq.trans ap_sq (ap_cons _ (Eq.trans ap_sq (ap_cons _ (Eq.trans (ap_pass (C := (f116_C_r1 k)) (fun _ => rfl)) (ap_cons _ (f116_f_r1 k)))))))
theorem f116_eq (k : Nat) (xs : DL f116_sig) : den T f116_Y (f116_E k) f116_A k f116_c 0 (σ0 14 48 f116_sig xs) (Kfin T f116_rs f116_ts) = f116 k xs.1 xs.2.1 :=
  Eq.trans (Eq.trans den_sb (ap_at (f116_fe k) _)) ((f116_entry_P k (f116_C_r1 k) xs).trans (by rw [f116_r1_E k] <;> rfl))
noncomputable def f116_con (k : Nat) : Con := ⟨f116_sig, f116_rs, fun xs => f116 k xs.1 xs.2.1⟩
theorem f116_ok (k : Nat) : PureOK Try.prog 116 f116_sig f116_rs (fun xs => f116 k xs.1 xs.2.1) :=
  (pure_of_den (k := k) (A := f116_A) (T := T) (Y := f116_Y) (E := f116_E k) (M := 48) (ts := f116_ts) T_ok trivial trivial mixed (f := 116) (fn := Try.f116) (c := f116_c) (by kernel_rfl) (by kernel_rfl) (by kernel_rfl) (by decide) (by kernel_rfl)).congr fun xs => (f116_eq k xs).symm
theorem f116_ent : Ent Try.prog 116 := fun args w => by kernel_rfl
/-! ### terrier/net.Turn: function 63 -/
noncomputable def f63_c : Code := Try.f63.body.getD .skip
noncomputable abbrev f63_p (n : Nat) : Code := sb f63_c n
abbrev f63_sig : List PT := [(true, Tq8), (false, (.int .i64)), (false, (.int .i64))]
abbrev f63_rs : List RT := [.d false .bool]
abbrev f63_ts : List RV := [.tmp 6]
abbrev f63_S := St → Option (RDL f63_rs)
abbrev f63_L := List (Fr (RDL f63_rs))
def f63_Y : Tys := []
noncomputable def f63_E (k : Nat) : Env := [(115, .c (f115_con k)), (116, .c (f116_con k))]
def f63_A : Ann := { regs := [(1, { slots := [(6, .bool)] })] }
noncomputable abbrev f63_a (k : Nat) (F : f63_L) : Kont (RDL f63_rs) := ap T f63_Y (f63_E k) f63_A k (Kfin T f63_rs f63_ts) F
def f63_s_r1 (x6 : Bool) : St := mkS 39 128 [(6, aB x6)] []
abbrev f63_t_r1 := Bool → Option (Bool × Unit)
abbrev f63_o_r1 (R : f63_S) : f63_t_r1 := (fun x6 => R (f63_s_r1 x6))
noncomputable def f63_Q_r1 (k : Nat) : f63_L := [.c (f63_p 7) 0]
noncomputable def f63_C_r1 (k : Nat) : f63_S := fun σ => f63_a k (f63_Q_r1 k) .nx σ
noncomputable def f63_F_r1 (k : Nat) : f63_L := .c (f63_p 7) 0 :: []
theorem f63_f_r1 (k : Nat) : f63_a k (f63_Q_r1 k) = f63_a k (f63_F_r1 k) := (ap_cons _ rfl)
def f63_entry_B (k : Nat) (g_r1 : f63_t_r1) (a0 : Td12) (a1 : Int) (a2 : Int) : Option (Bool × Unit) := ((f116 k (a0.1, (a0.2.1, a0.2.2)) a1).bind fun r1 => (if r1.1 = true then ((f116 k (a0.1, (a0.2.1, a0.2.2)) a2).bind fun r2 => (if r2.1 = true then (if 0 ≤ a1 then (if a1 < (a0.2.1.length : Int) then (if 0 ≤ a2 then (if a2 < (a0.2.1.length : Int) then (if (((a0.2.1.getD (a1).toNat (0, (0, (0, 0)))).2).1) = ((a0.2.1.getD (a2).toNat (0, (0, (0, 0)))).1) then ((f115 k a0.2.2 (a1, a2)).bind fun r3 => (g_r1 (decide (¬ (r3.1 = true))))) else (g_r1 false)) else none) else none) else none) else none) else (g_r1 false))) else (g_r1 false)))
def f63_r1_B (k : Nat) (x6 : Bool) : Option (Bool × Unit) := some (decide (x6 = true), ())
theorem f63_r1_P (k : Nat) : f63_o_r1 (fun σ => f63_a k (f63_F_r1 k) .nx σ) = f63_r1_B k := by kernel_rfl
def f63_r1 (k : Nat) : f63_t_r1 := f63_r1_B k
theorem f63_r1_E (k : Nat) : f63_o_r1 (f63_C_r1 k) = f63_r1 k :=
  Eq.trans (congrArg f63_o_r1 (ap_fn (f63_f_r1 k))) ((f63_r1_P k).trans (by rfl))
theorem f63_entry_P (k : Nat) (G_r1 : f63_S) (xs : DL f63_sig) : f63_a k (.c (f63_p 2) 0 :: .c (f63_p 6) 0 :: .j G_r1 :: f63_F_r1 k) .nx (σ0 39 128 f63_sig xs) = f63_entry_B k (f63_o_r1 G_r1) xs.1 xs.2.1 xs.2.2.1 := by kernel_rfl
def f63 (k : Nat) (a0 : Td12) (a1 : Int) (a2 : Int) : Option (Bool × Unit) := f63_entry_B k (f63_r1 k) a0 a1 a2
theorem f63_fe (k : Nat) : f63_a k [.c (f63_p 1) 0] = f63_a k (.c (f63_p 2) 0 :: .c (f63_p 6) 0 :: .j (f63_C_r1 k) :: f63_F_r1 k) := (Eq.trans ap_sq (ap_cons _ (Eq.trans ap_sq (ap_cons _ (Eq.trans (ap_pass (C := (f63_C_r1 k)) (fun _ => rfl)) (ap_cons _ (f63_f_r1 k)))))))
theorem f63_eq (k : Nat) (xs : DL f63_sig) : den T f63_Y (f63_E k) f63_A k f63_c 0 (σ0 39 128 f63_sig xs) (Kfin T f63_rs f63_ts) = f63 k xs.1 xs.2.1 xs.2.2.1 :=
  Eq.trans (Eq.trans den_sb (ap_at (f63_fe k) _)) ((f63_entry_P k (f63_C_r1 k) xs).trans (by rw [f63_r1_E k] <;> rfl))
noncomputable def f63_con (k : Nat) : Con := ⟨f63_sig, f63_rs, fun xs => f63 k xs.1 xs.2.1 xs.2.2.1⟩
theorem f63_ok (k : Nat) : PureOK Try.prog 63 f63_sig f63_rs (fun xs => f63 k xs.1 xs.2.1 xs.2.2.1) :=
  (pure_of_den (k := k) (A := f63_A) (T := T) (Y := f63_Y) (E := f63_E k) (M := 128) (ts := f63_ts) T_ok ⟨f115_ok k, f116_ok k, trivial⟩ ⟨f115_ent, f116_ent, trivial⟩ mixed (f := 63) (fn := Try.f63) (c := f63_c) (by kernel_rfl) (by kernel_rfl) (by kernel_rfl) (by decide) (by kernel_rfl)).congr fun xs => (f63_eq k xs).symm
theorem f63_ent : Ent Try.prog 63 := fun args w => by kernel_rfl
/-! ### terrier/point.limit: function 148 -/
noncomputable def f148_c : Code := Try.f148.body.getD .skip
noncomputable abbrev f148_p (n : Nat) : Code := sb f148_c n
abbrev f148_sig : List PT := [(false, (.int .i64)), (false, (.int .i64))]
abbrev f148_rs : List RT := [.d false (.int .i64)]
abbrev f148_ts : List RV := [.tmp 4]
abbrev f148_S := St → Option (RDL f148_rs)
abbrev f148_L := List (Fr (RDL f148_rs))
def f148_Y : Tys := []
noncomputable def f148_E (k : Nat) : Env := []
def f148_A : Ann := {}
noncomputable abbrev f148_a (k : Nat) (F : f148_L) : Kont (RDL f148_rs) := ap T f148_Y (f148_E k) f148_A k (Kfin T f148_rs f148_ts) F
def f148_entry_B (k : Nat) (a0 : Int) (a1 : Int) : Option (Int × Unit) := some ((mx2 true (w64 (0 - a1)) (mx2 false a0 a1)), ())
theorem f148_entry_P (k : Nat) (xs : DL f148_sig) : f148_a k (.c (f148_p 1) 0 :: []) .nx (σ0 11 48 f148_sig xs) = f148_entry_B k xs.1 xs.2.1 := by kernel_rfl
def f148 (k : Nat) (a0 : Int) (a1 : Int) : Option (Int × Unit) := f148_entry_B k a0 a1
theorem f148_eq (k : Nat) (xs : DL f148_sig) : den T f148_Y (f148_E k) f148_A k f148_c 0 (σ0 11 48 f148_sig xs) (Kfin T f148_rs f148_ts) = f148 k xs.1 xs.2.1 :=
  Eq.trans (Eq.trans den_sb (ap_at (ap_cons _ rfl) _)) ((f148_entry_P k xs).trans (by rfl))
noncomputable def f148_con (k : Nat) : Con := ⟨f148_sig, f148_rs, fun xs => f148 k xs.1 xs.2.1⟩
theorem f148_ok (k : Nat) : PureOK Try.prog 148 f148_sig f148_rs (fun xs => f148 k xs.1 xs.2.1) :=
  (pure_of_den (k := k) (A := f148_A) (T := T) (Y := f148_Y) (E := f148_E k) (M := 48) (ts := f148_ts) T_ok trivial trivial mixed (f := 148) (fn := Try.f148) (c := f148_c) (by kernel_rfl) (by kernel_rfl) (by kernel_rfl) (by decide) (by kernel_rfl)).congr fun xs => (f148_eq k xs).symm
theorem f148_ent : Ent Try.prog 148 := fun args w => by kernel_rfl
/-! ### terrier/point.Clamp: function 92 -/
noncomputable def f92_c : Code := Try.f92.body.getD .skip
noncomputable abbrev f92_p (n : Nat) : Code := sb f92_c n
abbrev f92_sig : List PT := [(true, Tq1)]
abbrev f92_rs : List RT := [.d true Tq1]
abbrev f92_ts : List RV := [.cell 2 50]
abbrev f92_S := St → Option (RDL f92_rs)
abbrev f92_L := List (Fr (RDL f92_rs))
def f92_Y : Tys := []
noncomputable def f92_E (k : Nat) : Env := [(148, .c (f148_con k))]
def f92_A : Ann := {}
noncomputable abbrev f92_a (k : Nat) (F : f92_L) : Kont (RDL f92_rs) := ap T f92_Y (f92_E k) f92_A k (Kfin T f92_rs f92_ts) F
def f92_entry_B (k : Nat) (a0 : (Int × Int)) : Option ((Int × Int) × Unit) := ((f148 k a0.1 1048576).bind fun r1 => ((f148 k a0.2 1048576).bind fun r2 => some ((r1.1, r2.1), ())))
theorem f92_entry_P (k : Nat) (xs : DL f92_sig) : f92_a k (.c (f92_p 1) 0 :: []) .nx (σ0 10 32 f92_sig xs) = f92_entry_B k xs.1 := by kernel_rfl
def f92 (k : Nat) (a0 : (Int × Int)) : Option ((Int × Int) × Unit) := f92_entry_B k a0
theorem f92_eq (k : Nat) (xs : DL f92_sig) : den T f92_Y (f92_E k) f92_A k f92_c 0 (σ0 10 32 f92_sig xs) (Kfin T f92_rs f92_ts) = f92 k xs.1 :=
  Eq.trans (Eq.trans den_sb (ap_at (ap_cons _ rfl) _)) ((f92_entry_P k xs).trans (by rfl))
noncomputable def f92_con (k : Nat) : Con := ⟨f92_sig, f92_rs, fun xs => f92 k xs.1⟩
theorem f92_ok (k : Nat) : PureOK Try.prog 92 f92_sig f92_rs (fun xs => f92 k xs.1) :=
  (pure_of_den (k := k) (A := f92_A) (T := T) (Y := f92_Y) (E := f92_E k) (M := 32) (ts := f92_ts) T_ok ⟨f148_ok k, trivial⟩ ⟨f148_ent, trivial⟩ mixed (f := 92) (fn := Try.f92) (c := f92_c) (by kernel_rfl) (by kernel_rfl) (by kernel_rfl) (by decide) (by kernel_rfl)).congr fun xs => (f92_eq k xs).symm
theorem f92_ent : Ent Try.prog 92 := fun args w => by kernel_rfl
/-! ### terrier/point.Ok: function 85 -/
noncomputable def f85_c : Code := Try.f85.body.getD .skip
noncomputable abbrev f85_p (n : Nat) : Code := sb f85_c n
abbrev f85_sig : List PT := [(true, Tq1)]
abbrev f85_rs : List RT := [.d false .bool]
abbrev f85_ts : List RV := [.tmp 2]
abbrev f85_S := St → Option (RDL f85_rs)
abbrev f85_L := List (Fr (RDL f85_rs))
def f85_Y : Tys := []
noncomputable def f85_E (k : Nat) : Env := [(92, .c (f92_con k))]
def f85_A : Ann := {}
noncomputable abbrev f85_a (k : Nat) (F : f85_L) : Kont (RDL f85_rs) := ap T f85_Y (f85_E k) f85_A k (Kfin T f85_rs f85_ts) F
def f85_entry_B (k : Nat) (a0 : (Int × Int)) : Option (Bool × Unit) := ((f92 k (a0.1, a0.2)).bind fun r1 => some (decide ((a0.1 = r1.1.1) ∧ (a0.2 = r1.1.2)), ()))
theorem f85_entry_P (k : Nat) (xs : DL f85_sig) : f85_a k (.c (f85_p 1) 0 :: []) .nx (σ0 7 32 f85_sig xs) = f85_entry_B k xs.1 := by kernel_rfl
def f85 (k : Nat) (a0 : (Int × Int)) : Option (Bool × Unit) := f85_entry_B k a0
theorem f85_eq (k : Nat) (xs : DL f85_sig) : den T f85_Y (f85_E k) f85_A k f85_c 0 (σ0 7 32 f85_sig xs) (Kfin T f85_rs f85_ts) = f85 k xs.1 :=
  Eq.trans (Eq.trans den_sb (ap_at (ap_cons _ rfl) _)) ((f85_entry_P k xs).trans (by rfl))
noncomputable def f85_con (k : Nat) : Con := ⟨f85_sig, f85_rs, fun xs => f85 k xs.1⟩
theorem f85_ok (k : Nat) : PureOK Try.prog 85 f85_sig f85_rs (fun xs => f85 k xs.1) :=
  (pure_of_den (k := k) (A := f85_A) (T := T) (Y := f85_Y) (E := f85_E k) (M := 32) (ts := f85_ts) T_ok ⟨f92_ok k, trivial⟩ ⟨f92_ent, trivial⟩ mixed (f := 85) (fn := Try.f85) (c := f85_c) (by kernel_rfl) (by kernel_rfl) (by kernel_rfl) (by decide) (by kernel_rfl)).congr fun xs => (f85_eq k xs).symm
theorem f85_ent : Ent Try.prog 85 := fun args w => by kernel_rfl
/-! ### slices.Index[[]terrier/api.Point,terrier/api.Point]: function 161 -/
noncomputable def f161_c : Code := Try.f161.body.getD .skip
noncomputable abbrev f161_p (n : Nat) : Code := sb f161_c n
abbrev f161_sig : List PT := [(false, Tq2), (true, Tq1)]
abbrev f161_rs : List RT := [.d false (.int .i64)]
abbrev f161_ts : List RV := [.tmp 4]
abbrev f161_S := St → Option (RDL f161_rs)
abbrev f161_L := List (Fr (RDL f161_rs))
def f161_Y : Tys := []
noncomputable def f161_E (k : Nat) : Env := []
def f161_A : Ann := { loops := [(0, { slots := [(0, .val false Tq1), (3, .id), (7, .id), (8, .id)], keys := [(3, [])] })] }
noncomputable abbrev f161_a (k : Nat) (F : f161_L) : Kont (RDL f161_rs) := ap T f161_Y (f161_E k) f161_A k (Kfin T f161_rs f161_ts) F
def f161_s_l0 (y3_0 : Int) (y3_1 : Int) (x0 : (List (Int × Int))) (x7 : Int) (x8 : Int) : St := mkS 19 64 [(0, aV Tq1 x0), (3, aP 3), (7, aI x7), (8, aI x8)] [(3, .box [cI y3_0, cI y3_1])]
abbrev f161_t_l0 := Int → Int → (List (Int × Int)) → Int → Int → Option (Int × Unit)
abbrev f161_o_l0 (R : f161_S) : f161_t_l0 := (fun y3_0 y3_1 x0 x7 x8 => R (f161_s_l0 y3_0 y3_1 x0 x7 x8))
noncomputable def f161_Q_l0 (k : Nat) (R_l0 : f161_S) : f161_L := [.c (f161_p 52) 0, .j (fun σ => R_l0 (cut f161_A.loops 0 σ)), .blk 0, .c (f161_p 7) 0]
noncomputable def f161_C_l0 (k : Nat) (n : Nat) (σ : St) : Option (RDL f161_rs) := loopK (fun σ K => den T f161_Y (f161_E k) f161_A k (f161_p 52) 0 σ K) (cut f161_A.loops 0) (f161_a k [.blk 0, .c (f161_p 7) 0]) n σ
noncomputable def f161_F_l0 (k : Nat) (G_l0 : f161_S) : f161_L := .c (f161_p 52) 0 :: .j (fun σ => G_l0 (cut f161_A.loops 0 σ)) :: .blk 0 :: .c (f161_p 7) 0 :: []
theorem f161_f_l0 (k : Nat) (R_l0 : f161_S) : f161_a k (f161_Q_l0 k R_l0) = f161_a k (f161_F_l0 k R_l0) := (ap_cons _ (ap_cons _ (ap_cons _ (ap_cons _ rfl))))
def f161_entry_B (k : Nat) (g_l0 : f161_t_l0) (a0 : Td3) (a1 : (Int × Int)) : Option (Int × Unit) := (g_l0 a1.1 a1.2 a0 (a0.length : Int) 0)
def f161_l0_B (k : Nat) (g_l0 : f161_t_l0) (y3_0 : Int) (y3_1 : Int) (x0 : (List (Int × Int))) (x7 : Int) (x8 : Int) : Option (Int × Unit) := (if x8 < x7 then (if 0 ≤ x8 then (if x8 < (x0.length : Int) then (if (y3_0 = ((x0.getD (x8).toNat (0, 0)).1)) ∧ (y3_1 = ((x0.getD (x8).toNat (0, 0)).2)) then some (x8, ()) else (g_l0 y3_0 y3_1 x0 x7 (w64 (x8 + 1)))) else none) else none) else some ((-1), ()))
theorem f161_l0_P (k : Nat) (G_l0 : f161_S) : f161_o_l0 (fun σ => f161_a k (f161_F_l0 k G_l0) .nx σ) = f161_l0_B k (f161_o_l0 G_l0) := by kernel_rfl
def f161_l0 (k : Nat) : Nat → f161_t_l0
  | 0 => fun _ _ _ _ _ => none
  | n + 1 => f161_l0_B k (f161_l0 k n)
theorem f161_l0_E (k : Nat) : ∀ n, f161_o_l0 (f161_C_l0 k n) = f161_l0 k n
  | 0 => rfl
  | n + 1 =>
    Eq.trans (congrArg f161_o_l0 (Eq.trans (b := fun σ => f161_a k (f161_Q_l0 k (f161_C_l0 k n)) .nx σ) (by kernel_rfl) (ap_fn (f161_f_l0 k (f161_C_l0 k n))))) ((f161_l0_P k (f161_C_l0 k n)).trans (by rw [f161_l0_E k n] <;> rfl))
theorem f161_entry_P (k : Nat) (G_l0 : f161_S) (xs : DL f161_sig) : f161_a k (.c (f161_p 2) 0 :: .c (f161_p 12) 0 :: .j (fun σ => f161_a k (.j (fun σ => G_l0 (cut f161_A.loops 0 σ)) :: .blk 0 :: .c (f161_p 7) 0 :: []) .nx σ) :: .c (f161_p 7) 0 :: []) .nx (σ0 19 64 f161_sig xs) = f161_entry_B k (f161_o_l0 G_l0) xs.1 xs.2.1 := by kernel_rfl
def f161 (k : Nat) (a0 : Td3) (a1 : (Int × Int)) : Option (Int × Unit) := f161_entry_B k (f161_l0 k k) a0 a1
theorem f161_fe (k : Nat) : f161_a k [.c (f161_p 1) 0] = f161_a k (.c (f161_p 2) 0 :: .c (f161_p 12) 0 :: .j (fun σ => f161_a k (.j (fun σ => (f161_C_l0 k k) (cut f161_A.loops 0 σ)) :: .blk 0 :: .c (f161_p 7) 0 :: []) .nx σ) :: .c (f161_p 7) 0 :: []) := (Eq.trans ap_sq (ap_cons _ (Eq.trans ap_sq (Eq.trans ap_sq (ap_cons _ (Eq.trans (ap_bl 0) (Eq.trans (ap_j (Eq.trans (ap_lp (C := (f161_C_l0 k)) (fun _ _ => rfl)) (ap_cons _ (ap_cons _ (ap_cons _ rfl))))) (ap_cons _ (ap_cons _ rfl)))))))))
theorem f161_eq (k : Nat) (xs : DL f161_sig) : den T f161_Y (f161_E k) f161_A k f161_c 0 (σ0 19 64 f161_sig xs) (Kfin T f161_rs f161_ts) = f161 k xs.1 xs.2.1 :=
  Eq.trans (Eq.trans den_sb (ap_at (f161_fe k) _)) ((f161_entry_P k (f161_C_l0 k k) xs).trans (by rw [f161_l0_E k k] <;> rfl))
noncomputable def f161_con (k : Nat) : Con := ⟨f161_sig, f161_rs, fun xs => f161 k xs.1 xs.2.1⟩
theorem f161_ok (k : Nat) : PureOK Try.prog 161 f161_sig f161_rs (fun xs => f161 k xs.1 xs.2.1) :=
  (pure_of_den (k := k) (A := f161_A) (T := T) (Y := f161_Y) (E := f161_E k) (M := 64) (ts := f161_ts) T_ok trivial trivial mixed (f := 161) (fn := Try.f161) (c := f161_c) (by kernel_rfl) (by kernel_rfl) (by kernel_rfl) (by decide) (by kernel_rfl)).congr fun xs => (f161_eq k xs).symm
theorem f161_ent : Ent Try.prog 161 := fun args w => by kernel_rfl
/-! ### slices.Contains[[]terrier/api.Point,terrier/api.Point]: function 125 -/
noncomputable def f125_c : Code := Try.f125.body.getD .skip
noncomputable abbrev f125_p (n : Nat) : Code := sb f125_c n
abbrev f125_sig : List PT := [(false, Tq2), (true, Tq1)]
abbrev f125_rs : List RT := [.d false .bool]
abbrev f125_ts : List RV := [.tmp 4]
abbrev f125_S := St → Option (RDL f125_rs)
abbrev f125_L := List (Fr (RDL f125_rs))
def f125_Y : Tys := []
noncomputable def f125_E (k : Nat) : Env := [(161, .c (f161_con k))]
def f125_A : Ann := {}
noncomputable abbrev f125_a (k : Nat) (F : f125_L) : Kont (RDL f125_rs) := ap T f125_Y (f125_E k) f125_A k (Kfin T f125_rs f125_ts) F
def f125_entry_B (k : Nat) (a0 : Td3) (a1 : (Int × Int)) : Option (Bool × Unit) := ((f161 k a0 (a1.1, a1.2)).bind fun r1 => some (decide (0 ≤ r1.1), ()))
theorem f125_entry_P (k : Nat) (xs : DL f125_sig) : f125_a k (.c (f125_p 1) 0 :: []) .nx (σ0 9 32 f125_sig xs) = f125_entry_B k xs.1 xs.2.1 := by kernel_rfl
def f125 (k : Nat) (a0 : Td3) (a1 : (Int × Int)) : Option (Bool × Unit) := f125_entry_B k a0 a1
theorem f125_eq (k : Nat) (xs : DL f125_sig) : den T f125_Y (f125_E k) f125_A k f125_c 0 (σ0 9 32 f125_sig xs) (Kfin T f125_rs f125_ts) = f125 k xs.1 xs.2.1 :=
  Eq.trans (Eq.trans den_sb (ap_at (ap_cons _ rfl) _)) ((f125_entry_P k xs).trans (by rfl))
noncomputable def f125_con (k : Nat) : Con := ⟨f125_sig, f125_rs, fun xs => f125 k xs.1 xs.2.1⟩
theorem f125_ok (k : Nat) : PureOK Try.prog 125 f125_sig f125_rs (fun xs => f125 k xs.1 xs.2.1) :=
  (pure_of_den (k := k) (A := f125_A) (T := T) (Y := f125_Y) (E := f125_E k) (M := 32) (ts := f125_ts) T_ok ⟨f161_ok k, trivial⟩ ⟨f161_ent, trivial⟩ mixed (f := 125) (fn := Try.f125) (c := f125_c) (by kernel_rfl) (by kernel_rfl) (by kernel_rfl) (by decide) (by kernel_rfl)).congr fun xs => (f125_eq k xs).symm
theorem f125_ent : Ent Try.prog 125 := fun args w => by kernel_rfl
/-! ### terrier/net.node: function 138 -/
noncomputable def f138_c : Code := Try.f138.body.getD .skip
noncomputable abbrev f138_p (n : Nat) : Code := sb f138_c n
abbrev f138_sig : List PT := [(true, Tq8), (false, (.int .i64))]
abbrev f138_rs : List RT := [.d false .bool]
abbrev f138_ts : List RV := [.tmp 4]
abbrev f138_S := St → Option (RDL f138_rs)
abbrev f138_L := List (Fr (RDL f138_rs))
def f138_Y : Tys := []
noncomputable def f138_E (k : Nat) : Env := []
def f138_A : Ann := { regs := [(1, { slots := [(4, .bool)] })] }
noncomputable abbrev f138_a (k : Nat) (F : f138_L) : Kont (RDL f138_rs) := ap T f138_Y (f138_E k) f138_A k (Kfin T f138_rs f138_ts) F
def f138_s_r1 (x4 : Bool) : St := mkS 14 48 [(4, aB x4)] []
abbrev f138_t_r1 := Bool → Option (Bool × Unit)
abbrev f138_o_r1 (R : f138_S) : f138_t_r1 := (fun x4 => R (f138_s_r1 x4))
noncomputable def f138_Q_r1 (k : Nat) : f138_L := [.c (f138_p 7) 0]
noncomputable def f138_C_r1 (k : Nat) : f138_S := fun σ => f138_a k (f138_Q_r1 k) .nx σ
noncomputable def f138_F_r1 (k : Nat) : f138_L := .c (f138_p 7) 0 :: []
theorem f138_f_r1 (k : Nat) : f138_a k (f138_Q_r1 k) = f138_a k (f138_F_r1 k) := (ap_cons _ rfl)
def f138_entry_B (k : Nat) (g_r1 : f138_t_r1) (a0 : Td12) (a1 : Int) : Option (Bool × Unit) := (if 0 ≤ a1 then (g_r1 (decide (a1 < (a0.1.length : Int)))) else (g_r1 false))
def f138_r1_B (k : Nat) (x4 : Bool) : Option (Bool × Unit) := some (decide (x4 = true), ())
theorem f138_r1_P (k : Nat) : f138_o_r1 (fun σ => f138_a k (f138_F_r1 k) .nx σ) = f138_r1_B k := by kernel_rfl
def f138_r1 (k : Nat) : f138_t_r1 := f138_r1_B k
theorem f138_r1_E (k : Nat) : f138_o_r1 (f138_C_r1 k) = f138_r1 k :=
  Eq.trans (congrArg f138_o_r1 (ap_fn (f138_f_r1 k))) ((f138_r1_P k).trans (by rfl))
theorem f138_entry_P (k : Nat) (G_r1 : f138_S) (xs : DL f138_sig) : f138_a k (.c (f138_p 2) 0 :: .c (f138_p 6) 0 :: .j G_r1 :: f138_F_r1 k) .nx (σ0 14 48 f138_sig xs) = f138_entry_B k (f138_o_r1 G_r1) xs.1 xs.2.1 := by kernel_rfl
def f138 (k : Nat) (a0 : Td12) (a1 : Int) : Option (Bool × Unit) := f138_entry_B k (f138_r1 k) a0 a1
theorem f138_fe (k : Nat) : f138_a k [.c (f138_p 1) 0] = f138_a k (.c (f138_p 2) 0 :: .c (f138_p 6) 0 :: .j (f138_C_r1 k) :: f138_F_r1 k) := (Eq.trans ap_sq (ap_cons _ (Eq.trans ap_sq (ap_cons _ (Eq.trans (ap_pass (C := (f138_C_r1 k)) (fun _ => rfl)) (ap_cons _ (f138_f_r1 k)))))))
theorem f138_eq (k : Nat) (xs : DL f138_sig) : den T f138_Y (f138_E k) f138_A k f138_c 0 (σ0 14 48 f138_sig xs) (Kfin T f138_rs f138_ts) = f138 k xs.1 xs.2.1 :=
  Eq.trans (Eq.trans den_sb (ap_at (f138_fe k) _)) ((f138_entry_P k (f138_C_r1 k) xs).trans (by rw [f138_r1_E k] <;> rfl))
noncomputable def f138_con (k : Nat) : Con := ⟨f138_sig, f138_rs, fun xs => f138 k xs.1 xs.2.1⟩
theorem f138_ok (k : Nat) : PureOK Try.prog 138 f138_sig f138_rs (fun xs => f138 k xs.1 xs.2.1) :=
  (pure_of_den (k := k) (A := f138_A) (T := T) (Y := f138_Y) (E := f138_E k) (M := 48) (ts := f138_ts) T_ok trivial trivial mixed (f := 138) (fn := Try.f138) (c := f138_c) (by kernel_rfl) (by kernel_rfl) (by kernel_rfl) (by decide) (by kernel_rfl)).congr fun xs => (f138_eq k xs).symm
theorem f138_ent : Ent Try.prog 138 := fun args w => by kernel_rfl
/-! ### terrier/net.Check: function 73 -/
noncomputable def f73_c : Code := Try.f73.body.getD .skip
noncomputable abbrev f73_p (n : Nat) : Code := sb f73_c n
abbrev f73_sig : List PT := [(true, Tq8)]
abbrev f73_rs : List RT := [.d false (.int .i64)]
abbrev f73_ts : List RV := [.tmp 2]
abbrev f73_S := St → Option (RDL f73_rs)
abbrev f73_L := List (Fr (RDL f73_rs))
def f73_Y : Tys := []
noncomputable def f73_E (k : Nat) : Env := [(85, .c (f85_con k)), (115, .c (f115_con k)), (116, .c (f116_con k)), (125, .c (f125_con k)), (138, .c (f138_con k))]
def f73_A : Ann := { regs := [(1, { slots := [(1, .id), (24, .bool)], keys := [(1, [.val false Tq1, .val false Tq5, .val false Tq1])] }), (14, { slots := [(1, .id), (6, .id), (44, .val false Tq5), (45, .id), (46, .id), (71, .bool)], keys := [(1, [.val false Tq1, .val false Tq5, .val false Tq1]), (6, [])] }), (22, { slots := [(1, .id), (7, .id), (8, .id), (79, .val false Tq1), (80, .id), (81, .id), (97, .bool)], keys := [(1, [.val false Tq1, .val false Tq5, .val false Tq1]), (8, [])] })], loops := [(0, { slots := [(1, .id), (26, .val false Tq1), (27, .id), (28, .id)], keys := [(1, [.val false Tq1, .val false Tq5, .val false Tq1])] }), (2, { slots := [(1, .id), (44, .val false Tq5), (45, .id), (46, .id)], keys := [(1, [.val false Tq1, .val false Tq5, .val false Tq1])] }), (4, { slots := [(1, .id), (79, .val false Tq1), (80, .id), (81, .id)], keys := [(1, [.val false Tq1, .val false Tq5, .val false Tq1])] })] }
noncomputable abbrev f73_a (k : Nat) (F : f73_L) : Kont (RDL f73_rs) := ap T f73_Y (f73_E k) f73_A k (Kfin T f73_rs f73_ts) F
def f73_s_r1 (y1_0 : (List (Int × Int))) (y1_1 : (List (Int × (Int × (Int × Int))))) (y1_2 : (List (Int × Int))) (x24 : Bool) : St := mkS 120 368 [(1, aP 1), (24, aB x24)] [(1, .box [cV Tq1 y1_0, cV Tq5 y1_1, cV Tq1 y1_2])]
abbrev f73_t_r1 := (List (Int × Int)) → (List (Int × (Int × (Int × Int)))) → (List (Int × Int)) → Bool → Option (Int × Unit)
abbrev f73_o_r1 (R : f73_S) : f73_t_r1 := (fun y1_0 y1_1 y1_2 x24 => R (f73_s_r1 y1_0 y1_1 y1_2 x24))
noncomputable def f73_Q_r1 (k : Nat) : f73_L := [.c (f73_p 13) 0, .c (f73_p 7) 0]
noncomputable def f73_C_r1 (k : Nat) : f73_S := fun σ => f73_a k (f73_Q_r1 k) .nx σ
def f73_s_l0 (y1_0 : (List (Int × Int))) (y1_1 : (List (Int × (Int × (Int × Int))))) (y1_2 : (List (Int × Int))) (x27 : Int) (x28 : Int) : St := mkS 120 368 [(1, aP 1), (26, aV Tq1 y1_0), (27, aI x27), (28, aI x28)] [(1, .box [cV Tq1 y1_0, cV Tq5 y1_1, cV Tq1 y1_2])]
abbrev f73_t_l0 := (List (Int × Int)) → (List (Int × (Int × (Int × Int)))) → (List (Int × Int)) → Int → Int → Option (Int × Unit)
abbrev f73_o_l0 (R : f73_S) : f73_t_l0 := (fun y1_0 y1_1 y1_2 x27 x28 => R (f73_s_l0 y1_0 y1_1 y1_2 x27 x28))
noncomputable def f73_Q_l0 (k : Nat) (R_l0 : f73_S) : f73_L := [.c (f73_p 116) 0, .j (fun σ => R_l0 (cut f73_A.loops 0 σ)), .blk 0, .c (f73_p 15) 0]
noncomputable def f73_C_l0 (k : Nat) (n : Nat) (σ : St) : Option (RDL f73_rs) := loopK (fun σ K => den T f73_Y (f73_E k) f73_A k (f73_p 116) 0 σ K) (cut f73_A.loops 0) (f73_a k [.blk 0, .c (f73_p 15) 0]) n σ
def f73_s_l2 (y1_0 : (List (Int × Int))) (y1_1 : (List (Int × (Int × (Int × Int))))) (y1_2 : (List (Int × Int))) (x45 : Int) (x46 : Int) : St := mkS 120 368 [(1, aP 1), (44, aV Tq5 y1_1), (45, aI x45), (46, aI x46)] [(1, .box [cV Tq1 y1_0, cV Tq5 y1_1, cV Tq1 y1_2])]
abbrev f73_t_l2 := (List (Int × Int)) → (List (Int × (Int × (Int × Int)))) → (List (Int × Int)) → Int → Int → Option (Int × Unit)
abbrev f73_o_l2 (R : f73_S) : f73_t_l2 := (fun y1_0 y1_1 y1_2 x45 x46 => R (f73_s_l2 y1_0 y1_1 y1_2 x45 x46))
noncomputable def f73_Q_l2 (k : Nat) (R_l2 : f73_S) : f73_L := [.c (f73_p 244) 2, .j (fun σ => R_l2 (cut f73_A.loops 2 σ)), .blk 2, .c (f73_p 31) 0]
noncomputable def f73_C_l2 (k : Nat) (n : Nat) (σ : St) : Option (RDL f73_rs) := loopK (fun σ K => den T f73_Y (f73_E k) f73_A k (f73_p 244) 2 σ K) (cut f73_A.loops 2) (f73_a k [.blk 2, .c (f73_p 31) 0]) n σ
def f73_s_r14 (y1_0 : (List (Int × Int))) (y1_1 : (List (Int × (Int × (Int × Int))))) (y1_2 : (List (Int × Int))) (y6_0 : Int) (y6_1 : Int) (y6_2 : Int) (y6_3 : Int) (x45 : Int) (x46 : Int) (x71 : Bool) : St := mkS 120 368 [(1, aP 1), (6, aP 6), (44, aV Tq5 y1_1), (45, aI x45), (46, aI x46), (71, aB x71)] [(1, .box [cV Tq1 y1_0, cV Tq5 y1_1, cV Tq1 y1_2]), (6, .box [cI y6_0, cI y6_1, cI y6_2, cI y6_3])]
abbrev f73_t_r14 := (List (Int × Int)) → (List (Int × (Int × (Int × Int)))) → (List (Int × Int)) → Int → Int → Int → Int → Int → Int → Bool → Option (Int × Unit)
abbrev f73_o_r14 (R : f73_S) : f73_t_r14 := (fun y1_0 y1_1 y1_2 y6_0 y6_1 y6_2 y6_3 x45 x46 x71 => R (f73_s_r14 y1_0 y1_1 y1_2 y6_0 y6_1 y6_2 y6_3 x45 x46 x71))
noncomputable def f73_Q_r14 (k : Nat) (R_l2 : f73_S) : f73_L := [.c (f73_p 31333) 3, .c (f73_p 15667) 3, .blk 3, .c (f73_p 1959) 2, .j (fun σ => R_l2 (cut f73_A.loops 2 σ)), .blk 2, .c (f73_p 31) 0]
noncomputable def f73_C_r14 (k : Nat) (R_l2 : f73_S) : f73_S := fun σ => f73_a k (f73_Q_r14 k R_l2) .nx σ
def f73_s_l4 (y1_0 : (List (Int × Int))) (y1_1 : (List (Int × (Int × (Int × Int))))) (y1_2 : (List (Int × Int))) (x80 : Int) (x81 : Int) : St := mkS 120 368 [(1, aP 1), (79, aV Tq1 y1_2), (80, aI x80), (81, aI x81)] [(1, .box [cV Tq1 y1_0, cV Tq5 y1_1, cV Tq1 y1_2])]
abbrev f73_t_l4 := (List (Int × Int)) → (List (Int × (Int × (Int × Int)))) → (List (Int × Int)) → Int → Int → Option (Int × Unit)
abbrev f73_o_l4 (R : f73_S) : f73_t_l4 := (fun y1_0 y1_1 y1_2 x80 x81 => R (f73_s_l4 y1_0 y1_1 y1_2 x80 x81))
noncomputable def f73_Q_l4 (k : Nat) (R_l4 : f73_S) : f73_L := [.c (f73_p 500) 4, .j (fun σ => R_l4 (cut f73_A.loops 4 σ)), .blk 4, .c (f73_p 63) 0]
noncomputable def f73_C_l4 (k : Nat) (n : Nat) (σ : St) : Option (RDL f73_rs) := loopK (fun σ K => den T f73_Y (f73_E k) f73_A k (f73_p 500) 4 σ K) (cut f73_A.loops 4) (f73_a k [.blk 4, .c (f73_p 63) 0]) n σ
def f73_s_r22 (y1_0 : (List (Int × Int))) (y1_1 : (List (Int × (Int × (Int × Int))))) (y1_2 : (List (Int × Int))) (y8_0 : Int) (y8_1 : Int) (x7 : Int) (x80 : Int) (x97 : Bool) : St := mkS 120 368 [(1, aP 1), (7, aI x7), (8, aP 8), (79, aV Tq1 y1_2), (80, aI x80), (81, aI x7), (97, aB x97)] [(1, .box [cV Tq1 y1_0, cV Tq5 y1_1, cV Tq1 y1_2]), (8, .box [cI y8_0, cI y8_1])]
abbrev f73_t_r22 := (List (Int × Int)) → (List (Int × (Int × (Int × Int)))) → (List (Int × Int)) → Int → Int → Int → Int → Bool → Option (Int × Unit)
abbrev f73_o_r22 (R : f73_S) : f73_t_r22 := (fun y1_0 y1_1 y1_2 y8_0 y8_1 x7 x80 x97 => R (f73_s_r22 y1_0 y1_1 y1_2 y8_0 y8_1 x7 x80 x97))
noncomputable def f73_Q_r22 (k : Nat) (R_l4 : f73_S) : f73_L := [.c (f73_p 64101) 5, .c (f73_p 32051) 5, .blk 5, .c (f73_p 4007) 4, .j (fun σ => R_l4 (cut f73_A.loops 4 σ)), .blk 4, .c (f73_p 63) 0]
noncomputable def f73_C_r22 (k : Nat) (R_l4 : f73_S) : f73_S := fun σ => f73_a k (f73_Q_r22 k R_l4) .nx σ
noncomputable def f73_F_r1 (k : Nat) (G_l0 G_l2 G_l4 : f73_S) : f73_L := .c (f73_p 13) 0 :: .c (f73_p 28) 0 :: .j (fun σ => f73_a k (.j (fun σ => G_l0 (cut f73_A.loops 0 σ)) :: .blk 0 :: .c (f73_p 60) 0 :: .j (fun σ => f73_a k (.j (fun σ => G_l2 (cut f73_A.loops 2 σ)) :: .blk 2 :: .c (f73_p 124) 0 :: .j (fun σ => f73_a k (.j (fun σ => G_l4 (cut f73_A.loops 4 σ)) :: .blk 4 :: .c (f73_p 63) 0 :: []) .nx σ) :: .c (f73_p 63) 0 :: []) .nx σ) :: .c (f73_p 124) 0 :: .j (fun σ => f73_a k (.j (fun σ => G_l4 (cut f73_A.loops 4 σ)) :: .blk 4 :: .c (f73_p 63) 0 :: []) .nx σ) :: .c (f73_p 63) 0 :: []) .nx σ) :: .c (f73_p 60) 0 :: .j (fun σ => f73_a k (.j (fun σ => G_l2 (cut f73_A.loops 2 σ)) :: .blk 2 :: .c (f73_p 124) 0 :: .j (fun σ => f73_a k (.j (fun σ => G_l4 (cut f73_A.loops 4 σ)) :: .blk 4 :: .c (f73_p 63) 0 :: []) .nx σ) :: .c (f73_p 63) 0 :: []) .nx σ) :: .c (f73_p 124) 0 :: .j (fun σ => f73_a k (.j (fun σ => G_l4 (cut f73_A.loops 4 σ)) :: .blk 4 :: .c (f73_p 63) 0 :: []) .nx σ) :: .c (f73_p 63) 0 :: []
theorem f73_f_r1 (k : Nat) : f73_a k (f73_Q_r1 k) = f73_a k (f73_F_r1 k (f73_C_l0 k k) (f73_C_l2 k k) (f73_C_l4 k k)) := (ap_cons _ (Eq.trans ap_sq (Eq.trans ap_sq (ap_cons _ (Eq.trans (ap_bl 0) (Eq.trans (ap_j (Eq.trans (ap_lp (C := (f73_C_l0 k)) (fun _ _ => rfl)) (ap_cons _ (ap_cons _ (Eq.trans ap_sq (Eq.trans ap_sq (ap_cons _ (Eq.trans (ap_bl 2) (Eq.trans (ap_j (Eq.trans (ap_lp (C := (f73_C_l2 k)) (fun _ _ => rfl)) (ap_cons _ (ap_cons _ (Eq.trans ap_sq (Eq.trans ap_sq (ap_cons _ (Eq.trans (ap_bl 4) (Eq.trans (ap_j (Eq.trans (ap_lp (C := (f73_C_l4 k)) (fun _ _ => rfl)) (ap_cons _ (ap_cons _ (ap_cons _ rfl))))) (ap_cons _ (ap_cons _ rfl))))))))))) (ap_cons _ (Eq.trans ap_sq (Eq.trans ap_sq (ap_cons _ (Eq.trans (ap_bl 4) (Eq.trans (ap_j (Eq.trans (ap_lp (C := (f73_C_l4 k)) (fun _ _ => rfl)) (ap_cons _ (ap_cons _ (ap_cons _ rfl))))) (ap_cons _ (ap_cons _ rfl))))))))))))))))) (ap_cons _ (Eq.trans ap_sq (Eq.trans ap_sq (ap_cons _ (Eq.trans (ap_bl 2) (Eq.trans (ap_j (Eq.trans (ap_lp (C := (f73_C_l2 k)) (fun _ _ => rfl)) (ap_cons _ (ap_cons _ (Eq.trans ap_sq (Eq.trans ap_sq (ap_cons _ (Eq.trans (ap_bl 4) (Eq.trans (ap_j (Eq.trans (ap_lp (C := (f73_C_l4 k)) (fun _ _ => rfl)) (ap_cons _ (ap_cons _ (ap_cons _ rfl))))) (ap_cons _ (ap_cons _ rfl))))))))))) (ap_cons _ (Eq.trans ap_sq (Eq.trans ap_sq (ap_cons _ (Eq.trans (ap_bl 4) (Eq.trans (ap_j (Eq.trans (ap_lp (C := (f73_C_l4 k)) (fun _ _ => rfl)) (ap_cons _ (ap_cons _ (ap_cons _ rfl))))) (ap_cons _ (ap_cons _ rfl))))))))))))))))))))
noncomputable def f73_F_l0 (k : Nat) (G_l0 G_l2 G_l4 : f73_S) : f73_L := .c (f73_p 116) 0 :: .j (fun σ => G_l0 (cut f73_A.loops 0 σ)) :: .blk 0 :: .c (f73_p 60) 0 :: .j (fun σ => f73_a k (.j (fun σ => G_l2 (cut f73_A.loops 2 σ)) :: .blk 2 :: .c (f73_p 124) 0 :: .j (fun σ => f73_a k (.j (fun σ => G_l4 (cut f73_A.loops 4 σ)) :: .blk 4 :: .c (f73_p 63) 0 :: []) .nx σ) :: .c (f73_p 63) 0 :: []) .nx σ) :: .c (f73_p 124) 0 :: .j (fun σ => f73_a k (.j (fun σ => G_l4 (cut f73_A.loops 4 σ)) :: .blk 4 :: .c (f73_p 63) 0 :: []) .nx σ) :: .c (f73_p 63) 0 :: []
theorem f73_f_l0 (k : Nat) (R_l0 : f73_S) : f73_a k (f73_Q_l0 k R_l0) = f73_a k (f73_F_l0 k R_l0 (f73_C_l2 k k) (f73_C_l4 k k)) := (ap_cons _ (ap_cons _ (ap_cons _ (Eq.trans ap_sq (Eq.trans ap_sq (ap_cons _ (Eq.trans (ap_bl 2) (Eq.trans (ap_j (Eq.trans (ap_lp (C := (f73_C_l2 k)) (fun _ _ => rfl)) (ap_cons _ (ap_cons _ (Eq.trans ap_sq (Eq.trans ap_sq (ap_cons _ (Eq.trans (ap_bl 4) (Eq.trans (ap_j (Eq.trans (ap_lp (C := (f73_C_l4 k)) (fun _ _ => rfl)) (ap_cons _ (ap_cons _ (ap_cons _ rfl))))) (ap_cons _ (ap_cons _ rfl))))))))))) (ap_cons _ (Eq.trans ap_sq (Eq.trans ap_sq (ap_cons _ (Eq.trans (ap_bl 4) (Eq.trans (ap_j (Eq.trans (ap_lp (C := (f73_C_l4 k)) (fun _ _ => rfl)) (ap_cons _ (ap_cons _ (ap_cons _ rfl))))) (ap_cons _ (ap_cons _ rfl))))))))))))))))
noncomputable def f73_F_r14 (k : Nat) (G_l2 G_l4 : f73_S) : f73_L := .c (f73_p 31333) 3 :: .c (f73_p 15667) 3 :: .blk 3 :: .c (f73_p 1959) 2 :: .j (fun σ => G_l2 (cut f73_A.loops 2 σ)) :: .blk 2 :: .c (f73_p 124) 0 :: .j (fun σ => f73_a k (.j (fun σ => G_l4 (cut f73_A.loops 4 σ)) :: .blk 4 :: .c (f73_p 63) 0 :: []) .nx σ) :: .c (f73_p 63) 0 :: []
theorem f73_f_r14 (k : Nat) (R_l2 : f73_S) : f73_a k (f73_Q_r14 k R_l2) = f73_a k (f73_F_r14 k R_l2 (f73_C_l4 k k)) := (ap_cons _ (ap_cons _ (ap_cons _ (ap_cons _ (ap_cons _ (ap_cons _ (Eq.trans ap_sq (Eq.trans ap_sq (ap_cons _ (Eq.trans (ap_bl 4) (Eq.trans (ap_j (Eq.trans (ap_lp (C := (f73_C_l4 k)) (fun _ _ => rfl)) (ap_cons _ (ap_cons _ (ap_cons _ rfl))))) (ap_cons _ (ap_cons _ rfl)))))))))))))
noncomputable def f73_F_l2 (k : Nat) (G_l2 G_r14 G_l4 : f73_S) : f73_L := .c (f73_p 488) 2 :: .c (f73_p 978) 2 :: .j (fun σ => f73_a k (.c (f73_p 7832) 3 :: .c (f73_p 31332) 3 :: .j G_r14 :: f73_F_r14 k G_l2 G_l4) .nx σ) :: .c (f73_p 1959) 2 :: .j (fun σ => G_l2 (cut f73_A.loops 2 σ)) :: .blk 2 :: .c (f73_p 124) 0 :: .j (fun σ => f73_a k (.j (fun σ => G_l4 (cut f73_A.loops 4 σ)) :: .blk 4 :: .c (f73_p 63) 0 :: []) .nx σ) :: .c (f73_p 63) 0 :: []
theorem f73_f_l2 (k : Nat) (R_l2 : f73_S) : f73_a k (f73_Q_l2 k R_l2) = f73_a k (f73_F_l2 k R_l2 (f73_C_r14 k R_l2) (f73_C_l4 k k)) := (Eq.trans ap_sq (ap_cons _ (Eq.trans ap_sq (ap_cons _ (Eq.trans ap_sq (Eq.trans (ap_bl 3) (Eq.trans (ap_j (Eq.trans ap_sq (ap_cons _ (Eq.trans ap_sq (Eq.trans ap_sq (ap_cons _ (Eq.trans (ap_pass (C := (f73_C_r14 k R_l2)) (fun _ => rfl)) (ap_cons _ (f73_f_r14 k R_l2))))))))) (ap_cons _ (ap_cons _ (ap_cons _ (ap_cons _ (Eq.trans ap_sq (Eq.trans ap_sq (ap_cons _ (Eq.trans (ap_bl 4) (Eq.trans (ap_j (Eq.trans (ap_lp (C := (f73_C_l4 k)) (fun _ _ => rfl)) (ap_cons _ (ap_cons _ (ap_cons _ rfl))))) (ap_cons _ (ap_cons _ rfl))))))))))))))))))
noncomputable def f73_F_r22 (k : Nat) (G_l4 : f73_S) : f73_L := .c (f73_p 64101) 5 :: .c (f73_p 32051) 5 :: .blk 5 :: .c (f73_p 4007) 4 :: .j (fun σ => G_l4 (cut f73_A.loops 4 σ)) :: .blk 4 :: .c (f73_p 63) 0 :: []
theorem f73_f_r22 (k : Nat) (R_l4 : f73_S) : f73_a k (f73_Q_r22 k R_l4) = f73_a k (f73_F_r22 k R_l4) := (ap_cons _ (ap_cons _ (ap_cons _ (ap_cons _ (ap_cons _ (ap_cons _ (ap_cons _ rfl)))))))
noncomputable def f73_F_l4 (k : Nat) (G_l4 G_r22 : f73_S) : f73_L := .c (f73_p 1000) 4 :: .c (f73_p 2002) 4 :: .j (fun σ => f73_a k (.c (f73_p 16024) 5 :: .c (f73_p 64100) 5 :: .j G_r22 :: f73_F_r22 k G_l4) .nx σ) :: .c (f73_p 4007) 4 :: .j (fun σ => G_l4 (cut f73_A.loops 4 σ)) :: .blk 4 :: .c (f73_p 63) 0 :: []
theorem f73_f_l4 (k : Nat) (R_l4 : f73_S) : f73_a k (f73_Q_l4 k R_l4) = f73_a k (f73_F_l4 k R_l4 (f73_C_r22 k R_l4)) := (Eq.trans ap_sq (ap_cons _ (Eq.trans ap_sq (ap_cons _ (Eq.trans ap_sq (Eq.trans (ap_bl 5) (Eq.trans (ap_j (Eq.trans ap_sq (ap_cons _ (Eq.trans ap_sq (Eq.trans ap_sq (ap_cons _ (Eq.trans (ap_pass (C := (f73_C_r22 k R_l4)) (fun _ => rfl)) (ap_cons _ (f73_f_r22 k R_l4))))))))) (ap_cons _ (ap_cons _ (ap_cons _ (ap_cons _ (ap_cons _ rfl))))))))))))
def f73_entry_B (k : Nat) (g_r1 : f73_t_r1) (a0 : Td12) : Option (Int × Unit) := (if 200 < (a0.1.length : Int) then (g_r1 a0.1 a0.2.1 a0.2.2 true) else (if 600 < (a0.2.1.length : Int) then (g_r1 a0.1 a0.2.1 a0.2.2 true) else (g_r1 a0.1 a0.2.1 a0.2.2 (decide (600 < (a0.2.2.length : Int))))))
def f73_r1_B (k : Nat) (g_l0 : f73_t_l0) (y1_0 : (List (Int × Int))) (y1_1 : (List (Int × (Int × (Int × Int))))) (y1_2 : (List (Int × Int))) (x24 : Bool) : Option (Int × Unit) := (if x24 = true then some (2, ()) else (g_l0 y1_0 y1_1 y1_2 (y1_0.length : Int) 0))
def f73_l0_B (k : Nat) (g_l0 : f73_t_l0) (g_l2 : f73_t_l2) (y1_0 : (List (Int × Int))) (y1_1 : (List (Int × (Int × (Int × Int))))) (y1_2 : (List (Int × Int))) (x27 : Int) (x28 : Int) : Option (Int × Unit) := (if x28 < x27 then (if 0 ≤ x28 then (if x28 < (y1_0.length : Int) then ((f85 k ((y1_0.getD (x28).toNat (0, 0)).1, (y1_0.getD (x28).toNat (0, 0)).2)).bind fun r1 => (if ¬ (r1.1 = true) then some (1, ()) else (if 0 ≤ x28 then (if x28 ≤ (y1_0.length : Int) then ((f125 k (y1_0.take (x28).toNat) ((y1_0.getD (x28).toNat (0, 0)).1, (y1_0.getD (x28).toNat (0, 0)).2)).bind fun r2 => (if r2.1 = true then some (5, ()) else (g_l0 y1_0 y1_1 y1_2 x27 (w64 (x28 + 1))))) else none) else none))) else none) else none) else (g_l2 y1_0 y1_1 y1_2 (y1_1.length : Int) 0))
def f73_l2_B (k : Nat) (g_r14 : f73_t_r14) (g_l4 : f73_t_l4) (y1_0 : (List (Int × Int))) (y1_1 : (List (Int × (Int × (Int × Int))))) (y1_2 : (List (Int × Int))) (x45 : Int) (x46 : Int) : Option (Int × Unit) := (if x46 < x45 then (if 0 ≤ x46 then (if x46 < (y1_1.length : Int) then ((f138 k (y1_0, (y1_1, y1_2)) ((y1_1.getD (x46).toNat (0, (0, (0, 0)))).1)).bind fun r1 => (if ¬ (r1.1 = true) then (g_r14 y1_0 y1_1 y1_2 ((y1_1.getD (x46).toNat (0, (0, (0, 0)))).1) (((y1_1.getD (x46).toNat (0, (0, (0, 0)))).2).1) ((((y1_1.getD (x46).toNat (0, (0, (0, 0)))).2).2).1) ((((y1_1.getD (x46).toNat (0, (0, (0, 0)))).2).2).2) x45 x46 true) else ((f138 k (y1_0, (y1_1, y1_2)) (((y1_1.getD (x46).toNat (0, (0, (0, 0)))).2).1)).bind fun r2 => (if ¬ (r2.1 = true) then (g_r14 y1_0 y1_1 y1_2 ((y1_1.getD (x46).toNat (0, (0, (0, 0)))).1) (((y1_1.getD (x46).toNat (0, (0, (0, 0)))).2).1) ((((y1_1.getD (x46).toNat (0, (0, (0, 0)))).2).2).1) ((((y1_1.getD (x46).toNat (0, (0, (0, 0)))).2).2).2) x45 x46 true) else (if ((((y1_1.getD (x46).toNat (0, (0, (0, 0)))).2).2).1) < 0 then (g_r14 y1_0 y1_1 y1_2 ((y1_1.getD (x46).toNat (0, (0, (0, 0)))).1) (((y1_1.getD (x46).toNat (0, (0, (0, 0)))).2).1) ((((y1_1.getD (x46).toNat (0, (0, (0, 0)))).2).2).1) ((((y1_1.getD (x46).toNat (0, (0, (0, 0)))).2).2).2) x45 x46 true) else (g_r14 y1_0 y1_1 y1_2 ((y1_1.getD (x46).toNat (0, (0, (0, 0)))).1) (((y1_1.getD (x46).toNat (0, (0, (0, 0)))).2).1) ((((y1_1.getD (x46).toNat (0, (0, (0, 0)))).2).2).1) ((((y1_1.getD (x46).toNat (0, (0, (0, 0)))).2).2).2) x45 x46 (decide (1099511627776 < ((((y1_1.getD (x46).toNat (0, (0, (0, 0)))).2).2).1))))))))) else none) else none) else (g_l4 y1_0 y1_1 y1_2 (y1_2.length : Int) 0))
def f73_r14_B (k : Nat) (g_l2 : f73_t_l2) (y1_0 : (List (Int × Int))) (y1_1 : (List (Int × (Int × (Int × Int))))) (y1_2 : (List (Int × Int))) (y6_0 : Int) (y6_1 : Int) (y6_2 : Int) (y6_3 : Int) (x45 : Int) (x46 : Int) (x71 : Bool) : Option (Int × Unit) := (if x71 = true then some (1, ()) else (if y6_0 = y6_1 then some (11, ()) else (g_l2 y1_0 y1_1 y1_2 x45 (w64 (x46 + 1)))))
def f73_l4_B (k : Nat) (g_r22 : f73_t_r22) (y1_0 : (List (Int × Int))) (y1_1 : (List (Int × (Int × (Int × Int))))) (y1_2 : (List (Int × Int))) (x80 : Int) (x81 : Int) : Option (Int × Unit) := (if x81 < x80 then (if 0 ≤ x81 then (if x81 < (y1_2.length : Int) then ((f116 k (y1_0, (y1_1, y1_2)) ((y1_2.getD (x81).toNat (0, 0)).1)).bind fun r1 => (if ¬ (r1.1 = true) then (g_r22 y1_0 y1_1 y1_2 ((y1_2.getD (x81).toNat (0, 0)).1) ((y1_2.getD (x81).toNat (0, 0)).2) x81 x80 true) else ((f116 k (y1_0, (y1_1, y1_2)) ((y1_2.getD (x81).toNat (0, 0)).2)).bind fun r2 => (g_r22 y1_0 y1_1 y1_2 ((y1_2.getD (x81).toNat (0, 0)).1) ((y1_2.getD (x81).toNat (0, 0)).2) x81 x80 (decide (¬ (r2.1 = true))))))) else none) else none) else some (0, ()))
def f73_r22_B (k : Nat) (g_l4 : f73_t_l4) (y1_0 : (List (Int × Int))) (y1_1 : (List (Int × (Int × (Int × Int))))) (y1_2 : (List (Int × Int))) (y8_0 : Int) (y8_1 : Int) (x7 : Int) (x80 : Int) (x97 : Bool) : Option (Int × Unit) := (if x97 = true then some (1, ()) else (if 0 ≤ y8_0 then (if y8_0 < (y1_1.length : Int) then (if 0 ≤ y8_1 then (if y8_1 < (y1_1.length : Int) then (if ¬ ((((y1_1.getD (y8_0).toNat (0, (0, (0, 0)))).2).1) = ((y1_1.getD (y8_1).toNat (0, (0, (0, 0)))).1)) then some (9, ()) else (if 0 ≤ x7 then (if x7 ≤ (y1_2.length : Int) then ((f115 k (y1_2.take (x7).toNat) (y8_0, y8_1)).bind fun r1 => (if r1.1 = true then some (5, ()) else (g_l4 y1_0 y1_1 y1_2 x80 (w64 (x7 + 1))))) else none) else none)) else none) else none) else none) else none))
theorem f73_r14_P (k : Nat) (G_l2 G_l4 : f73_S) : f73_o_r14 (fun σ => f73_a k (f73_F_r14 k G_l2 G_l4) .nx σ) = f73_r14_B k (f73_o_l2 G_l2) := by kernel_rfl
def f73_r14 (k : Nat) (r_l2 : f73_t_l2) : f73_t_r14 := f73_r14_B k r_l2
theorem f73_r14_E (k : Nat) (R_l2 : f73_S) : f73_o_r14 (f73_C_r14 k R_l2) = f73_r14 k (f73_o_l2 R_l2) :=
  Eq.trans (congrArg f73_o_r14 (ap_fn (f73_f_r14 k R_l2))) ((f73_r14_P k R_l2 (f73_C_l4 k k)).trans (by rfl))
theorem f73_r22_P (k : Nat) (G_l4 : f73_S) : f73_o_r22 (fun σ => f73_a k (f73_F_r22 k G_l4) .nx σ) = f73_r22_B k (f73_o_l4 G_l4) := by kernel_rfl
def f73_r22 (k : Nat) (r_l4 : f73_t_l4) : f73_t_r22 := f73_r22_B k r_l4
theorem f73_r22_E (k : Nat) (R_l4 : f73_S) : f73_o_r22 (f73_C_r22 k R_l4) = f73_r22 k (f73_o_l4 R_l4) :=
  Eq.trans (congrArg f73_o_r22 (ap_fn (f73_f_r22 k R_l4))) ((f73_r22_P k R_l4).trans (by rfl))
theorem f73_l4_P (k : Nat) (G_l4 G_r22 : f73_S) : f73_o_l4 (fun σ => f73_a k (f73_F_l4 k G_l4 G_r22) .nx σ) = f73_l4_B k (f73_o_r22 G_r22) := by kernel_rfl
def f73_l4 (k : Nat) : Nat → f73_t_l4
  | 0 => fun _ _ _ _ _ => none
  | n + 1 => f73_l4_B k (f73_r22 k (f73_l4 k n))
theorem f73_l4_E (k : Nat) : ∀ n, f73_o_l4 (f73_C_l4 k n) = f73_l4 k n
  | 0 => rfl
  | n + 1 =>
    Eq.trans (congrArg f73_o_l4 (Eq.trans (b := fun σ => f73_a k (f73_Q_l4 k (f73_C_l4 k n)) .nx σ) (by kernel_rfl) (ap_fn (f73_f_l4 k (f73_C_l4 k n))))) ((f73_l4_P k (f73_C_l4 k n) (f73_C_r22 k (f73_C_l4 k n))).trans (by rw [f73_r22_E k (f73_C_l4 k n), f73_l4_E k n] <;> rfl))
theorem f73_l2_P (k : Nat) (G_l2 G_r14 G_l4 : f73_S) : f73_o_l2 (fun σ => f73_a k (f73_F_l2 k G_l2 G_r14 G_l4) .nx σ) = f73_l2_B k (f73_o_r14 G_r14) (f73_o_l4 G_l4) := by kernel_rfl
def f73_l2 (k : Nat) : Nat → f73_t_l2
  | 0 => fun _ _ _ _ _ => none
  | n + 1 => f73_l2_B k (f73_r14 k (f73_l2 k n)) (f73_l4 k k)
theorem f73_l2_E (k : Nat) : ∀ n, f73_o_l2 (f73_C_l2 k n) = f73_l2 k n
  | 0 => rfl
  | n + 1 =>
    Eq.trans (congrArg f73_o_l2 (Eq.trans (b := fun σ => f73_a k (f73_Q_l2 k (f73_C_l2 k n)) .nx σ) (by kernel_rfl) (ap_fn (f73_f_l2 k (f73_C_l2 k n))))) ((f73_l2_P k (f73_C_l2 k n) (f73_C_r14 k (f73_C_l2 k n)) (f73_C_l4 k k)).trans (by rw [f73_r14_E k (f73_C_l2 k n), f73_l4_E k k, f73_l2_E k n] <;> rfl))
theorem f73_l0_P (k : Nat) (G_l0 G_l2 G_l4 : f73_S) : f73_o_l0 (fun σ => f73_a k (f73_F_l0 k G_l0 G_l2 G_l4) .nx σ) = f73_l0_B k (f73_o_l0 G_l0) (f73_o_l2 G_l2) := by kernel_rfl
def f73_l0 (k : Nat) : Nat → f73_t_l0
  | 0 => fun _ _ _ _ _ => none
  | n + 1 => f73_l0_B k (f73_l0 k n) (f73_l2 k k)
theorem f73_l0_E (k : Nat) : ∀ n, f73_o_l0 (f73_C_l0 k n) = f73_l0 k n
  | 0 => rfl
  | n + 1 =>
    Eq.trans (congrArg f73_o_l0 (Eq.trans (b := fun σ => f73_a k (f73_Q_l0 k (f73_C_l0 k n)) .nx σ) (by kernel_rfl) (ap_fn (f73_f_l0 k (f73_C_l0 k n))))) ((f73_l0_P k (f73_C_l0 k n) (f73_C_l2 k k) (f73_C_l4 k k)).trans (by rw [f73_l2_E k k, f73_l0_E k n] <;> rfl))
theorem f73_r1_P (k : Nat) (G_l0 G_l2 G_l4 : f73_S) : f73_o_r1 (fun σ => f73_a k (f73_F_r1 k G_l0 G_l2 G_l4) .nx σ) = f73_r1_B k (f73_o_l0 G_l0) := by kernel_rfl
def f73_r1 (k : Nat) : f73_t_r1 := f73_r1_B k (f73_l0 k k)
theorem f73_r1_E (k : Nat) : f73_o_r1 (f73_C_r1 k) = f73_r1 k :=
  Eq.trans (congrArg f73_o_r1 (ap_fn (f73_f_r1 k))) ((f73_r1_P k (f73_C_l0 k k) (f73_C_l2 k k) (f73_C_l4 k k)).trans (by rw [f73_l0_E k k] <;> rfl))
theorem f73_entry_P (k : Nat) (G_r1 G_l0 G_l2 G_l4 : f73_S) (xs : DL f73_sig) : f73_a k (.c (f73_p 2) 0 :: .c (f73_p 12) 0 :: .j G_r1 :: f73_F_r1 k G_l0 G_l2 G_l4) .nx (σ0 120 368 f73_sig xs) = f73_entry_B k (f73_o_r1 G_r1) xs.1 := by kernel_rfl
def f73 (k : Nat) (a0 : Td12) : Option (Int × Unit) := f73_entry_B k (f73_r1 k) a0
theorem f73_fe (k : Nat) : f73_a k [.c (f73_p 1) 0] = f73_a k (.c (f73_p 2) 0 :: .c (f73_p 12) 0 :: .j (f73_C_r1 k) :: f73_F_r1 k (f73_C_l0 k k) (f73_C_l2 k k) (f73_C_l4 k k)) := (Eq.trans ap_sq (ap_cons _ (Eq.trans ap_sq (Eq.trans ap_sq (ap_cons _ (Eq.trans (ap_pass (C := (f73_C_r1 k)) (fun _ => rfl)) (ap_cons _ (f73_f_r1 k))))))))
theorem f73_eq (k : Nat) (xs : DL f73_sig) : den T f73_Y (f73_E k) f73_A k f73_c 0 (σ0 120 368 f73_sig xs) (Kfin T f73_rs f73_ts) = f73 k xs.1 :=
  Eq.trans (Eq.trans den_sb (ap_at (f73_fe k) _)) ((f73_entry_P k (f73_C_r1 k) (f73_C_l0 k k) (f73_C_l2 k k) (f73_C_l4 k k) xs).trans (by rw [f73_r1_E k] <;> rfl))
noncomputable def f73_con (k : Nat) : Con := ⟨f73_sig, f73_rs, fun xs => f73 k xs.1⟩
theorem f73_ok (k : Nat) : PureOK Try.prog 73 f73_sig f73_rs (fun xs => f73 k xs.1) :=
  (pure_of_den (k := k) (A := f73_A) (T := T) (Y := f73_Y) (E := f73_E k) (M := 368) (ts := f73_ts) T_ok ⟨f85_ok k, f115_ok k, f116_ok k, f125_ok k, f138_ok k, trivial⟩ ⟨f85_ent, f115_ent, f116_ent, f125_ent, f138_ent, trivial⟩ mixed (f := 73) (fn := Try.f73) (c := f73_c) (by kernel_rfl) (by kernel_rfl) (by kernel_rfl) (by decide) (by kernel_rfl)).congr fun xs => (f73_eq k xs).symm
theorem f73_ent : Ent Try.prog 73 := fun args w => by kernel_rfl
/-! ### terrier/net.Cost: function 54 -/
noncomputable def f54_c : Code := Try.f54.body.getD .skip
noncomputable abbrev f54_p (n : Nat) : Code := sb f54_c n
abbrev f54_sig : List PT := [(true, Tq8), (false, Tq9)]
abbrev f54_rs : List RT := [.d false (.int .i64), .d false (.int .i64)]
abbrev f54_ts : List RV := [.tmp 4, .tmp 5]
abbrev f54_S := St → Option (RDL f54_rs)
abbrev f54_L := List (Fr (RDL f54_rs))
def f54_Y : Tys := []
noncomputable def f54_E (k : Nat) : Env := [(63, .c (f63_con k)), (73, .c (f73_con k)), (116, .c (f116_con k))]
def f54_A : Ann := { loops := [(0, { slots := [(1, .val false (.int .i64)), (2, .id), (7, .id), (15, .val false (.int .i64)), (16, .id), (17, .id)], keys := [(2, [.val false Tq1, .val false Tq5, .val false Tq1])] })], regs := [(10, { slots := [(1, .val false (.int .i64)), (2, .id), (7, .id), (8, .id), (9, .id), (15, .val false (.int .i64)), (16, .id), (17, .id), (46, .bool)], keys := [(2, [.val false Tq1, .val false Tq5, .val false Tq1])] }), (12, { slots := [(1, .val false (.int .i64)), (2, .id), (7, .id), (9, .id), (15, .val false (.int .i64)), (16, .id), (17, .id), (59, .bool)], keys := [(2, [.val false Tq1, .val false Tq5, .val false Tq1])] })] }
noncomputable abbrev f54_a (k : Nat) (F : f54_L) : Kont (RDL f54_rs) := ap T f54_Y (f54_E k) f54_A k (Kfin T f54_rs f54_ts) F
def f54_s_l0 (y2_0 : (List (Int × Int))) (y2_1 : (List (Int × (Int × (Int × Int))))) (y2_2 : (List (Int × Int))) (x1 : (List Int)) (x16 : Int) (x17 : Int) (x7 : Int) : St := mkS 70 224 [(1, aV (.int .i64) x1), (2, aP 2), (7, aI x7), (15, aV (.int .i64) x1), (16, aI x16), (17, aI x17)] [(2, .box [cV Tq1 y2_0, cV Tq5 y2_1, cV Tq1 y2_2])]
abbrev f54_t_l0 := (List (Int × Int)) → (List (Int × (Int × (Int × Int)))) → (List (Int × Int)) → (List Int) → Int → Int → Int → Option (Int × Int × Unit)
abbrev f54_o_l0 (R : f54_S) : f54_t_l0 := (fun y2_0 y2_1 y2_2 x1 x16 x17 x7 => R (f54_s_l0 y2_0 y2_1 y2_2 x1 x16 x17 x7))
noncomputable def f54_Q_l0 (k : Nat) (R_l0 : f54_S) : f54_L := [.c (f54_p 244) 0, .j (fun σ => R_l0 (cut f54_A.loops 0 σ)), .blk 0, .c (f54_p 31) 0]
noncomputable def f54_C_l0 (k : Nat) (n : Nat) (σ : St) : Option (RDL f54_rs) := loopK (fun σ K => den T f54_Y (f54_E k) f54_A k (f54_p 244) 0 σ K) (cut f54_A.loops 0) (f54_a k [.blk 0, .c (f54_p 31) 0]) n σ
def f54_s_r10 (y2_0 : (List (Int × Int))) (y2_1 : (List (Int × (Int × (Int × Int))))) (y2_2 : (List (Int × Int))) (x1 : (List Int)) (x16 : Int) (x17 : Int) (x46 : Bool) (x7 : Int) (x9 : Int) : St := mkS 70 224 [(1, aV (.int .i64) x1), (2, aP 2), (7, aI x7), (8, aI x17), (9, aI x9), (15, aV (.int .i64) x1), (16, aI x16), (17, aI x17), (46, aB x46)] [(2, .box [cV Tq1 y2_0, cV Tq5 y2_1, cV Tq1 y2_2])]
abbrev f54_t_r10 := (List (Int × Int)) → (List (Int × (Int × (Int × Int)))) → (List (Int × Int)) → (List Int) → Int → Int → Bool → Int → Int → Option (Int × Int × Unit)
abbrev f54_o_r10 (R : f54_S) : f54_t_r10 := (fun y2_0 y2_1 y2_2 x1 x16 x17 x46 x7 x9 => R (f54_s_r10 y2_0 y2_1 y2_2 x1 x16 x17 x46 x7 x9))
noncomputable def f54_Q_r10 (k : Nat) (R_l0 : f54_S) : f54_L := [.c (f54_p 62669) 1, .c (f54_p 31335) 1, .blk 1, .c (f54_p 1959) 0, .j (fun σ => R_l0 (cut f54_A.loops 0 σ)), .blk 0, .c (f54_p 31) 0]
noncomputable def f54_C_r10 (k : Nat) (R_l0 : f54_S) : f54_S := fun σ => f54_a k (f54_Q_r10 k R_l0) .nx σ
def f54_s_r12 (y2_0 : (List (Int × Int))) (y2_1 : (List (Int × (Int × (Int × Int))))) (y2_2 : (List (Int × Int))) (x1 : (List Int)) (x16 : Int) (x17 : Int) (x59 : Bool) (x7 : Int) (x9 : Int) : St := mkS 70 224 [(1, aV (.int .i64) x1), (2, aP 2), (7, aI x7), (9, aI x9), (15, aV (.int .i64) x1), (16, aI x16), (17, aI x17), (59, aB x59)] [(2, .box [cV Tq1 y2_0, cV Tq5 y2_1, cV Tq1 y2_2])]
abbrev f54_t_r12 := (List (Int × Int)) → (List (Int × (Int × (Int × Int)))) → (List (Int × Int)) → (List Int) → Int → Int → Bool → Int → Int → Option (Int × Int × Unit)
abbrev f54_o_r12 (R : f54_S) : f54_t_r12 := (fun y2_0 y2_1 y2_2 x1 x16 x17 x59 x7 x9 => R (f54_s_r12 y2_0 y2_1 y2_2 x1 x16 x17 x59 x7 x9))
noncomputable def f54_Q_r12 (k : Nat) (R_l0 : f54_S) : f54_L := [.c (f54_p 125341) 1, .c (f54_p 62671) 1, .blk 1, .c (f54_p 1959) 0, .j (fun σ => R_l0 (cut f54_A.loops 0 σ)), .blk 0, .c (f54_p 31) 0]
noncomputable def f54_C_r12 (k : Nat) (R_l0 : f54_S) : f54_S := fun σ => f54_a k (f54_Q_r12 k R_l0) .nx σ
noncomputable def f54_F_r12 (k : Nat) (G_l0 : f54_S) : f54_L := .c (f54_p 125341) 1 :: .c (f54_p 62671) 1 :: .blk 1 :: .c (f54_p 1959) 0 :: .j (fun σ => G_l0 (cut f54_A.loops 0 σ)) :: .blk 0 :: .c (f54_p 31) 0 :: []
theorem f54_f_r12 (k : Nat) (R_l0 : f54_S) : f54_a k (f54_Q_r12 k R_l0) = f54_a k (f54_F_r12 k R_l0) := (ap_cons _ (ap_cons _ (ap_cons _ (ap_cons _ (ap_cons _ (ap_cons _ (ap_cons _ rfl)))))))
noncomputable def f54_F_r10 (k : Nat) (G_l0 G_r12 : f54_S) : f54_L := .c (f54_p 62669) 1 :: .c (f54_p 125340) 1 :: .j G_r12 :: f54_F_r12 k G_l0
theorem f54_f_r10 (k : Nat) (R_l0 : f54_S) : f54_a k (f54_Q_r10 k R_l0) = f54_a k (f54_F_r10 k R_l0 (f54_C_r12 k R_l0)) := (ap_cons _ (Eq.trans ap_sq (Eq.trans ap_sq (ap_cons _ (Eq.trans (ap_pass (C := (f54_C_r12 k R_l0)) (fun _ => rfl)) (ap_cons _ (f54_f_r12 k R_l0)))))))
noncomputable def f54_F_l0 (k : Nat) (G_l0 G_r10 G_r12 : f54_S) : f54_L := .c (f54_p 488) 0 :: .c (f54_p 978) 0 :: .j (fun σ => f54_a k (.c (f54_p 7832) 1 :: .c (f54_p 15666) 1 :: .c (f54_p 62668) 1 :: .j G_r10 :: f54_F_r10 k G_l0 G_r12) .nx σ) :: .c (f54_p 1959) 0 :: .j (fun σ => G_l0 (cut f54_A.loops 0 σ)) :: .blk 0 :: .c (f54_p 31) 0 :: []
theorem f54_f_l0 (k : Nat) (R_l0 : f54_S) : f54_a k (f54_Q_l0 k R_l0) = f54_a k (f54_F_l0 k R_l0 (f54_C_r10 k R_l0) (f54_C_r12 k R_l0)) := (Eq.trans ap_sq (ap_cons _ (Eq.trans ap_sq (ap_cons _ (Eq.trans ap_sq (Eq.trans (ap_bl 1) (Eq.trans (ap_j (Eq.trans ap_sq (ap_cons _ (Eq.trans ap_sq (ap_cons _ (Eq.trans ap_sq (Eq.trans ap_sq (ap_cons _ (Eq.trans (ap_pass (C := (f54_C_r10 k R_l0)) (fun _ => rfl)) (ap_cons _ (f54_f_r10 k R_l0))))))))))) (ap_cons _ (ap_cons _ (ap_cons _ (ap_cons _ (ap_cons _ rfl))))))))))))
def f54_entry_B (k : Nat) (g_l0 : f54_t_l0) (a0 : Td12) (a1 : (List Int)) : Option (Int × Int × Unit) := ((f73 k (a0.1, (a0.2.1, a0.2.2))).bind fun r1 => (if ¬ (r1.1 = 0) then some (0, r1.1, ()) else (g_l0 a0.1 a0.2.1 a0.2.2 a1 (a1.length : Int) 0 0)))
def f54_l0_B (k : Nat) (g_r10 : f54_t_r10) (y2_0 : (List (Int × Int))) (y2_1 : (List (Int × (Int × (Int × Int))))) (y2_2 : (List (Int × Int))) (x1 : (List Int)) (x16 : Int) (x17 : Int) (x7 : Int) : Option (Int × Int × Unit) := (if x17 < x16 then (if 0 ≤ x17 then (if x17 < (x1.length : Int) then ((f116 k (y2_0, (y2_1, y2_2)) (x1.getD (x17).toNat 0)).bind fun r1 => (if ¬ (r1.1 = true) then some (0, 1, ()) else (if 0 < x17 then (if 0 ≤ (w64 (x17 - 1)) then (if (w64 (x17 - 1)) < (x1.length : Int) then (if 0 ≤ (x1.getD (w64 (x17 - 1)).toNat 0) then (if (x1.getD (w64 (x17 - 1)).toNat 0) < (y2_1.length : Int) then (if 0 ≤ (x1.getD (x17).toNat 0) then (if (x1.getD (x17).toNat 0) < (y2_1.length : Int) then (g_r10 y2_0 y2_1 y2_2 x1 x16 x17 (decide (¬ ((((y2_1.getD ((x1.getD (w64 (x17 - 1)).toNat 0)).toNat (0, (0, (0, 0)))).2).1) = ((y2_1.getD ((x1.getD (x17).toNat 0)).toNat (0, (0, (0, 0)))).1)))) x7 (x1.getD (x17).toNat 0)) else none) else none) else none) else none) else none) else none) else (g_r10 y2_0 y2_1 y2_2 x1 x16 x17 false x7 (x1.getD (x17).toNat 0))))) else none) else none) else some (x7, 0, ()))
def f54_r10_B (k : Nat) (g_r12 : f54_t_r12) (y2_0 : (List (Int × Int))) (y2_1 : (List (Int × (Int × (Int × Int))))) (y2_2 : (List (Int × Int))) (x1 : (List Int)) (x16 : Int) (x17 : Int) (x46 : Bool) (x7 : Int) (x9 : Int) : Option (Int × Int × Unit) := (if x46 = true then some (0, 9, ()) else (if 0 < x17 then (if 0 ≤ (w64 (x17 - 1)) then (if (w64 (x17 - 1)) < (x1.length : Int) then ((f63 k (y2_0, (y2_1, y2_2)) (x1.getD (w64 (x17 - 1)).toNat 0) x9).bind fun r1 => (g_r12 y2_0 y2_1 y2_2 x1 x16 x17 (decide (¬ (r1.1 = true))) x7 x9)) else none) else none) else (g_r12 y2_0 y2_1 y2_2 x1 x16 x17 false x7 x9)))
def f54_r12_B (k : Nat) (g_l0 : f54_t_l0) (y2_0 : (List (Int × Int))) (y2_1 : (List (Int × (Int × (Int × Int))))) (y2_2 : (List (Int × Int))) (x1 : (List Int)) (x16 : Int) (x17 : Int) (x59 : Bool) (x7 : Int) (x9 : Int) : Option (Int × Int × Unit) := (if x59 = true then some (0, 19, ()) else (if 0 ≤ x9 then (if x9 < (y2_1.length : Int) then (g_l0 y2_0 y2_1 y2_2 x1 x16 (w64 (x17 + 1)) (w64 (x7 + ((((y2_1.getD (x9).toNat (0, (0, (0, 0)))).2).2).1)))) else none) else none))
theorem f54_r12_P (k : Nat) (G_l0 : f54_S) : f54_o_r12 (fun σ => f54_a k (f54_F_r12 k G_l0) .nx σ) = f54_r12_B k (f54_o_l0 G_l0) := by kernel_rfl
def f54_r12 (k : Nat) (r_l0 : f54_t_l0) : f54_t_r12 := f54_r12_B k r_l0
theorem f54_r12_E (k : Nat) (R_l0 : f54_S) : f54_o_r12 (f54_C_r12 k R_l0) = f54_r12 k (f54_o_l0 R_l0) :=
  Eq.trans (congrArg f54_o_r12 (ap_fn (f54_f_r12 k R_l0))) ((f54_r12_P k R_l0).trans (by rfl))
theorem f54_r10_P (k : Nat) (G_l0 G_r12 : f54_S) : f54_o_r10 (fun σ => f54_a k (f54_F_r10 k G_l0 G_r12) .nx σ) = f54_r10_B k (f54_o_r12 G_r12) := by kernel_rfl
def f54_r10 (k : Nat) (r_l0 : f54_t_l0) : f54_t_r10 := f54_r10_B k (f54_r12 k r_l0)
theorem f54_r10_E (k : Nat) (R_l0 : f54_S) : f54_o_r10 (f54_C_r10 k R_l0) = f54_r10 k (f54_o_l0 R_l0) :=
  Eq.trans (congrArg f54_o_r10 (ap_fn (f54_f_r10 k R_l0))) ((f54_r10_P k R_l0 (f54_C_r12 k R_l0)).trans (by rw [f54_r12_E k R_l0] <;> rfl))
theorem f54_l0_P (k : Nat) (G_l0 G_r10 G_r12 : f54_S) : f54_o_l0 (fun σ => f54_a k (f54_F_l0 k G_l0 G_r10 G_r12) .nx σ) = f54_l0_B k (f54_o_r10 G_r10) := by kernel_rfl
def f54_l0 (k : Nat) : Nat → f54_t_l0
  | 0 => fun _ _ _ _ _ _ _ => none
  | n + 1 => f54_l0_B k (f54_r10 k (f54_l0 k n))
theorem f54_l0_E (k : Nat) : ∀ n, f54_o_l0 (f54_C_l0 k n) = f54_l0 k n
  | 0 => rfl
  | n + 1 =>
    Eq.trans (congrArg f54_o_l0 (Eq.trans (b := fun σ => f54_a k (f54_Q_l0 k (f54_C_l0 k n)) .nx σ) (by kernel_rfl) (ap_fn (f54_f_l0 k (f54_C_l0 k n))))) ((f54_l0_P k (f54_C_l0 k n) (f54_C_r10 k (f54_C_l0 k n)) (f54_C_r12 k (f54_C_l0 k n))).trans (by rw [f54_r10_E k (f54_C_l0 k n), f54_l0_E k n] <;> rfl))
theorem f54_entry_P (k : Nat) (G_l0 : f54_S) (xs : DL f54_sig) : f54_a k (.c (f54_p 2) 0 :: .c (f54_p 6) 0 :: .c (f54_p 14) 0 :: .c (f54_p 60) 0 :: .j (fun σ => f54_a k (.j (fun σ => G_l0 (cut f54_A.loops 0 σ)) :: .blk 0 :: .c (f54_p 31) 0 :: []) .nx σ) :: .c (f54_p 31) 0 :: []) .nx (σ0 70 224 f54_sig xs) = f54_entry_B k (f54_o_l0 G_l0) xs.1 xs.2.1 := by kernel_rfl
def f54 (k : Nat) (a0 : Td12) (a1 : (List Int)) : Option (Int × Int × Unit) := f54_entry_B k (f54_l0 k k) a0 a1
theorem f54_fe (k : Nat) : f54_a k [.c (f54_p 1) 0] = f54_a k (.c (f54_p 2) 0 :: .c (f54_p 6) 0 :: .c (f54_p 14) 0 :: .c (f54_p 60) 0 :: .j (fun σ => f54_a k (.j (fun σ => (f54_C_l0 k k) (cut f54_A.loops 0 σ)) :: .blk 0 :: .c (f54_p 31) 0 :: []) .nx σ) :: .c (f54_p 31) 0 :: []) := (Eq.trans ap_sq (ap_cons _ (Eq.trans ap_sq (ap_cons _ (Eq.trans ap_sq (ap_cons _ (Eq.trans ap_sq (Eq.trans ap_sq (ap_cons _ (Eq.trans (ap_bl 0) (Eq.trans (ap_j (Eq.trans (ap_lp (C := (f54_C_l0 k)) (fun _ _ => rfl)) (ap_cons _ (ap_cons _ (ap_cons _ rfl))))) (ap_cons _ (ap_cons _ rfl)))))))))))))
theorem f54_eq (k : Nat) (xs : DL f54_sig) : den T f54_Y (f54_E k) f54_A k f54_c 0 (σ0 70 224 f54_sig xs) (Kfin T f54_rs f54_ts) = f54 k xs.1 xs.2.1 :=
  Eq.trans (Eq.trans den_sb (ap_at (f54_fe k) _)) ((f54_entry_P k (f54_C_l0 k k) xs).trans (by rw [f54_l0_E k k] <;> rfl))
noncomputable def f54_con (k : Nat) : Con := ⟨f54_sig, f54_rs, fun xs => f54 k xs.1 xs.2.1⟩
theorem f54_ok (k : Nat) : PureOK Try.prog 54 f54_sig f54_rs (fun xs => f54 k xs.1 xs.2.1) :=
  (pure_of_den (k := k) (A := f54_A) (T := T) (Y := f54_Y) (E := f54_E k) (M := 224) (ts := f54_ts) T_ok ⟨f63_ok k, f73_ok k, f116_ok k, trivial⟩ ⟨f63_ent, f73_ent, f116_ent, trivial⟩ mixed (f := 54) (fn := Try.f54) (c := f54_c) (by kernel_rfl) (by kernel_rfl) (by kernel_rfl) (by decide) (by kernel_rfl)).congr fun xs => (f54_eq k xs).symm
theorem f54_ent : Ent Try.prog 54 := fun args w => by kernel_rfl
/-! ### (*terrier/terrmake.Stream).Next: function 81 -/
noncomputable def f81_c : Code := Try.f81.body.getD .skip
noncomputable abbrev f81_p (n : Nat) : Code := sb f81_c n
abbrev f81_sig : List PT := [(false, (.int .i64))]
abbrev f81_rs : List RT := [.d false (.int .i64)]
abbrev f81_ts : List RV := [.tmp 4]
abbrev f81_ls : List LO := [.box [.d Tq9]]
abbrev f81_S := St → Option (LOD f81_ls × RDL f81_rs)
abbrev f81_L := List (Fr (LOD f81_ls × RDL f81_rs))
def f81_Y : Tys := []
noncomputable def f81_E (k : Nat) : Env := [(23, .c (f23_con k))]
def f81_A : Ann := { regs := [(1, { slots := [(0, .id), (1, .id), (15, .bool)], keys := [(0, [.val false (.int .i64)])] })] }
noncomputable abbrev f81_a (k : Nat) (F : f81_L) : Kont (LOD f81_ls × RDL f81_rs) := ap T f81_Y (f81_E k) f81_A k (KfinB T f81_ls f81_rs f81_ts) F
def f81_s_r1 (y0_0 : (List Int)) (x1 : Int) (x15 : Bool) : St := mkS 33 113 [(0, aP 0), (1, aI x1), (15, aB x15)] [(0, .box [cV (.int .i64) y0_0])]
abbrev f81_t_r1 := (List Int) → Int → Bool → Option ((((List Int) × Unit) × Unit) × (Int × Unit))
abbrev f81_o_r1 (R : f81_S) : f81_t_r1 := (fun y0_0 x1 x15 => R (f81_s_r1 y0_0 x1 x15))
noncomputable def f81_Q_r1 (k : Nat) : f81_L := [.c (f81_p 13) 0, .c (f81_p 7) 0]
noncomputable def f81_C_r1 (k : Nat) : f81_S := fun σ => f81_a k (f81_Q_r1 k) .nx σ
noncomputable def f81_F_r1 (k : Nat) : f81_L := .c (f81_p 13) 0 :: .c (f81_p 7) 0 :: []
theorem f81_f_r1 (k : Nat) : f81_a k (f81_Q_r1 k) = f81_a k (f81_F_r1 k) := (ap_cons _ (ap_cons _ rfl))
def f81_entry_B (k : Nat) (g_r1 : f81_t_r1) (a : (List Int)) (a0 : Int) : Option ((((List Int) × Unit) × Unit) × (Int × Unit)) := (if (a.length : Int) = 0 then (g_r1 a a0 true) else (g_r1 a a0 (decide (a0 < 1))))
def f81_r1_B (k : Nat) (y0_0 : (List Int)) (x1 : Int) (x15 : Bool) : Option ((((List Int) × Unit) × Unit) × (Int × Unit)) := (if x15 = true then some (((y0_0, ()), ()), (0, ())) else (if 0 < (y0_0.length : Int) then (if (1 : Int) ≤ (y0_0.length : Int) then ((f23 k (y0_0.getD (0 : Int).toNat 0) x1).bind fun r1 => some ((((y0_0.drop (1 : Int).toNat), ()), ()), (r1.1, ()))) else none) else none))
theorem f81_r1_P (k : Nat) : f81_o_r1 (fun σ => f81_a k (f81_F_r1 k) .nx σ) = f81_r1_B k := by kernel_rfl
def f81_r1 (k : Nat) : f81_t_r1 := f81_r1_B k
theorem f81_r1_E (k : Nat) : f81_o_r1 (f81_C_r1 k) = f81_r1 k :=
  Eq.trans (congrArg f81_o_r1 (ap_fn (f81_f_r1 k))) ((f81_r1_P k).trans (by rfl))
theorem f81_entry_P (k : Nat) (G_r1 : f81_S) (x : LOD f81_ls) (xs : DL f81_sig) : f81_a k (.c (f81_p 2) 0 :: .c (f81_p 12) 0 :: .j G_r1 :: f81_F_r1 k) .nx (σ0B 33 113 0 f81_ls x f81_sig xs) = f81_entry_B k (f81_o_r1 G_r1) x.1.1 xs.1 := by kernel_rfl
def f81 (k : Nat) (a : (List Int)) (a0 : Int) : Option ((((List Int) × Unit) × Unit) × (Int × Unit)) := f81_entry_B k (f81_r1 k) a a0
theorem f81_fe (k : Nat) : f81_a k [.c (f81_p 1) 0] = f81_a k (.c (f81_p 2) 0 :: .c (f81_p 12) 0 :: .j (f81_C_r1 k) :: f81_F_r1 k) := (Eq.trans ap_sq (ap_cons _ (Eq.trans ap_sq (Eq.trans ap_sq (ap_cons _ (Eq.trans (ap_pass (C := (f81_C_r1 k)) (fun _ => rfl)) (ap_cons _ (f81_f_r1 k))))))))
theorem f81_eq (k : Nat) (x : LOD f81_ls) (xs : DL f81_sig) : den T f81_Y (f81_E k) f81_A k f81_c 0 (σ0B 33 113 0 f81_ls x f81_sig xs) (KfinB T f81_ls f81_rs f81_ts) = f81 k x.1.1 xs.1 :=
  Eq.trans (Eq.trans den_sb (ap_at (f81_fe k) _)) ((f81_entry_P k (f81_C_r1 k) x xs).trans (by rw [f81_r1_E k] <;> rfl))
noncomputable def f81_con (k : Nat) : BCon := ⟨0, f81_ls, f81_sig, f81_rs, fun x xs => f81 k x.1.1 xs.1⟩
theorem f81_ok (k : Nat) : BoxOK Try.prog 81 0 f81_ls f81_sig f81_rs (fun x xs => f81 k x.1.1 xs.1) :=
  (box_of_den (k := k) (A := f81_A) (T := T) (Y := f81_Y) (E := f81_E k) (M := 113) (ts := f81_ts) T_ok ⟨f23_ok k, trivial⟩ ⟨f23_ent, trivial⟩ mixed (f := 81) (fn := Try.f81) (c := f81_c) (by kernel_rfl) (by kernel_rfl) (by kernel_rfl) (by decide) (by kernel_rfl) (by decide)).congr fun x xs => (f81_eq k x xs).symm
theorem f81_ent : Ent Try.prog 81 := fun args w => by kernel_rfl
/-! ### (*terrier/terrmake.Stream).point: function 124 -/
noncomputable def f124_c : Code := Try.f124.body.getD .skip
noncomputable abbrev f124_p (n : Nat) : Code := sb f124_c n
abbrev f124_sig : List PT := []
abbrev f124_rs : List RT := [.d true Tq1]
abbrev f124_ts : List RV := [.cell 2 50]
abbrev f124_ls : List LO := [.box [.d Tq9]]
abbrev f124_S := St → Option (LOD f124_ls × RDL f124_rs)
abbrev f124_L := List (Fr (LOD f124_ls × RDL f124_rs))
def f124_Y : Tys := []
noncomputable def f124_E (k : Nat) : Env := [(81, .b (f81_con k))]
def f124_A : Ann := {}
noncomputable abbrev f124_a (k : Nat) (F : f124_L) : Kont (LOD f124_ls × RDL f124_rs) := ap T f124_Y (f124_E k) f124_A k (KfinB T f124_ls f124_rs f124_ts) F
def f124_entry_B (k : Nat) (a : (List Int)) : Option ((((List Int) × Unit) × Unit) × ((Int × Int) × Unit)) := ((f81 k a 81).bind fun r1 => ((f81 k r1.1.1.1 81).bind fun r2 => some (((r2.1.1.1, ()), ()), ((w64 (r1.2.1 - 40), w64 (r2.2.1 - 40)), ()))))
theorem f124_entry_P (k : Nat) (x : LOD f124_ls) (xs : DL f124_sig) : f124_a k (.c (f124_p 1) 0 :: []) .nx (σ0B 10 33 0 f124_ls x f124_sig xs) = f124_entry_B k x.1.1 := by kernel_rfl
def f124 (k : Nat) (a : (List Int)) : Option ((((List Int) × Unit) × Unit) × ((Int × Int) × Unit)) := f124_entry_B k a
theorem f124_eq (k : Nat) (x : LOD f124_ls) (xs : DL f124_sig) : den T f124_Y (f124_E k) f124_A k f124_c 0 (σ0B 10 33 0 f124_ls x f124_sig xs) (KfinB T f124_ls f124_rs f124_ts) = f124 k x.1.1 :=
  Eq.trans (Eq.trans den_sb (ap_at (ap_cons _ rfl) _)) ((f124_entry_P k x xs).trans (by rfl))
noncomputable def f124_con (k : Nat) : BCon := ⟨0, f124_ls, f124_sig, f124_rs, fun x xs => f124 k x.1.1⟩
theorem f124_ok (k : Nat) : BoxOK Try.prog 124 0 f124_ls f124_sig f124_rs (fun x xs => f124 k x.1.1) :=
  (box_of_den (k := k) (A := f124_A) (T := T) (Y := f124_Y) (E := f124_E k) (M := 33) (ts := f124_ts) T_ok ⟨f81_ok k, trivial⟩ ⟨f81_ent, trivial⟩ mixed (f := 124) (fn := Try.f124) (c := f124_c) (by kernel_rfl) (by kernel_rfl) (by kernel_rfl) (by decide) (by kernel_rfl) (by decide)).congr fun x xs => (f124_eq k x xs).symm
theorem f124_ent : Ent Try.prog 124 := fun args w => by kernel_rfl
/-! ### math/bits.Len64: function 174 -/
noncomputable def f174_c : Code := Try.f174.body.getD .skip
noncomputable abbrev f174_p (n : Nat) : Code := sb f174_c n
abbrev f174_sig : List PT := [(false, (.int .u64))]
abbrev f174_rs : List RT := [.d false (.int .i64)]
abbrev f174_ts : List RV := [.tmp 2]
abbrev f174_S := St → Option (RDL f174_rs)
abbrev f174_L := List (Fr (RDL f174_rs))
def f174_Y : Tys := []
noncomputable def f174_E (k : Nat) : Env := []
def f174_A : Ann := { conds := [(2, { slots := [(0, .id), (2, .id)] }), (5, { slots := [(0, .id), (2, .id)] }), (8, { slots := [(0, .id), (2, .id)] })] }
noncomputable abbrev f174_a (k : Nat) (F : f174_L) : Kont (RDL f174_rs) := ap T f174_Y (f174_E k) f174_A k (Kfin T f174_rs f174_ts) F
def f174_s_c2 (x0 : Int) (x2 : Int) : St := mkS 25 80 [(0, .cp (.one (.int .u64 x0))), (2, aI x2)] []
abbrev f174_t_c2 := Int → Int → Option (Int × Unit)
abbrev f174_o_c2 (R : f174_S) : f174_t_c2 := (fun x0 x2 => R (f174_s_c2 x0 x2))
noncomputable def f174_Q_c2 (k : Nat) : f174_L := [.c (f174_p 7) 0]
noncomputable def f174_C_c2 (k : Nat) : f174_S := fun σ => f174_a k (f174_Q_c2 k) .nx σ
def f174_s_c5 (x0 : Int) (x2 : Int) : St := mkS 25 80 [(0, .cp (.one (.int .u64 x0))), (2, aI x2)] []
abbrev f174_t_c5 := Int → Int → Option (Int × Unit)
abbrev f174_o_c5 (R : f174_S) : f174_t_c5 := (fun x0 x2 => R (f174_s_c5 x0 x2))
noncomputable def f174_Q_c5 (k : Nat) : f174_L := [.c (f174_p 15) 0]
noncomputable def f174_C_c5 (k : Nat) : f174_S := fun σ => f174_a k (f174_Q_c5 k) .nx σ
def f174_s_c8 (x0 : Int) (x2 : Int) : St := mkS 25 80 [(0, .cp (.one (.int .u64 x0))), (2, aI x2)] []
abbrev f174_t_c8 := Int → Int → Option (Int × Unit)
abbrev f174_o_c8 (R : f174_S) : f174_t_c8 := (fun x0 x2 => R (f174_s_c8 x0 x2))
noncomputable def f174_Q_c8 (k : Nat) : f174_L := [.c (f174_p 31) 0]
noncomputable def f174_C_c8 (k : Nat) : f174_S := fun σ => f174_a k (f174_Q_c8 k) .nx σ
noncomputable def f174_F_c8 (k : Nat) : f174_L := .c (f174_p 31) 0 :: []
theorem f174_f_c8 (k : Nat) : f174_a k (f174_Q_c8 k) = f174_a k (f174_F_c8 k) := (ap_cons _ rfl)
noncomputable def f174_F_c5 (k : Nat) (G_c8 : f174_S) : f174_L := .c (f174_p 60) 0 :: .c (f174_p 61) 0 :: .j G_c8 :: f174_F_c8 k
theorem f174_f_c5 (k : Nat) : f174_a k (f174_Q_c5 k) = f174_a k (f174_F_c5 k (f174_C_c8 k)) := (Eq.trans ap_sq (Eq.trans ap_sq (ap_cons _ (ap_cons _ (Eq.trans (ap_pass (C := (f174_C_c8 k)) (fun _ => rfl)) (ap_cons _ (f174_f_c8 k)))))))
noncomputable def f174_F_c2 (k : Nat) (G_c5 G_c8 : f174_S) : f174_L := .c (f174_p 28) 0 :: .c (f174_p 29) 0 :: .j G_c5 :: f174_F_c5 k G_c8
theorem f174_f_c2 (k : Nat) : f174_a k (f174_Q_c2 k) = f174_a k (f174_F_c2 k (f174_C_c5 k) (f174_C_c8 k)) := (Eq.trans ap_sq (Eq.trans ap_sq (ap_cons _ (ap_cons _ (Eq.trans (ap_pass (C := (f174_C_c5 k)) (fun _ => rfl)) (ap_cons _ (f174_f_c5 k)))))))
def f174_entry_B (k : Nat) (g_c2 : f174_t_c2) (a0 : Int) : Option (Int × Unit) := (if 4294967296 ≤ a0 then (g_c2 (a0.fdiv (2 ^ min (32 : Int).toNat (IntKind.bits .u64))) 32) else (g_c2 a0 0))
def f174_c2_B (k : Nat) (g_c5 : f174_t_c5) (x0 : Int) (x2 : Int) : Option (Int × Unit) := (if 65536 ≤ x0 then (g_c5 (x0.fdiv (2 ^ min (16 : Int).toNat (IntKind.bits .u64))) (w64 (x2 + 16))) else (g_c5 x0 x2))
def f174_c5_B (k : Nat) (g_c8 : f174_t_c8) (x0 : Int) (x2 : Int) : Option (Int × Unit) := (if 256 ≤ x0 then (g_c8 (x0.fdiv (2 ^ min (8 : Int).toNat (IntKind.bits .u64))) (w64 (x2 + 8))) else (g_c8 x0 x2))
def f174_c8_B (k : Nat) (x0 : Int) (x2 : Int) : Option (Int × Unit) := (if 0 ≤ (IntKind.u8.wrap (x0)) then (if (IntKind.u8.wrap (x0)) < (Ts0.size : Int) then some (w64 (x2 + (w64 (strAt Ts0 (IntKind.u8.wrap (x0)).toNat))), ()) else none) else none)
theorem f174_c8_P (k : Nat) : f174_o_c8 (fun σ => f174_a k (f174_F_c8 k) .nx σ) = f174_c8_B k := by kernel_rfl
def f174_c8 (k : Nat) : f174_t_c8 := f174_c8_B k
theorem f174_c8_E (k : Nat) : f174_o_c8 (f174_C_c8 k) = f174_c8 k :=
  Eq.trans (congrArg f174_o_c8 (ap_fn (f174_f_c8 k))) ((f174_c8_P k).trans (by rfl))
theorem f174_c5_P (k : Nat) (G_c8 : f174_S) : f174_o_c5 (fun σ => f174_a k (f174_F_c5 k G_c8) .nx σ) = f174_c5_B k (f174_o_c8 G_c8) := by kernel_rfl
def f174_c5 (k : Nat) : f174_t_c5 := f174_c5_B k (f174_c8 k)
theorem f174_c5_E (k : Nat) : f174_o_c5 (f174_C_c5 k) = f174_c5 k :=
  Eq.trans (congrArg f174_o_c5 (ap_fn (f174_f_c5 k))) ((f174_c5_P k (f174_C_c8 k)).trans (by rw [f174_c8_E k] <;> rfl))
theorem f174_c2_P (k : Nat) (G_c5 G_c8 : f174_S) : f174_o_c2 (fun σ => f174_a k (f174_F_c2 k G_c5 G_c8) .nx σ) = f174_c2_B k (f174_o_c5 G_c5) := by kernel_rfl
def f174_c2 (k : Nat) : f174_t_c2 := f174_c2_B k (f174_c5 k)
theorem f174_c2_E (k : Nat) : f174_o_c2 (f174_C_c2 k) = f174_c2 k :=
  Eq.trans (congrArg f174_o_c2 (ap_fn (f174_f_c2 k))) ((f174_c2_P k (f174_C_c5 k) (f174_C_c8 k)).trans (by rw [f174_c5_E k] <;> rfl))
theorem f174_entry_P (k : Nat) (G_c2 G_c5 G_c8 : f174_S) (xs : DL f174_sig) : f174_a k (.c (f174_p 2) 0 :: .c (f174_p 12) 0 :: .c (f174_p 13) 0 :: .j G_c2 :: f174_F_c2 k G_c5 G_c8) .nx (σ0 25 80 f174_sig xs) = f174_entry_B k (f174_o_c2 G_c2) xs.1 := by kernel_rfl
def f174 (k : Nat) (a0 : Int) : Option (Int × Unit) := f174_entry_B k (f174_c2 k) a0
theorem f174_fe (k : Nat) : f174_a k [.c (f174_p 1) 0] = f174_a k (.c (f174_p 2) 0 :: .c (f174_p 12) 0 :: .c (f174_p 13) 0 :: .j (f174_C_c2 k) :: f174_F_c2 k (f174_C_c5 k) (f174_C_c8 k)) := (Eq.trans ap_sq (ap_cons _ (Eq.trans ap_sq (Eq.trans ap_sq (ap_cons _ (ap_cons _ (Eq.trans (ap_pass (C := (f174_C_c2 k)) (fun _ => rfl)) (ap_cons _ (f174_f_c2 k)))))))))
theorem f174_eq (k : Nat) (xs : DL f174_sig) : den T f174_Y (f174_E k) f174_A k f174_c 0 (σ0 25 80 f174_sig xs) (Kfin T f174_rs f174_ts) = f174 k xs.1 :=
  Eq.trans (Eq.trans den_sb (ap_at (f174_fe k) _)) ((f174_entry_P k (f174_C_c2 k) (f174_C_c5 k) (f174_C_c8 k) xs).trans (by rw [f174_c2_E k] <;> rfl))
noncomputable def f174_con (k : Nat) : Con := ⟨f174_sig, f174_rs, fun xs => f174 k xs.1⟩
theorem f174_ok (k : Nat) : PureOK Try.prog 174 f174_sig f174_rs (fun xs => f174 k xs.1) :=
  (pure_of_den (k := k) (A := f174_A) (T := T) (Y := f174_Y) (E := f174_E k) (M := 80) (ts := f174_ts) T_ok trivial trivial mixed (f := 174) (fn := Try.f174) (c := f174_c) (by kernel_rfl) (by kernel_rfl) (by kernel_rfl) (by decide) (by kernel_rfl)).congr fun xs => (f174_eq k xs).symm
theorem f174_ent : Ent Try.prog 174 := fun args w => by kernel_rfl
/-! ### math/bits.Len: function 132 -/
noncomputable def f132_c : Code := Try.f132.body.getD .skip
noncomputable abbrev f132_p (n : Nat) : Code := sb f132_c n
abbrev f132_sig : List PT := [(false, (.int .u64))]
abbrev f132_rs : List RT := [.d false (.int .i64)]
abbrev f132_ts : List RV := [.tmp 2]
abbrev f132_S := St → Option (RDL f132_rs)
abbrev f132_L := List (Fr (RDL f132_rs))
def f132_Y : Tys := []
noncomputable def f132_E (k : Nat) : Env := [(174, .c (f174_con k))]
def f132_A : Ann := {}
noncomputable abbrev f132_a (k : Nat) (F : f132_L) : Kont (RDL f132_rs) := ap T f132_Y (f132_E k) f132_A k (Kfin T f132_rs f132_ts) F
def f132_entry_B (k : Nat) (a0 : Int) : Option (Int × Unit) := ((f174 k a0).bind fun r1 => some (r1.1, ()))
theorem f132_entry_P (k : Nat) (xs : DL f132_sig) : f132_a k (.c (f132_p 1) 0 :: []) .nx (σ0 8 32 f132_sig xs) = f132_entry_B k xs.1 := by kernel_rfl
def f132 (k : Nat) (a0 : Int) : Option (Int × Unit) := f132_entry_B k a0
theorem f132_eq (k : Nat) (xs : DL f132_sig) : den T f132_Y (f132_E k) f132_A k f132_c 0 (σ0 8 32 f132_sig xs) (Kfin T f132_rs f132_ts) = f132 k xs.1 :=
  Eq.trans (Eq.trans den_sb (ap_at (ap_cons _ rfl) _)) ((f132_entry_P k xs).trans (by rfl))
noncomputable def f132_con (k : Nat) : Con := ⟨f132_sig, f132_rs, fun xs => f132 k xs.1⟩
theorem f132_ok (k : Nat) : PureOK Try.prog 132 f132_sig f132_rs (fun xs => f132 k xs.1) :=
  (pure_of_den (k := k) (A := f132_A) (T := T) (Y := f132_Y) (E := f132_E k) (M := 32) (ts := f132_ts) T_ok ⟨f174_ok k, trivial⟩ ⟨f174_ent, trivial⟩ mixed (f := 132) (fn := Try.f132) (c := f132_c) (by kernel_rfl) (by kernel_rfl) (by kernel_rfl) (by decide) (by kernel_rfl)).congr fun xs => (f132_eq k xs).symm
theorem f132_ent : Ent Try.prog 132 := fun args w => by kernel_rfl
/-! ### terrier/terrmake.Net$1: function 127 -/
noncomputable def f127_c : Code := Try.f127.body.getD .skip
noncomputable abbrev f127_p (n : Nat) : Code := sb f127_c n
abbrev f127_sig : List PT := [(true, Tq1), (true, Tq1)]
abbrev f127_rs : List RT := [.d false (.int .i64)]
abbrev f127_ts : List RV := [.tmp 4]
abbrev f127_S := St → Option (RDL f127_rs)
abbrev f127_L := List (Fr (RDL f127_rs))
def f127_Y : Tys := []
noncomputable def f127_E (k : Nat) : Env := []
def f127_A : Ann := {}
noncomputable abbrev f127_a (k : Nat) (F : f127_L) : Kont (RDL f127_rs) := ap T f127_Y (f127_E k) f127_A k (Kfin T f127_rs f127_ts) F
def f127_entry_B (k : Nat) (a0 : (Int × Int)) (a1 : (Int × Int)) : Option (Int × Unit) := (if ¬ (a0.1 = a1.1) then some (w64 (a0.1 - a1.1), ()) else some (w64 (a0.2 - a1.2), ()))
theorem f127_entry_P (k : Nat) (xs : DL f127_sig) : f127_a k (.c (f127_p 1) 0 :: []) .nx (σ0 20 64 f127_sig xs) = f127_entry_B k xs.1 xs.2.1 := by kernel_rfl
def f127 (k : Nat) (a0 : (Int × Int)) (a1 : (Int × Int)) : Option (Int × Unit) := f127_entry_B k a0 a1
theorem f127_eq (k : Nat) (xs : DL f127_sig) : den T f127_Y (f127_E k) f127_A k f127_c 0 (σ0 20 64 f127_sig xs) (Kfin T f127_rs f127_ts) = f127 k xs.1 xs.2.1 :=
  Eq.trans (Eq.trans den_sb (ap_at (ap_cons _ rfl) _)) ((f127_entry_P k xs).trans (by rfl))
noncomputable def f127_con (k : Nat) : Con := ⟨f127_sig, f127_rs, fun xs => f127 k xs.1 xs.2.1⟩
theorem f127_ok (k : Nat) : PureOK Try.prog 127 f127_sig f127_rs (fun xs => f127 k xs.1 xs.2.1) :=
  (pure_of_den (k := k) (A := f127_A) (T := T) (Y := f127_Y) (E := f127_E k) (M := 64) (ts := f127_ts) T_ok trivial trivial mixed (f := 127) (fn := Try.f127) (c := f127_c) (by kernel_rfl) (by kernel_rfl) (by kernel_rfl) (by decide) (by kernel_rfl)).congr fun xs => (f127_eq k xs).symm
theorem f127_ent : Ent Try.prog 127 := fun args w => by kernel_rfl
/-! ### slices.insertionSortCmpFunc[terrier/api.Ban]: function 192 -/
noncomputable def f192_c : Code := Try.f192.body.getD .skip
noncomputable abbrev f192_p (n : Nat) : Code := sb f192_c n
abbrev f192_sig : List PT := [(false, (.int .i64)), (false, (.int .i64)), (false, (.fn 127))]
abbrev f192_rs : List RT := []
abbrev f192_ts : List RV := []
abbrev f192_ls : List LO := [.row Tq1]
abbrev f192_S := St → Option (LOD f192_ls × RDL f192_rs)
abbrev f192_L := List (Fr (LOD f192_ls × RDL f192_rs))
def f192_Y : Tys := []
noncomputable def f192_E (k : Nat) : Env := [(127, .c (f127_con k))]
def f192_A : Ann := { loops := [(0, { slots := [(0, .id), (1, .id), (2, .id), (3, .id), (8, .id)], keys := [(0, [])] }), (2, { slots := [(0, .id), (1, .id), (2, .id), (3, .id), (8, .id), (9, .id)], keys := [(0, [])] })], regs := [(4, { slots := [(0, .id), (1, .id), (2, .id), (3, .id), (8, .id), (9, .id), (34, .bool)], keys := [(0, [])] })] }
noncomputable abbrev f192_a (k : Nat) (F : f192_L) : Kont (LOD f192_ls × RDL f192_rs) := ap T f192_Y (f192_E k) f192_A k (KfinB T f192_ls f192_rs f192_ts) F
def f192_s_l0 (y0 : (List (Int × Int))) (x1 : Int) (x2 : Int) (x8 : Int) : St := mkS 53 161 [(0, aO 0), (1, aI x1), (2, aI x2), (3, .cp (.one (.fn 127 []))), (8, aI x8)] [(0, .vec Tq1 y0)]
abbrev f192_t_l0 := (List (Int × Int)) → Int → Int → Int → Option (((List (Int × Int)) × Unit) × (Unit))
abbrev f192_o_l0 (R : f192_S) : f192_t_l0 := (fun y0 x1 x2 x8 => R (f192_s_l0 y0 x1 x2 x8))
noncomputable def f192_Q_l0 (k : Nat) (R_l0 : f192_S) : f192_L := [.c (f192_p 12) 0, .j (fun σ => R_l0 (cut f192_A.loops 0 σ)), .blk 0]
noncomputable def f192_C_l0 (k : Nat) (n : Nat) (σ : St) : Option (LOD f192_ls × RDL f192_rs) := loopK (fun σ K => den T f192_Y (f192_E k) f192_A k (f192_p 12) 0 σ K) (cut f192_A.loops 0) (f192_a k [.blk 0]) n σ
def f192_s_l2 (y0 : (List (Int × Int))) (x1 : Int) (x2 : Int) (x8 : Int) (x9 : Int) : St := mkS 53 161 [(0, aO 0), (1, aI x1), (2, aI x2), (3, .cp (.one (.fn 127 []))), (8, aI x8), (9, aI x9)] [(0, .vec Tq1 y0)]
abbrev f192_t_l2 := (List (Int × Int)) → Int → Int → Int → Int → Option (((List (Int × Int)) × Unit) × (Unit))
abbrev f192_o_l2 (R : f192_S) : f192_t_l2 := (fun y0 x1 x2 x8 x9 => R (f192_s_l2 y0 x1 x2 x8 x9))
noncomputable def f192_Q_l2 (k : Nat) (R_l0 R_l2 : f192_S) : f192_L := [.c (f192_p 804) 2, .j (fun σ => R_l2 (cut f192_A.loops 2 σ)), .blk 2, .blk 1, .c (f192_p 51) 0, .j (fun σ => R_l0 (cut f192_A.loops 0 σ)), .blk 0]
noncomputable def f192_C_l2 (k : Nat) (R_l0 : f192_S) (n : Nat) (σ : St) : Option (LOD f192_ls × RDL f192_rs) := loopK (fun σ K => den T f192_Y (f192_E k) f192_A k (f192_p 804) 2 σ K) (cut f192_A.loops 2) (f192_a k [.blk 2, .blk 1, .c (f192_p 51) 0, .j (fun σ => R_l0 (cut f192_A.loops 0 σ)), .blk 0]) n σ
def f192_s_r4 (y0 : (List (Int × Int))) (x1 : Int) (x2 : Int) (x34 : Bool) (x8 : Int) (x9 : Int) : St := mkS 53 161 [(0, aO 0), (1, aI x1), (2, aI x2), (3, .cp (.one (.fn 127 []))), (8, aI x8), (9, aI x9), (34, aB x34)] [(0, .vec Tq1 y0)]
abbrev f192_t_r4 := (List (Int × Int)) → Int → Int → Bool → Int → Int → Option (((List (Int × Int)) × Unit) × (Unit))
abbrev f192_o_r4 (R : f192_S) : f192_t_r4 := (fun y0 x1 x2 x34 x8 x9 => R (f192_s_r4 y0 x1 x2 x34 x8 x9))
noncomputable def f192_Q_r4 (k : Nat) (R_l2 R_l0 : f192_S) : f192_L := [.c (f192_p 3217) 2, .c (f192_p 1609) 2, .j (fun σ => R_l2 (cut f192_A.loops 2 σ)), .blk 2, .blk 1, .c (f192_p 51) 0, .j (fun σ => R_l0 (cut f192_A.loops 0 σ)), .blk 0]
noncomputable def f192_C_r4 (k : Nat) (R_l2 R_l0 : f192_S) : f192_S := fun σ => f192_a k (f192_Q_r4 k R_l2 R_l0) .nx σ
noncomputable def f192_F_l0 (k : Nat) (G_l0 G_l2 : f192_S) : f192_L := .c (f192_p 24) 0 :: .j (fun σ => f192_a k (.c (f192_p 200) 1 :: .j (fun σ => f192_a k (.j (fun σ => G_l2 (cut f192_A.loops 2 σ)) :: .blk 2 :: .blk 1 :: .c (f192_p 51) 0 :: .j (fun σ => G_l0 (cut f192_A.loops 0 σ)) :: .blk 0 :: []) .nx σ) :: .blk 1 :: .c (f192_p 51) 0 :: .j (fun σ => G_l0 (cut f192_A.loops 0 σ)) :: .blk 0 :: []) .nx σ) :: .c (f192_p 51) 0 :: .j (fun σ => G_l0 (cut f192_A.loops 0 σ)) :: .blk 0 :: []
theorem f192_f_l0 (k : Nat) (R_l0 : f192_S) : f192_a k (f192_Q_l0 k R_l0) = f192_a k (f192_F_l0 k R_l0 (f192_C_l2 k R_l0 k)) := (Eq.trans ap_sq (ap_cons _ (Eq.trans ap_sq (Eq.trans (ap_bl 1) (Eq.trans (ap_j (Eq.trans ap_sq (ap_cons _ (Eq.trans (ap_bl 2) (Eq.trans (ap_j (Eq.trans (ap_lp (C := (f192_C_l2 k R_l0)) (fun _ _ => rfl)) (ap_cons _ (ap_cons _ (ap_cons _ (ap_cons _ (ap_cons _ (ap_cons _ rfl)))))))) (ap_cons _ (ap_cons _ (ap_cons _ (ap_cons _ (ap_cons _ rfl)))))))))) (ap_cons _ (ap_cons _ (ap_cons _ (ap_cons _ rfl)))))))))
noncomputable def f192_F_r4 (k : Nat) (G_l0 G_l2 : f192_S) : f192_L := .c (f192_p 3217) 2 :: .c (f192_p 1609) 2 :: .j (fun σ => G_l2 (cut f192_A.loops 2 σ)) :: .blk 2 :: .blk 1 :: .c (f192_p 51) 0 :: .j (fun σ => G_l0 (cut f192_A.loops 0 σ)) :: .blk 0 :: []
theorem f192_f_r4 (k : Nat) (R_l2 R_l0 : f192_S) : f192_a k (f192_Q_r4 k R_l2 R_l0) = f192_a k (f192_F_r4 k R_l0 R_l2) := (ap_cons _ (ap_cons _ (ap_cons _ (ap_cons _ (ap_cons _ (ap_cons _ (ap_cons _ (ap_cons _ rfl))))))))
noncomputable def f192_F_l2 (k : Nat) (G_l0 G_l2 G_r4 : f192_S) : f192_L := .c (f192_p 3216) 2 :: .j G_r4 :: f192_F_r4 k G_l0 G_l2
theorem f192_f_l2 (k : Nat) (R_l0 R_l2 : f192_S) : f192_a k (f192_Q_l2 k R_l0 R_l2) = f192_a k (f192_F_l2 k R_l0 R_l2 (f192_C_r4 k R_l2 R_l0)) := (Eq.trans ap_sq (Eq.trans ap_sq (ap_cons _ (Eq.trans (ap_pass (C := (f192_C_r4 k R_l2 R_l0)) (fun _ => rfl)) (ap_cons _ (f192_f_r4 k R_l2 R_l0))))))
def f192_entry_B (k : Nat) (g_l0 : f192_t_l0) (a : Td3) (a0 : Int) (a1 : Int) (a2 : Unit) : Option (((List (Int × Int)) × Unit) × (Unit)) := (g_l0 a a0 a1 (w64 (a0 + 1)))
def f192_l0_B (k : Nat) (g_l2 : f192_t_l2) (y0 : (List (Int × Int))) (x1 : Int) (x2 : Int) (x8 : Int) : Option (((List (Int × Int)) × Unit) × (Unit)) := (if x8 < x2 then (g_l2 y0 x1 x2 x8 x8) else some ((y0, ()), (())))
def f192_l2_B (k : Nat) (g_r4 : f192_t_r4) (y0 : (List (Int × Int))) (x1 : Int) (x2 : Int) (x8 : Int) (x9 : Int) : Option (((List (Int × Int)) × Unit) × (Unit)) := (if x1 < x9 then (if 0 ≤ x9 then (if x9 < (y0.length : Int) then (if 0 ≤ (w64 (x9 - 1)) then (if (w64 (x9 - 1)) < (y0.length : Int) then ((f127 k ((y0.getD ((x9).toNat) (0, 0)).1, (y0.getD ((x9).toNat) (0, 0)).2) ((y0.getD ((w64 (x9 - 1)).toNat) (0, 0)).1, (y0.getD ((w64 (x9 - 1)).toNat) (0, 0)).2)).bind fun r1 => (g_r4 y0 x1 x2 (decide (r1.1 < 0)) x8 x9)) else none) else none) else none) else none) else (g_r4 y0 x1 x2 false x8 x9))
def f192_r4_B (k : Nat) (g_l0 : f192_t_l0) (g_l2 : f192_t_l2) (y0 : (List (Int × Int))) (x1 : Int) (x2 : Int) (x34 : Bool) (x8 : Int) (x9 : Int) : Option (((List (Int × Int)) × Unit) × (Unit)) := (if x34 = true then (if 0 ≤ (w64 (x9 - 1)) then (if (w64 (x9 - 1)) < (y0.length : Int) then (if 0 ≤ x9 then (if x9 < (y0.length : Int) then (if 0 ≤ x9 then (if x9 < (y0.length : Int) then (if 0 ≤ (w64 (x9 - 1)) then (if (w64 (x9 - 1)) < ((y0.set ((x9).toNat) ((y0.getD ((w64 (x9 - 1)).toNat) (0, 0)).1, (y0.getD ((w64 (x9 - 1)).toNat) (0, 0)).2)).length : Int) then (g_l2 ((y0.set ((x9).toNat) ((y0.getD ((w64 (x9 - 1)).toNat) (0, 0)).1, (y0.getD ((w64 (x9 - 1)).toNat) (0, 0)).2)).set ((w64 (x9 - 1)).toNat) ((y0.getD ((x9).toNat) (0, 0)).1, (y0.getD ((x9).toNat) (0, 0)).2)) x1 x2 x8 (w64 (x9 - 1))) else none) else none) else none) else none) else none) else none) else none) else none) else (g_l0 y0 x1 x2 (w64 (x8 + 1))))
theorem f192_r4_P (k : Nat) (G_l0 G_l2 : f192_S) : f192_o_r4 (fun σ => f192_a k (f192_F_r4 k G_l0 G_l2) .nx σ) = f192_r4_B k (f192_o_l0 G_l0) (f192_o_l2 G_l2) := by kernel_rfl
def f192_r4 (k : Nat) (r_l2 : f192_t_l2) (r_l0 : f192_t_l0) : f192_t_r4 := f192_r4_B k r_l0 r_l2
theorem f192_r4_E (k : Nat) (R_l2 R_l0 : f192_S) : f192_o_r4 (f192_C_r4 k R_l2 R_l0) = f192_r4 k (f192_o_l2 R_l2) (f192_o_l0 R_l0) :=
  Eq.trans (congrArg f192_o_r4 (ap_fn (f192_f_r4 k R_l2 R_l0))) ((f192_r4_P k R_l0 R_l2).trans (by rfl))
theorem f192_l2_P (k : Nat) (G_l0 G_l2 G_r4 : f192_S) : f192_o_l2 (fun σ => f192_a k (f192_F_l2 k G_l0 G_l2 G_r4) .nx σ) = f192_l2_B k (f192_o_r4 G_r4) := by kernel_rfl
def f192_l2 (k : Nat) (r_l0 : f192_t_l0) : Nat → f192_t_l2
  | 0 => fun _ _ _ _ _ => none
  | n + 1 => f192_l2_B k (f192_r4 k (f192_l2 k r_l0 n) r_l0)
theorem f192_l2_E (k : Nat) (R_l0 : f192_S) : ∀ n, f192_o_l2 (f192_C_l2 k R_l0 n) = f192_l2 k (f192_o_l0 R_l0) n
  | 0 => rfl
  | n + 1 =>
    Eq.trans (congrArg f192_o_l2 (Eq.trans (b := fun σ => f192_a k (f192_Q_l2 k R_l0 (f192_C_l2 k R_l0 n)) .nx σ) (by kernel_rfl) (ap_fn (f192_f_l2 k R_l0 (f192_C_l2 k R_l0 n))))) ((f192_l2_P k R_l0 (f192_C_l2 k R_l0 n) (f192_C_r4 k (f192_C_l2 k R_l0 n) R_l0)).trans (by rw [f192_r4_E k (f192_C_l2 k R_l0 n) R_l0, f192_l2_E k R_l0 n] <;> rfl))
theorem f192_l0_P (k : Nat) (G_l0 G_l2 : f192_S) : f192_o_l0 (fun σ => f192_a k (f192_F_l0 k G_l0 G_l2) .nx σ) = f192_l0_B k (f192_o_l2 G_l2) := by kernel_rfl
def f192_l0 (k : Nat) : Nat → f192_t_l0
  | 0 => fun _ _ _ _ => none
  | n + 1 => f192_l0_B k (f192_l2 k (f192_l0 k n) k)
theorem f192_l0_E (k : Nat) : ∀ n, f192_o_l0 (f192_C_l0 k n) = f192_l0 k n
  | 0 => rfl
  | n + 1 =>
    Eq.trans (congrArg f192_o_l0 (Eq.trans (b := fun σ => f192_a k (f192_Q_l0 k (f192_C_l0 k n)) .nx σ) (by kernel_rfl) (ap_fn (f192_f_l0 k (f192_C_l0 k n))))) ((f192_l0_P k (f192_C_l0 k n) (f192_C_l2 k (f192_C_l0 k n) k)).trans (by rw [f192_l2_E k (f192_C_l0 k n) k, f192_l0_E k n] <;> rfl))
theorem f192_entry_P (k : Nat) (G_l0 : f192_S) (x : LOD f192_ls) (xs : DL f192_sig) : f192_a k (.c (f192_p 2) 0 :: .j (fun σ => f192_a k (.j (fun σ => G_l0 (cut f192_A.loops 0 σ)) :: .blk 0 :: []) .nx σ) :: []) .nx (σ0B 53 161 0 f192_ls x f192_sig xs) = f192_entry_B k (f192_o_l0 G_l0) x.1 xs.1 xs.2.1 xs.2.2.1 := by kernel_rfl
def f192 (k : Nat) (a : Td3) (a0 : Int) (a1 : Int) (a2 : Unit) : Option (((List (Int × Int)) × Unit) × (Unit)) := f192_entry_B k (f192_l0 k k) a a0 a1 a2
theorem f192_fe (k : Nat) : f192_a k [.c (f192_p 1) 0] = f192_a k (.c (f192_p 2) 0 :: .j (fun σ => f192_a k (.j (fun σ => (f192_C_l0 k k) (cut f192_A.loops 0 σ)) :: .blk 0 :: []) .nx σ) :: []) := (Eq.trans ap_sq (ap_cons _ (Eq.trans (ap_bl 0) (Eq.trans (ap_j (Eq.trans (ap_lp (C := (f192_C_l0 k)) (fun _ _ => rfl)) (ap_cons _ (ap_cons _ rfl)))) (ap_cons _ rfl)))))
theorem f192_eq (k : Nat) (x : LOD f192_ls) (xs : DL f192_sig) : den T f192_Y (f192_E k) f192_A k f192_c 0 (σ0B 53 161 0 f192_ls x f192_sig xs) (KfinB T f192_ls f192_rs f192_ts) = f192 k x.1 xs.1 xs.2.1 xs.2.2.1 :=
  Eq.trans (Eq.trans den_sb (ap_at (f192_fe k) _)) ((f192_entry_P k (f192_C_l0 k k) x xs).trans (by rw [f192_l0_E k k] <;> rfl))
noncomputable def f192_con (k : Nat) : BCon := ⟨0, f192_ls, f192_sig, f192_rs, fun x xs => f192 k x.1 xs.1 xs.2.1 xs.2.2.1⟩
theorem f192_ok (k : Nat) : BoxOK Try.prog 192 0 f192_ls f192_sig f192_rs (fun x xs => f192 k x.1 xs.1 xs.2.1 xs.2.2.1) :=
  (box_of_den (k := k) (A := f192_A) (T := T) (Y := f192_Y) (E := f192_E k) (M := 161) (ts := f192_ts) T_ok ⟨f127_ok k, trivial⟩ ⟨f127_ent, trivial⟩ mixed (f := 192) (fn := Try.f192) (c := f192_c) (by kernel_rfl) (by kernel_rfl) (by kernel_rfl) (by decide) (by kernel_rfl) (by decide)).congr fun x xs => (f192_eq k x xs).symm
theorem f192_ent : Ent Try.prog 192 := fun args w => by kernel_rfl
/-! ### slices.order2CmpFunc[terrier/api.Ban]: function 223 -/
noncomputable def f223_c : Code := Try.f223.body.getD .skip
noncomputable abbrev f223_p (n : Nat) : Code := sb f223_c n
abbrev f223_sig : List PT := [(false, Tq2), (false, (.int .i64)), (false, (.int .i64)), (false, (.fn 127))]
abbrev f223_rs : List RT := [.d false (.int .i64), .d false (.int .i64)]
abbrev f223_ts : List RV := [.tmp 10, .tmp 11]
abbrev f223_ls : List LO := [.box [.d (.int .i64)]]
abbrev f223_S := St → Option (LOD f223_ls × RDL f223_rs)
abbrev f223_L := List (Fr (LOD f223_ls × RDL f223_rs))
def f223_Y : Tys := []
noncomputable def f223_E (k : Nat) : Env := [(127, .c (f127_con k))]
def f223_A : Ann := {}
noncomputable abbrev f223_a (k : Nat) (F : f223_L) : Kont (LOD f223_ls × RDL f223_rs) := ap T f223_Y (f223_E k) f223_A k (KfinB T f223_ls f223_rs f223_ts) F
def f223_entry_B (k : Nat) (a : Int) (a0 : Td3) (a1 : Int) (a2 : Int) (a3 : Unit) : Option (((Int × Unit) × Unit) × (Int × Int × Unit)) := (if 0 ≤ a2 then (if a2 < (a0.length : Int) then (if 0 ≤ a1 then (if a1 < (a0.length : Int) then ((f127 k ((a0.getD (a2).toNat (0, 0)).1, (a0.getD (a2).toNat (0, 0)).2) ((a0.getD (a1).toNat (0, 0)).1, (a0.getD (a1).toNat (0, 0)).2)).bind fun r1 => (if r1.1 < 0 then some (((w64 (a + 1), ()), ()), (a2, a1, ())) else some (((a, ()), ()), (a1, a2, ())))) else none) else none) else none) else none)
theorem f223_entry_P (k : Nat) (x : LOD f223_ls) (xs : DL f223_sig) : f223_a k (.c (f223_p 1) 0 :: []) .nx (σ0B 32 97 3 f223_ls x f223_sig xs) = f223_entry_B k x.1.1 xs.1 xs.2.1 xs.2.2.1 xs.2.2.2.1 := by kernel_rfl
def f223 (k : Nat) (a : Int) (a0 : Td3) (a1 : Int) (a2 : Int) (a3 : Unit) : Option (((Int × Unit) × Unit) × (Int × Int × Unit)) := f223_entry_B k a a0 a1 a2 a3
theorem f223_eq (k : Nat) (x : LOD f223_ls) (xs : DL f223_sig) : den T f223_Y (f223_E k) f223_A k f223_c 0 (σ0B 32 97 3 f223_ls x f223_sig xs) (KfinB T f223_ls f223_rs f223_ts) = f223 k x.1.1 xs.1 xs.2.1 xs.2.2.1 xs.2.2.2.1 :=
  Eq.trans (Eq.trans den_sb (ap_at (ap_cons _ rfl) _)) ((f223_entry_P k x xs).trans (by rfl))
noncomputable def f223_con (k : Nat) : BCon := ⟨3, f223_ls, f223_sig, f223_rs, fun x xs => f223 k x.1.1 xs.1 xs.2.1 xs.2.2.1 xs.2.2.2.1⟩
theorem f223_ok (k : Nat) : BoxOK Try.prog 223 3 f223_ls f223_sig f223_rs (fun x xs => f223 k x.1.1 xs.1 xs.2.1 xs.2.2.1 xs.2.2.2.1) :=
  (box_of_den (k := k) (A := f223_A) (T := T) (Y := f223_Y) (E := f223_E k) (M := 97) (ts := f223_ts) T_ok ⟨f127_ok k, trivial⟩ ⟨f127_ent, trivial⟩ mixed (f := 223) (fn := Try.f223) (c := f223_c) (by kernel_rfl) (by kernel_rfl) (by kernel_rfl) (by decide) (by kernel_rfl) (by decide)).congr fun x xs => (f223_eq k x xs).symm
theorem f223_ent : Ent Try.prog 223 := fun args w => by kernel_rfl
/-! ### slices.medianCmpFunc[terrier/api.Ban]: function 215 -/
noncomputable def f215_c : Code := Try.f215.body.getD .skip
noncomputable abbrev f215_p (n : Nat) : Code := sb f215_c n
abbrev f215_sig : List PT := [(false, Tq2), (false, (.int .i64)), (false, (.int .i64)), (false, (.int .i64)), (false, (.fn 127))]
abbrev f215_rs : List RT := [.d false (.int .i64)]
abbrev f215_ts : List RV := [.tmp 12]
abbrev f215_ls : List LO := [.box [.d (.int .i64)]]
abbrev f215_S := St → Option (LOD f215_ls × RDL f215_rs)
abbrev f215_L := List (Fr (LOD f215_ls × RDL f215_rs))
def f215_Y : Tys := []
noncomputable def f215_E (k : Nat) : Env := [(223, .b (f223_con k))]
def f215_A : Ann := {}
noncomputable abbrev f215_a (k : Nat) (F : f215_L) : Kont (LOD f215_ls × RDL f215_rs) := ap T f215_Y (f215_E k) f215_A k (KfinB T f215_ls f215_rs f215_ts) F
def f215_entry_B (k : Nat) (a : Int) (a0 : Td3) (a1 : Int) (a2 : Int) (a3 : Int) (a4 : Unit) : Option (((Int × Unit) × Unit) × (Int × Unit)) := ((f223 k a a0 a1 a2 ()).bind fun r1 => ((f223 k r1.1.1.1 a0 r1.2.2.1 a3 ()).bind fun r2 => ((f223 k r2.1.1.1 a0 r1.2.1 r2.2.1 ()).bind fun r3 => some (((r3.1.1.1, ()), ()), (r3.2.2.1, ())))))
theorem f215_entry_P (k : Nat) (x : LOD f215_ls) (xs : DL f215_sig) : f215_a k (.c (f215_p 1) 0 :: []) .nx (σ0B 41 129 4 f215_ls x f215_sig xs) = f215_entry_B k x.1.1 xs.1 xs.2.1 xs.2.2.1 xs.2.2.2.1 xs.2.2.2.2.1 := by kernel_rfl
def f215 (k : Nat) (a : Int) (a0 : Td3) (a1 : Int) (a2 : Int) (a3 : Int) (a4 : Unit) : Option (((Int × Unit) × Unit) × (Int × Unit)) := f215_entry_B k a a0 a1 a2 a3 a4
theorem f215_eq (k : Nat) (x : LOD f215_ls) (xs : DL f215_sig) : den T f215_Y (f215_E k) f215_A k f215_c 0 (σ0B 41 129 4 f215_ls x f215_sig xs) (KfinB T f215_ls f215_rs f215_ts) = f215 k x.1.1 xs.1 xs.2.1 xs.2.2.1 xs.2.2.2.1 xs.2.2.2.2.1 :=
  Eq.trans (Eq.trans den_sb (ap_at (ap_cons _ rfl) _)) ((f215_entry_P k x xs).trans (by rfl))
noncomputable def f215_con (k : Nat) : BCon := ⟨4, f215_ls, f215_sig, f215_rs, fun x xs => f215 k x.1.1 xs.1 xs.2.1 xs.2.2.1 xs.2.2.2.1 xs.2.2.2.2.1⟩
theorem f215_ok (k : Nat) : BoxOK Try.prog 215 4 f215_ls f215_sig f215_rs (fun x xs => f215 k x.1.1 xs.1 xs.2.1 xs.2.2.1 xs.2.2.2.1 xs.2.2.2.2.1) :=
  (box_of_den (k := k) (A := f215_A) (T := T) (Y := f215_Y) (E := f215_E k) (M := 129) (ts := f215_ts) T_ok ⟨f223_ok k, trivial⟩ ⟨f223_ent, trivial⟩ mixed (f := 215) (fn := Try.f215) (c := f215_c) (by kernel_rfl) (by kernel_rfl) (by kernel_rfl) (by decide) (by kernel_rfl) (by decide)).congr fun x xs => (f215_eq k x xs).symm
theorem f215_ent : Ent Try.prog 215 := fun args w => by kernel_rfl
/-! ### slices.medianAdjacentCmpFunc[terrier/api.Ban]: function 214 -/
noncomputable def f214_c : Code := Try.f214.body.getD .skip
noncomputable abbrev f214_p (n : Nat) : Code := sb f214_c n
abbrev f214_sig : List PT := [(false, Tq2), (false, (.int .i64)), (false, (.fn 127))]
abbrev f214_rs : List RT := [.d false (.int .i64)]
abbrev f214_ts : List RV := [.tmp 8]
abbrev f214_ls : List LO := [.box [.d (.int .i64)]]
abbrev f214_S := St → Option (LOD f214_ls × RDL f214_rs)
abbrev f214_L := List (Fr (LOD f214_ls × RDL f214_rs))
def f214_Y : Tys := []
noncomputable def f214_E (k : Nat) : Env := [(215, .b (f215_con k))]
def f214_A : Ann := {}
noncomputable abbrev f214_a (k : Nat) (F : f214_L) : Kont (LOD f214_ls × RDL f214_rs) := ap T f214_Y (f214_E k) f214_A k (KfinB T f214_ls f214_rs f214_ts) F
def f214_entry_B (k : Nat) (a : Int) (a0 : Td3) (a1 : Int) (a2 : Unit) : Option (((Int × Unit) × Unit) × (Int × Unit)) := ((f215 k a a0 (w64 (a1 - 1)) a1 (w64 (a1 + 1)) ()).bind fun r1 => some (((r1.1.1.1, ()), ()), (r1.2.1, ())))
theorem f214_entry_P (k : Nat) (x : LOD f214_ls) (xs : DL f214_sig) : f214_a k (.c (f214_p 1) 0 :: []) .nx (σ0B 18 65 2 f214_ls x f214_sig xs) = f214_entry_B k x.1.1 xs.1 xs.2.1 xs.2.2.1 := by kernel_rfl
def f214 (k : Nat) (a : Int) (a0 : Td3) (a1 : Int) (a2 : Unit) : Option (((Int × Unit) × Unit) × (Int × Unit)) := f214_entry_B k a a0 a1 a2
theorem f214_eq (k : Nat) (x : LOD f214_ls) (xs : DL f214_sig) : den T f214_Y (f214_E k) f214_A k f214_c 0 (σ0B 18 65 2 f214_ls x f214_sig xs) (KfinB T f214_ls f214_rs f214_ts) = f214 k x.1.1 xs.1 xs.2.1 xs.2.2.1 :=
  Eq.trans (Eq.trans den_sb (ap_at (ap_cons _ rfl) _)) ((f214_entry_P k x xs).trans (by rfl))
noncomputable def f214_con (k : Nat) : BCon := ⟨2, f214_ls, f214_sig, f214_rs, fun x xs => f214 k x.1.1 xs.1 xs.2.1 xs.2.2.1⟩
theorem f214_ok (k : Nat) : BoxOK Try.prog 214 2 f214_ls f214_sig f214_rs (fun x xs => f214 k x.1.1 xs.1 xs.2.1 xs.2.2.1) :=
  (box_of_den (k := k) (A := f214_A) (T := T) (Y := f214_Y) (E := f214_E k) (M := 65) (ts := f214_ts) T_ok ⟨f215_ok k, trivial⟩ ⟨f215_ent, trivial⟩ mixed (f := 214) (fn := Try.f214) (c := f214_c) (by kernel_rfl) (by kernel_rfl) (by kernel_rfl) (by decide) (by kernel_rfl) (by decide)).congr fun x xs => (f214_eq k x xs).symm
theorem f214_ent : Ent Try.prog 214 := fun args w => by kernel_rfl
/-! ### slices.choosePivotCmpFunc[terrier/api.Ban]: function 195 -/
noncomputable def f195_c : Code := Try.f195.body.getD .skip
noncomputable abbrev f195_p (n : Nat) : Code := sb f195_c n
abbrev f195_sig : List PT := [(false, Tq2), (false, (.int .i64)), (false, (.int .i64)), (false, (.fn 127))]
abbrev f195_rs : List RT := [.d false (.int .i64), .d false (.int .i64)]
abbrev f195_ts : List RV := [.tmp 8, .tmp 9]
abbrev f195_S := St → Option (RDL f195_rs)
abbrev f195_L := List (Fr (RDL f195_rs))
def f195_Y : Tys := []
noncomputable def f195_E (k : Nat) : Env := [(214, .b (f214_con k)), (215, .b (f215_con k))]
def f195_A : Ann := { conds := [(8, { slots := [(0, .val false Tq1), (3, .id), (11, .id), (12, .id), (13, .id), (14, .id)], keys := [(11, [])] }), (7, { slots := [(11, .id), (13, .id)], keys := [(11, [])] })] }
noncomputable abbrev f195_a (k : Nat) (F : f195_L) : Kont (RDL f195_rs) := ap T f195_Y (f195_E k) f195_A k (Kfin T f195_rs f195_ts) F
def f195_s_c8 (y11_0 : Int) (x0 : (List (Int × Int))) (x12 : Int) (x13 : Int) (x14 : Int) : St := mkS 63 192 [(0, aV Tq1 x0), (3, .cp (.one (.fn 127 []))), (11, aP 11), (12, aI x12), (13, aI x13), (14, aI x14)] [(11, .box [cI y11_0])]
abbrev f195_t_c8 := Int → (List (Int × Int)) → Int → Int → Int → Option (Int × Int × Unit)
abbrev f195_o_c8 (R : f195_S) : f195_t_c8 := (fun y11_0 x0 x12 x13 x14 => R (f195_s_c8 y11_0 x0 x12 x13 x14))
noncomputable def f195_Q_c8 (k : Nat) : f195_L := [.c (f195_p 2037) 0, .cond 7, .c (f195_p 255) 0]
noncomputable def f195_C_c8 (k : Nat) : f195_S := fun σ => f195_a k (f195_Q_c8 k) .nx σ
def f195_s_c7 (y11_0 : Int) (x13 : Int) : St := mkS 63 192 [(11, aP 11), (13, aI x13)] [(11, .box [cI y11_0])]
abbrev f195_t_c7 := Int → Int → Option (Int × Int × Unit)
abbrev f195_o_c7 (R : f195_S) : f195_t_c7 := (fun y11_0 x13 => R (f195_s_c7 y11_0 x13))
noncomputable def f195_Q_c7 (k : Nat) : f195_L := [.c (f195_p 255) 0]
noncomputable def f195_C_c7 (k : Nat) : f195_S := fun σ => f195_a k (f195_Q_c7 k) .nx σ
noncomputable def f195_F_c7 (k : Nat) : f195_L := .c (f195_p 255) 0 :: []
theorem f195_f_c7 (k : Nat) : f195_a k (f195_Q_c7 k) = f195_a k (f195_F_c7 k) := (ap_cons _ rfl)
noncomputable def f195_F_c8 (k : Nat) (G_c7 : f195_S) : f195_L := .c (f195_p 2037) 0 :: .j (fun σ => G_c7 (cut f195_A.conds 7 σ)) :: f195_F_c7 k
theorem f195_f_c8 (k : Nat) : f195_a k (f195_Q_c8 k) = f195_a k (f195_F_c8 k (f195_C_c7 k)) := (ap_cons _ (Eq.trans (ap_condj (C := (f195_C_c7 k)) (fun _ => rfl)) (ap_cons _ (f195_f_c7 k))))
def f195_entry_B (k : Nat) (g_c8 : f195_t_c8) (g_c7 : f195_t_c7) (a0 : Td3) (a1 : Int) (a2 : Int) (a3 : Unit) : Option (Int × Int × Unit) := (if 8 ≤ (w64 (a2 - a1)) then (if 50 ≤ (w64 (a2 - a1)) then ((f214 k 0 a0 (w64 (a1 + (w64 ((w64 ((w64 (a2 - a1)).tdiv 4)) * 1)))) ()).bind fun r1 => ((f214 k r1.1.1.1 a0 (w64 (a1 + (w64 ((w64 ((w64 (a2 - a1)).tdiv 4)) * 2)))) ()).bind fun r2 => ((f214 k r2.1.1.1 a0 (w64 (a1 + (w64 ((w64 ((w64 (a2 - a1)).tdiv 4)) * 3)))) ()).bind fun r3 => (g_c8 r3.1.1.1 a0 r1.2.1 r2.2.1 r3.2.1)))) else (g_c8 0 a0 (w64 (a1 + (w64 ((w64 ((w64 (a2 - a1)).tdiv 4)) * 1)))) (w64 (a1 + (w64 ((w64 ((w64 (a2 - a1)).tdiv 4)) * 2)))) (w64 (a1 + (w64 ((w64 ((w64 (a2 - a1)).tdiv 4)) * 3)))))) else (g_c7 0 (w64 (a1 + (w64 ((w64 ((w64 (a2 - a1)).tdiv 4)) * 2))))))
def f195_c8_B (k : Nat) (g_c7 : f195_t_c7) (y11_0 : Int) (x0 : (List (Int × Int))) (x12 : Int) (x13 : Int) (x14 : Int) : Option (Int × Int × Unit) := ((f215 k y11_0 x0 x12 x13 x14 ()).bind fun r1 => (g_c7 r1.1.1.1 r1.2.1))
def f195_c7_B (k : Nat) (y11_0 : Int) (x13 : Int) : Option (Int × Int × Unit) := (if y11_0 = 0 then some (x13, 1, ()) else (if y11_0 = 12 then some (x13, 2, ()) else some (x13, 0, ())))
theorem f195_c7_P (k : Nat) : f195_o_c7 (fun σ => f195_a k (f195_F_c7 k) .nx σ) = f195_c7_B k := by kernel_rfl
def f195_c7 (k : Nat) : f195_t_c7 := f195_c7_B k
theorem f195_c7_E (k : Nat) : f195_o_c7 (f195_C_c7 k) = f195_c7 k :=
  Eq.trans (congrArg f195_o_c7 (ap_fn (f195_f_c7 k))) ((f195_c7_P k).trans (by rfl))
theorem f195_c8_P (k : Nat) (G_c7 : f195_S) : f195_o_c8 (fun σ => f195_a k (f195_F_c8 k G_c7) .nx σ) = f195_c8_B k (f195_o_c7 G_c7) := by kernel_rfl
def f195_c8 (k : Nat) : f195_t_c8 := f195_c8_B k (f195_c7 k)
theorem f195_c8_E (k : Nat) : f195_o_c8 (f195_C_c8 k) = f195_c8 k :=
  Eq.trans (congrArg f195_o_c8 (ap_fn (f195_f_c8 k))) ((f195_c8_P k (f195_C_c7 k)).trans (by rw [f195_c7_E k] <;> rfl))
theorem f195_entry_P (k : Nat) (G_c8 G_c7 : f195_S) (xs : DL f195_sig) : f195_a k (.c (f195_p 2) 0 :: .c (f195_p 6) 0 :: .c (f195_p 14) 0 :: .c (f195_p 30) 0 :: .c (f195_p 62) 0 :: .c (f195_p 126) 0 :: .c (f195_p 508) 0 :: .i (.tmp 34) (fun σ => f195_a k (.c (f195_p 4072) 0 :: .c (f195_p 4073) 0 :: .j G_c8 :: f195_F_c8 k G_c7) .nx σ) (fun σ => f195_a k (.c (f195_p 1019) 0 :: .j (fun σ => G_c7 (cut f195_A.conds 7 σ)) :: f195_F_c7 k) .nx σ) :: f195_F_c7 k) .nx (σ0 63 192 f195_sig xs) = f195_entry_B k (f195_o_c8 G_c8) (f195_o_c7 G_c7) xs.1 xs.2.1 xs.2.2.1 xs.2.2.2.1 := by kernel_rfl
def f195 (k : Nat) (a0 : Td3) (a1 : Int) (a2 : Int) (a3 : Unit) : Option (Int × Int × Unit) := f195_entry_B k (f195_c8 k) (f195_c7 k) a0 a1 a2 a3
theorem f195_fe (k : Nat) : f195_a k [.c (f195_p 1) 0] = f195_a k (.c (f195_p 2) 0 :: .c (f195_p 6) 0 :: .c (f195_p 14) 0 :: .c (f195_p 30) 0 :: .c (f195_p 62) 0 :: .c (f195_p 126) 0 :: .c (f195_p 508) 0 :: .i (.tmp 34) (fun σ => f195_a k (.c (f195_p 4072) 0 :: .c (f195_p 4073) 0 :: .j (f195_C_c8 k) :: f195_F_c8 k (f195_C_c7 k)) .nx σ) (fun σ => f195_a k (.c (f195_p 1019) 0 :: .j (fun σ => (f195_C_c7 k) (cut f195_A.conds 7 σ)) :: f195_F_c7 k) .nx σ) :: f195_F_c7 k) := (Eq.trans ap_sq (ap_cons _ (Eq.trans ap_sq (ap_cons _ (Eq.trans ap_sq (ap_cons _ (Eq.trans ap_sq (ap_cons _ (Eq.trans ap_sq (ap_cons _ (Eq.trans ap_sq (ap_cons _ (Eq.trans ap_sq (Eq.trans ap_sq (ap_cons _ (Eq.trans (ap_cn (.tmp 34) 7) (Eq.trans (ap_i (Eq.trans ap_sq (Eq.trans ap_sq (ap_cons _ (ap_cons _ (Eq.trans (ap_pass (C := (f195_C_c8 k)) (fun _ => rfl)) (ap_cons _ (f195_f_c8 k))))))) (ap_cons _ (Eq.trans (ap_condj (C := (f195_C_c7 k)) (fun _ => rfl)) (ap_cons _ (f195_f_c7 k))))) (ap_cons _ (f195_f_c7 k)))))))))))))))))))
theorem f195_eq (k : Nat) (xs : DL f195_sig) : den T f195_Y (f195_E k) f195_A k f195_c 0 (σ0 63 192 f195_sig xs) (Kfin T f195_rs f195_ts) = f195 k xs.1 xs.2.1 xs.2.2.1 xs.2.2.2.1 :=
  Eq.trans (Eq.trans den_sb (ap_at (f195_fe k) _)) ((f195_entry_P k (f195_C_c8 k) (f195_C_c7 k) xs).trans (by rw [f195_c8_E k, f195_c7_E k] <;> rfl))
noncomputable def f195_con (k : Nat) : Con := ⟨f195_sig, f195_rs, fun xs => f195 k xs.1 xs.2.1 xs.2.2.1 xs.2.2.2.1⟩
theorem f195_ok (k : Nat) : PureOK Try.prog 195 f195_sig f195_rs (fun xs => f195 k xs.1 xs.2.1 xs.2.2.1 xs.2.2.2.1) :=
  (pure_of_den (k := k) (A := f195_A) (T := T) (Y := f195_Y) (E := f195_E k) (M := 192) (ts := f195_ts) T_ok ⟨f214_ok k, f215_ok k, trivial⟩ ⟨f214_ent, f215_ent, trivial⟩ mixed (f := 195) (fn := Try.f195) (c := f195_c) (by kernel_rfl) (by kernel_rfl) (by kernel_rfl) (by decide) (by kernel_rfl)).congr fun xs => (f195_eq k xs).symm
theorem f195_ent : Ent Try.prog 195 := fun args w => by kernel_rfl
/-! ### slices.pdqsortCmpFunc[terrier/api.Ban]: function 162 -/
noncomputable def f162_c : Code := Try.f162.body.getD .skip
noncomputable abbrev f162_p (n : Nat) : Code := sb f162_c n
abbrev f162_sig : List PT := [(false, (.int .i64)), (false, (.int .i64)), (false, (.int .i64)), (false, (.fn 127))]
abbrev f162_rs : List RT := []
abbrev f162_ts : List RV := []
abbrev f162_ls : List LO := [.row Tq1]
abbrev f162_S := St → Option (LOD f162_ls × RDL f162_rs)
abbrev f162_L := List (Fr (LOD f162_ls × RDL f162_rs))
def f162_Y : Tys := []
noncomputable def f162_E (k : Nat) : Env := [(127, .c (f127_con k)), (192, .b (f192_con k)), (195, .c (f195_con k))]
def f162_A : Ann := { loops := [(0, { slots := [(0, .id), (1, .id), (2, .id), (3, .id), (4, .id), (10, .id), (11, .id)], keys := [(0, [])] })], conds := [(8, { slots := [(0, .id), (1, .id), (2, .id), (3, .id), (4, .id), (10, .id), (11, .id), (12, .id)], keys := [(0, [])] }), (12, { slots := [(0, .id), (1, .id), (2, .id), (3, .id), (4, .id), (10, .id), (11, .id), (12, .id), (13, .id), (14, .id)], keys := [(0, [])] }), (16, { slots := [(0, .id), (1, .id), (2, .id), (3, .id), (4, .id), (10, .id), (11, .id), (12, .id), (13, .id)], keys := [(0, [])] })], regs := [(15, { slots := [(0, .id), (1, .id), (2, .id), (3, .id), (4, .id), (10, .id), (11, .id), (12, .id), (13, .id), (75, .bool)], keys := [(0, [])] }), (17, { slots := [(0, .id), (1, .id), (2, .id), (3, .id), (4, .id), (10, .id), (11, .id), (12, .id), (13, .id), (97, .bool)], keys := [(0, [])] })] }
noncomputable abbrev f162_a (k : Nat) (F : f162_L) : Kont (LOD f162_ls × RDL f162_rs) := ap T f162_Y (f162_E k) f162_A k (KfinB T f162_ls f162_rs f162_ts) F
def f162_s_l0 (y0 : (List (Int × Int))) (x1 : Int) (x2 : Int) (x3 : Int) : St := mkS 148 449 [(0, aO 0), (1, aI x1), (2, aI x2), (3, aI x3), (4, .cp (.one (.fn 127 []))), (10, .cp (.one (.lit true))), (11, .cp (.one (.lit true)))] [(0, .vec Tq1 y0)]
abbrev f162_t_l0 := (List (Int × Int)) → Int → Int → Int → Option (((List (Int × Int)) × Unit) × (Unit))
abbrev f162_o_l0 (R : f162_S) : f162_t_l0 := (fun y0 x1 x2 x3 => R (f162_s_l0 y0 x1 x2 x3))
noncomputable def f162_Q_l0 (k : Nat) (R_l0 : f162_S) : f162_L := [.c (f162_p 28) 0, .j (fun σ => R_l0 (cut f162_A.loops 0 σ)), .blk 0]
noncomputable def f162_C_l0 (k : Nat) (n : Nat) (σ : St) : Option (LOD f162_ls × RDL f162_rs) := loopK (fun σ K => den T f162_Y (f162_E k) f162_A k (f162_p 28) 0 σ K) (cut f162_A.loops 0) (f162_a k [.blk 0]) n σ
def f162_s_c8 (y0 : (List (Int × Int))) (x1 : Int) (x12 : Int) (x2 : Int) (x3 : Int) : St := mkS 148 449 [(0, aO 0), (1, aI x1), (2, aI x2), (3, aI x3), (4, .cp (.one (.fn 127 []))), (10, .cp (.one (.lit true))), (11, .cp (.one (.lit true))), (12, aI x12)] [(0, .vec Tq1 y0)]
abbrev f162_t_c8 := (List (Int × Int)) → Int → Int → Int → Int → Option (((List (Int × Int)) × Unit) × (Unit))
abbrev f162_o_c8 (R : f162_S) : f162_t_c8 := (fun y0 x1 x12 x2 x3 => R (f162_s_c8 y0 x1 x12 x2 x3))
noncomputable def f162_Q_c8 (k : Nat) (R_l0 : f162_S) : f162_L := [.c (f162_p 911) 1, .blk 1, .j (fun σ => R_l0 (cut f162_A.loops 0 σ)), .blk 0]
noncomputable def f162_C_c8 (k : Nat) (R_l0 : f162_S) : f162_S := fun σ => f162_a k (f162_Q_c8 k R_l0) .nx σ
def f162_s_c12 (y0 : (List (Int × Int))) (x1 : Int) (x12 : Int) (x13 : Int) (x14 : Int) (x2 : Int) (x3 : Int) : St := mkS 148 449 [(0, aO 0), (1, aI x1), (2, aI x2), (3, aI x3), (4, .cp (.one (.fn 127 []))), (10, .cp (.one (.lit true))), (11, .cp (.one (.lit true))), (12, aI x12), (13, aI x13), (14, aI x14)] [(0, .vec Tq1 y0)]
abbrev f162_t_c12 := (List (Int × Int)) → Int → Int → Int → Int → Int → Int → Option (((List (Int × Int)) × Unit) × (Unit))
abbrev f162_o_c12 (R : f162_S) : f162_t_c12 := (fun y0 x1 x12 x13 x14 x2 x3 => R (f162_s_c12 y0 x1 x12 x13 x14 x2 x3))
noncomputable def f162_Q_c12 (k : Nat) (R_l0 : f162_S) : f162_L := [.c (f162_p 3647) 1, .blk 1, .j (fun σ => R_l0 (cut f162_A.loops 0 σ)), .blk 0]
noncomputable def f162_C_c12 (k : Nat) (R_l0 : f162_S) : f162_S := fun σ => f162_a k (f162_Q_c12 k R_l0) .nx σ
def f162_s_r15 (y0 : (List (Int × Int))) (x1 : Int) (x12 : Int) (x13 : Int) (x2 : Int) (x3 : Int) (x75 : Bool) : St := mkS 148 449 [(0, aO 0), (1, aI x1), (2, aI x2), (3, aI x3), (4, .cp (.one (.fn 127 []))), (10, .cp (.one (.lit true))), (11, .cp (.one (.lit true))), (12, aI x12), (13, aI x13), (75, aB x75)] [(0, .vec Tq1 y0)]
abbrev f162_t_r15 := (List (Int × Int)) → Int → Int → Int → Int → Int → Bool → Option (((List (Int × Int)) × Unit) × (Unit))
abbrev f162_o_r15 (R : f162_S) : f162_t_r15 := (fun y0 x1 x12 x13 x2 x3 x75 => R (f162_s_r15 y0 x1 x12 x13 x2 x3 x75))
noncomputable def f162_Q_r15 (k : Nat) (R_l0 : f162_S) : f162_L := [.c (f162_p 14589) 1, .c (f162_p 7295) 1, .blk 1, .j (fun σ => R_l0 (cut f162_A.loops 0 σ)), .blk 0]
noncomputable def f162_C_r15 (k : Nat) (R_l0 : f162_S) : f162_S := fun σ => f162_a k (f162_Q_r15 k R_l0) .nx σ
def f162_s_c16 (y0 : (List (Int × Int))) (x1 : Int) (x12 : Int) (x13 : Int) (x2 : Int) (x3 : Int) : St := mkS 148 449 [(0, aO 0), (1, aI x1), (2, aI x2), (3, aI x3), (4, .cp (.one (.fn 127 []))), (10, .cp (.one (.lit true))), (11, .cp (.one (.lit true))), (12, aI x12), (13, aI x13)] [(0, .vec Tq1 y0)]
abbrev f162_t_c16 := (List (Int × Int)) → Int → Int → Int → Int → Int → Option (((List (Int × Int)) × Unit) × (Unit))
abbrev f162_o_c16 (R : f162_S) : f162_t_c16 := (fun y0 x1 x12 x13 x2 x3 => R (f162_s_c16 y0 x1 x12 x13 x2 x3))
noncomputable def f162_Q_c16 (k : Nat) (R_l0 : f162_S) : f162_L := [.c (f162_p 7295) 1, .blk 1, .j (fun σ => R_l0 (cut f162_A.loops 0 σ)), .blk 0]
noncomputable def f162_C_c16 (k : Nat) (R_l0 : f162_S) : f162_S := fun σ => f162_a k (f162_Q_c16 k R_l0) .nx σ
def f162_s_r17 (y0 : (List (Int × Int))) (x1 : Int) (x12 : Int) (x13 : Int) (x2 : Int) (x3 : Int) (x97 : Bool) : St := mkS 148 449 [(0, aO 0), (1, aI x1), (2, aI x2), (3, aI x3), (4, .cp (.one (.fn 127 []))), (10, .cp (.one (.lit true))), (11, .cp (.one (.lit true))), (12, aI x12), (13, aI x13), (97, aB x97)] [(0, .vec Tq1 y0)]
abbrev f162_t_r17 := (List (Int × Int)) → Int → Int → Int → Int → Int → Bool → Option (((List (Int × Int)) × Unit) × (Unit))
abbrev f162_o_r17 (R : f162_S) : f162_t_r17 := (fun y0 x1 x12 x13 x2 x3 x97 => R (f162_s_r17 y0 x1 x12 x13 x2 x3 x97))
noncomputable def f162_Q_r17 (k : Nat) (R_l0 : f162_S) : f162_L := [.c (f162_p 29181) 1, .c (f162_p 14591) 1, .blk 1, .j (fun σ => R_l0 (cut f162_A.loops 0 σ)), .blk 0]
noncomputable def f162_C_r17 (k : Nat) (R_l0 : f162_S) : f162_S := fun σ => f162_a k (f162_Q_r17 k R_l0) .nx σ
noncomputable def f162_F_r17 (k : Nat) (G_l0 : f162_S) : f162_L := .c (f162_p 29181) 1 :: .c (f162_p 29182) 1 :: .c (f162_p 58366) 1 :: .c (f162_p 116734) 1 :: .c (f162_p 233470) 1 :: .c (f162_p 466942) 1 :: .c (f162_p 466943) 1 :: .blk 1 :: .j (fun σ => G_l0 (cut f162_A.loops 0 σ)) :: .blk 0 :: []
theorem f162_f_r17 (k : Nat) (R_l0 : f162_S) : f162_a k (f162_Q_r17 k R_l0) = f162_a k (f162_F_r17 k R_l0) := (ap_cons _ (Eq.trans ap_sq (ap_cons _ (Eq.trans ap_sq (ap_cons _ (Eq.trans ap_sq (ap_cons _ (Eq.trans ap_sq (ap_cons _ (Eq.trans ap_sq (ap_cons _ (ap_cons _ (ap_cons _ (ap_cons _ (ap_cons _ rfl)))))))))))))))
noncomputable def f162_F_c16 (k : Nat) (G_l0 G_r17 : f162_S) : f162_L := .c (f162_p 29180) 1 :: .j G_r17 :: f162_F_r17 k G_l0
theorem f162_f_c16 (k : Nat) (R_l0 : f162_S) : f162_a k (f162_Q_c16 k R_l0) = f162_a k (f162_F_c16 k R_l0 (f162_C_r17 k R_l0)) := (Eq.trans ap_sq (Eq.trans ap_sq (ap_cons _ (Eq.trans (ap_pass (C := (f162_C_r17 k R_l0)) (fun _ => rfl)) (ap_cons _ (f162_f_r17 k R_l0))))))
noncomputable def f162_F_r15 (k : Nat) (G_l0 G_c16 G_r17 : f162_S) : f162_L := .c (f162_p 14589) 1 :: .j G_c16 :: f162_F_c16 k G_l0 G_r17
theorem f162_f_r15 (k : Nat) (R_l0 : f162_S) : f162_a k (f162_Q_r15 k R_l0) = f162_a k (f162_F_r15 k R_l0 (f162_C_c16 k R_l0) (f162_C_r17 k R_l0)) := (ap_cons _ (Eq.trans (ap_pass (C := (f162_C_c16 k R_l0)) (fun _ => rfl)) (ap_cons _ (f162_f_c16 k R_l0))))
noncomputable def f162_F_c12 (k : Nat) (G_l0 G_r15 G_c16 G_r17 : f162_S) : f162_L := .c (f162_p 14588) 1 :: .j G_r15 :: f162_F_r15 k G_l0 G_c16 G_r17
theorem f162_f_c12 (k : Nat) (R_l0 : f162_S) : f162_a k (f162_Q_c12 k R_l0) = f162_a k (f162_F_c12 k R_l0 (f162_C_r15 k R_l0) (f162_C_c16 k R_l0) (f162_C_r17 k R_l0)) := (Eq.trans ap_sq (Eq.trans ap_sq (ap_cons _ (Eq.trans (ap_pass (C := (f162_C_r15 k R_l0)) (fun _ => rfl)) (ap_cons _ (f162_f_r15 k R_l0))))))
noncomputable def f162_F_c8 (k : Nat) (G_l0 G_c12 G_r15 G_c16 G_r17 : f162_S) : f162_L := .c (f162_p 1822) 1 :: .c (f162_p 7292) 1 :: .c (f162_p 7293) 1 :: .j G_c12 :: f162_F_c12 k G_l0 G_r15 G_c16 G_r17
theorem f162_f_c8 (k : Nat) (R_l0 : f162_S) : f162_a k (f162_Q_c8 k R_l0) = f162_a k (f162_F_c8 k R_l0 (f162_C_c12 k R_l0) (f162_C_r15 k R_l0) (f162_C_c16 k R_l0) (f162_C_r17 k R_l0)) := (Eq.trans ap_sq (ap_cons _ (Eq.trans ap_sq (Eq.trans ap_sq (ap_cons _ (ap_cons _ (Eq.trans (ap_pass (C := (f162_C_c12 k R_l0)) (fun _ => rfl)) (ap_cons _ (f162_f_c12 k R_l0)))))))))
noncomputable def f162_F_l0 (k : Nat) (G_l0 G_c8 G_c12 G_r15 G_c16 G_r17 : f162_S) : f162_L := .j (fun σ => f162_a k (.c (f162_p 112) 1 :: .c (f162_p 226) 1 :: .c (f162_p 454) 1 :: .c (f162_p 1820) 1 :: .c (f162_p 1821) 1 :: .j G_c8 :: f162_F_c8 k G_l0 G_c12 G_r15 G_c16 G_r17) .nx σ) :: .j (fun σ => G_l0 (cut f162_A.loops 0 σ)) :: .blk 0 :: []
theorem f162_f_l0 (k : Nat) (R_l0 : f162_S) : f162_a k (f162_Q_l0 k R_l0) = f162_a k (f162_F_l0 k R_l0 (f162_C_c8 k R_l0) (f162_C_c12 k R_l0) (f162_C_r15 k R_l0) (f162_C_c16 k R_l0) (f162_C_r17 k R_l0)) := (Eq.trans (ap_bl 1) (Eq.trans (ap_j (Eq.trans ap_sq (ap_cons _ (Eq.trans ap_sq (ap_cons _ (Eq.trans ap_sq (ap_cons _ (Eq.trans ap_sq (Eq.trans ap_sq (ap_cons _ (ap_cons _ (Eq.trans (ap_pass (C := (f162_C_c8 k R_l0)) (fun _ => rfl)) (ap_cons _ (f162_f_c8 k R_l0)))))))))))))) (ap_cons _ (ap_cons _ (ap_cons _ rfl)))))
def f162_entry_B (k : Nat) (g_l0 : f162_t_l0) (a : Td3) (a0 : Int) (a1 : Int) (a2 : Int) (a3 : Unit) : Option (((List (Int × Int)) × Unit) × (Unit)) := (g_l0 a a0 a1 a2)
def f162_l0_B (k : Nat) (g_c8 : f162_t_c8) (y0 : (List (Int × Int))) (x1 : Int) (x2 : Int) (x3 : Int) : Option (((List (Int × Int)) × Unit) × (Unit)) := (if (w64 (x2 - x1)) ≤ 12 then ((f192 k y0 x1 x2 ()).bind fun r1 => some ((r1.1.1, ()), (()))) else (if x3 = 0 then none else (g_c8 y0 x1 (w64 (x2 - x1)) x2 x3)))
def f162_c8_B (k : Nat) (g_c12 : f162_t_c12) (y0 : (List (Int × Int))) (x1 : Int) (x12 : Int) (x2 : Int) (x3 : Int) : Option (((List (Int × Int)) × Unit) × (Unit)) := ((f195 k y0 x1 x2 ()).bind fun r1 => (if r1.2.1 = 2 then none else (g_c12 y0 x1 x12 r1.1 r1.2.1 x2 x3)))
def f162_c12_B (k : Nat) (g_r15 : f162_t_r15) (y0 : (List (Int × Int))) (x1 : Int) (x12 : Int) (x13 : Int) (x14 : Int) (x2 : Int) (x3 : Int) : Option (((List (Int × Int)) × Unit) × (Unit)) := (g_r15 y0 x1 x12 x13 x2 x3 (decide (x14 = 1)))
def f162_r15_B (k : Nat) (g_c16 : f162_t_c16) (y0 : (List (Int × Int))) (x1 : Int) (x12 : Int) (x13 : Int) (x2 : Int) (x3 : Int) (x75 : Bool) : Option (((List (Int × Int)) × Unit) × (Unit)) := (if x75 = true then none else (g_c16 y0 x1 x12 x13 x2 x3))
def f162_c16_B (k : Nat) (g_r17 : f162_t_r17) (y0 : (List (Int × Int))) (x1 : Int) (x12 : Int) (x13 : Int) (x2 : Int) (x3 : Int) : Option (((List (Int × Int)) × Unit) × (Unit)) := (if 0 < x1 then (if 0 ≤ (w64 (x1 - 1)) then (if (w64 (x1 - 1)) < (y0.length : Int) then (if 0 ≤ x13 then (if x13 < (y0.length : Int) then ((f127 k ((y0.getD ((w64 (x1 - 1)).toNat) (0, 0)).1, (y0.getD ((w64 (x1 - 1)).toNat) (0, 0)).2) ((y0.getD ((x13).toNat) (0, 0)).1, (y0.getD ((x13).toNat) (0, 0)).2)).bind fun r1 => (g_r17 y0 x1 x12 x13 x2 x3 (decide (¬ (r1.1 < 0))))) else none) else none) else none) else none) else (g_r17 y0 x1 x12 x13 x2 x3 false))
def f162_r17_B (k : Nat) (y0 : (List (Int × Int))) (x1 : Int) (x12 : Int) (x13 : Int) (x2 : Int) (x3 : Int) (x97 : Bool) : Option (((List (Int × Int)) × Unit) × (Unit)) := (if x97 = true then none else none)
theorem f162_r17_P (k : Nat) (G_l0 : f162_S) : f162_o_r17 (fun σ => f162_a k (f162_F_r17 k G_l0) .nx σ) = f162_r17_B k := by kernel_rfl
def f162_r17 (k : Nat) (r_l0 : f162_t_l0) : f162_t_r17 := f162_r17_B k
theorem f162_r17_E (k : Nat) (R_l0 : f162_S) : f162_o_r17 (f162_C_r17 k R_l0) = f162_r17 k (f162_o_l0 R_l0) :=
  Eq.trans (congrArg f162_o_r17 (ap_fn (f162_f_r17 k R_l0))) ((f162_r17_P k R_l0).trans (by rfl))
theorem f162_c16_P (k : Nat) (G_l0 G_r17 : f162_S) : f162_o_c16 (fun σ => f162_a k (f162_F_c16 k G_l0 G_r17) .nx σ) = f162_c16_B k (f162_o_r17 G_r17) := by kernel_rfl
def f162_c16 (k : Nat) (r_l0 : f162_t_l0) : f162_t_c16 := f162_c16_B k (f162_r17 k r_l0)
theorem f162_c16_E (k : Nat) (R_l0 : f162_S) : f162_o_c16 (f162_C_c16 k R_l0) = f162_c16 k (f162_o_l0 R_l0) :=
  Eq.trans (congrArg f162_o_c16 (ap_fn (f162_f_c16 k R_l0))) ((f162_c16_P k R_l0 (f162_C_r17 k R_l0)).trans (by rw [f162_r17_E k R_l0] <;> rfl))
theorem f162_r15_P (k : Nat) (G_l0 G_c16 G_r17 : f162_S) : f162_o_r15 (fun σ => f162_a k (f162_F_r15 k G_l0 G_c16 G_r17) .nx σ) = f162_r15_B k (f162_o_c16 G_c16) := by kernel_rfl
def f162_r15 (k : Nat) (r_l0 : f162_t_l0) : f162_t_r15 := f162_r15_B k (f162_c16 k r_l0)
theorem f162_r15_E (k : Nat) (R_l0 : f162_S) : f162_o_r15 (f162_C_r15 k R_l0) = f162_r15 k (f162_o_l0 R_l0) :=
  Eq.trans (congrArg f162_o_r15 (ap_fn (f162_f_r15 k R_l0))) ((f162_r15_P k R_l0 (f162_C_c16 k R_l0) (f162_C_r17 k R_l0)).trans (by rw [f162_c16_E k R_l0] <;> rfl))
theorem f162_c12_P (k : Nat) (G_l0 G_r15 G_c16 G_r17 : f162_S) : f162_o_c12 (fun σ => f162_a k (f162_F_c12 k G_l0 G_r15 G_c16 G_r17) .nx σ) = f162_c12_B k (f162_o_r15 G_r15) := by kernel_rfl
def f162_c12 (k : Nat) (r_l0 : f162_t_l0) : f162_t_c12 := f162_c12_B k (f162_r15 k r_l0)
theorem f162_c12_E (k : Nat) (R_l0 : f162_S) : f162_o_c12 (f162_C_c12 k R_l0) = f162_c12 k (f162_o_l0 R_l0) :=
  Eq.trans (congrArg f162_o_c12 (ap_fn (f162_f_c12 k R_l0))) ((f162_c12_P k R_l0 (f162_C_r15 k R_l0) (f162_C_c16 k R_l0) (f162_C_r17 k R_l0)).trans (by rw [f162_r15_E k R_l0] <;> rfl))
theorem f162_c8_P (k : Nat) (G_l0 G_c12 G_r15 G_c16 G_r17 : f162_S) : f162_o_c8 (fun σ => f162_a k (f162_F_c8 k G_l0 G_c12 G_r15 G_c16 G_r17) .nx σ) = f162_c8_B k (f162_o_c12 G_c12) := by kernel_rfl
def f162_c8 (k : Nat) (r_l0 : f162_t_l0) : f162_t_c8 := f162_c8_B k (f162_c12 k r_l0)
theorem f162_c8_E (k : Nat) (R_l0 : f162_S) : f162_o_c8 (f162_C_c8 k R_l0) = f162_c8 k (f162_o_l0 R_l0) :=
  Eq.trans (congrArg f162_o_c8 (ap_fn (f162_f_c8 k R_l0))) ((f162_c8_P k R_l0 (f162_C_c12 k R_l0) (f162_C_r15 k R_l0) (f162_C_c16 k R_l0) (f162_C_r17 k R_l0)).trans (by rw [f162_c12_E k R_l0] <;> rfl))
theorem f162_l0_P (k : Nat) (G_l0 G_c8 G_c12 G_r15 G_c16 G_r17 : f162_S) : f162_o_l0 (fun σ => f162_a k (f162_F_l0 k G_l0 G_c8 G_c12 G_r15 G_c16 G_r17) .nx σ) = f162_l0_B k (f162_o_c8 G_c8) := by kernel_rfl
def f162_l0 (k : Nat) : Nat → f162_t_l0
  | 0 => fun _ _ _ _ => none
  | n + 1 => f162_l0_B k (f162_c8 k (f162_l0 k n))
theorem f162_l0_E (k : Nat) : ∀ n, f162_o_l0 (f162_C_l0 k n) = f162_l0 k n
  | 0 => rfl
  | n + 1 =>
    Eq.trans (congrArg f162_o_l0 (Eq.trans (b := fun σ => f162_a k (f162_Q_l0 k (f162_C_l0 k n)) .nx σ) (by kernel_rfl) (ap_fn (f162_f_l0 k (f162_C_l0 k n))))) ((f162_l0_P k (f162_C_l0 k n) (f162_C_c8 k (f162_C_l0 k n)) (f162_C_c12 k (f162_C_l0 k n)) (f162_C_r15 k (f162_C_l0 k n)) (f162_C_c16 k (f162_C_l0 k n)) (f162_C_r17 k (f162_C_l0 k n))).trans (by rw [f162_c8_E k (f162_C_l0 k n), f162_l0_E k n] <;> rfl))
theorem f162_entry_P (k : Nat) (G_l0 : f162_S) (x : LOD f162_ls) (xs : DL f162_sig) : f162_a k (.c (f162_p 2) 0 :: .c (f162_p 6) 0 :: .j (fun σ => f162_a k (.j (fun σ => G_l0 (cut f162_A.loops 0 σ)) :: .blk 0 :: []) .nx σ) :: []) .nx (σ0B 148 449 0 f162_ls x f162_sig xs) = f162_entry_B k (f162_o_l0 G_l0) x.1 xs.1 xs.2.1 xs.2.2.1 xs.2.2.2.1 := by kernel_rfl
def f162 (k : Nat) (a : Td3) (a0 : Int) (a1 : Int) (a2 : Int) (a3 : Unit) : Option (((List (Int × Int)) × Unit) × (Unit)) := f162_entry_B k (f162_l0 k k) a a0 a1 a2 a3
theorem f162_fe (k : Nat) : f162_a k [.c (f162_p 1) 0] = f162_a k (.c (f162_p 2) 0 :: .c (f162_p 6) 0 :: .j (fun σ => f162_a k (.j (fun σ => (f162_C_l0 k k) (cut f162_A.loops 0 σ)) :: .blk 0 :: []) .nx σ) :: []) := (Eq.trans ap_sq (ap_cons _ (Eq.trans ap_sq (ap_cons _ (Eq.trans (ap_bl 0) (Eq.trans (ap_j (Eq.trans (ap_lp (C := (f162_C_l0 k)) (fun _ _ => rfl)) (ap_cons _ (ap_cons _ rfl)))) (ap_cons _ rfl)))))))
theorem f162_eq (k : Nat) (x : LOD f162_ls) (xs : DL f162_sig) : den T f162_Y (f162_E k) f162_A k f162_c 0 (σ0B 148 449 0 f162_ls x f162_sig xs) (KfinB T f162_ls f162_rs f162_ts) = f162 k x.1 xs.1 xs.2.1 xs.2.2.1 xs.2.2.2.1 :=
  Eq.trans (Eq.trans den_sb (ap_at (f162_fe k) _)) ((f162_entry_P k (f162_C_l0 k k) x xs).trans (by rw [f162_l0_E k k] <;> rfl))
noncomputable def f162_con (k : Nat) : BCon := ⟨0, f162_ls, f162_sig, f162_rs, fun x xs => f162 k x.1 xs.1 xs.2.1 xs.2.2.1 xs.2.2.2.1⟩
theorem f162_ok (k : Nat) : BoxOK Try.prog 162 0 f162_ls f162_sig f162_rs (fun x xs => f162 k x.1 xs.1 xs.2.1 xs.2.2.1 xs.2.2.2.1) :=
  (box_of_den (k := k) (A := f162_A) (T := T) (Y := f162_Y) (E := f162_E k) (M := 449) (ts := f162_ts) T_ok ⟨f127_ok k, f192_ok k, f195_ok k, trivial⟩ ⟨f127_ent, f192_ent, f195_ent, trivial⟩ mixed (f := 162) (fn := Try.f162) (c := f162_c) (by kernel_rfl) (by kernel_rfl) (by kernel_rfl) (by decide) (by kernel_rfl) (by decide)).congr fun x xs => (f162_eq k x xs).symm
theorem f162_ent : Ent Try.prog 162 := fun args w => by kernel_rfl
/-! ### slices.SortFunc[[]terrier/api.Ban,terrier/api.Ban]: function 126 -/
noncomputable def f126_c : Code := Try.f126.body.getD .skip
noncomputable abbrev f126_p (n : Nat) : Code := sb f126_c n
abbrev f126_sig : List PT := [(false, (.fn 127))]
abbrev f126_rs : List RT := []
abbrev f126_ts : List RV := []
abbrev f126_ls : List LO := [.row Tq1]
abbrev f126_S := St → Option (LOD f126_ls × RDL f126_rs)
abbrev f126_L := List (Fr (LOD f126_ls × RDL f126_rs))
def f126_Y : Tys := []
noncomputable def f126_E (k : Nat) : Env := [(132, .c (f132_con k)), (162, .b (f162_con k))]
def f126_A : Ann := {}
noncomputable abbrev f126_a (k : Nat) (F : f126_L) : Kont (LOD f126_ls × RDL f126_rs) := ap T f126_Y (f126_E k) f126_A k (KfinB T f126_ls f126_rs f126_ts) F
def f126_entry_B (k : Nat) (a : Td3) (a0 : Unit) : Option (((List (Int × Int)) × Unit) × (Unit)) := ((f132 k (IntKind.u64.wrap ((a.length : Int)))).bind fun r1 => ((f162 k a 0 (a.length : Int) r1.1 ()).bind fun r2 => some ((r2.1.1, ()), (()))))
theorem f126_entry_P (k : Nat) (x : LOD f126_ls) (xs : DL f126_sig) : f126_a k (.c (f126_p 1) 0 :: []) .nx (σ0B 14 49 0 f126_ls x f126_sig xs) = f126_entry_B k x.1 xs.1 := by kernel_rfl
def f126 (k : Nat) (a : Td3) (a0 : Unit) : Option (((List (Int × Int)) × Unit) × (Unit)) := f126_entry_B k a a0
theorem f126_eq (k : Nat) (x : LOD f126_ls) (xs : DL f126_sig) : den T f126_Y (f126_E k) f126_A k f126_c 0 (σ0B 14 49 0 f126_ls x f126_sig xs) (KfinB T f126_ls f126_rs f126_ts) = f126 k x.1 xs.1 :=
  Eq.trans (Eq.trans den_sb (ap_at (ap_cons _ rfl) _)) ((f126_entry_P k x xs).trans (by rfl))
noncomputable def f126_con (k : Nat) : BCon := ⟨0, f126_ls, f126_sig, f126_rs, fun x xs => f126 k x.1 xs.1⟩
theorem f126_ok (k : Nat) : BoxOK Try.prog 126 0 f126_ls f126_sig f126_rs (fun x xs => f126 k x.1 xs.1) :=
  (box_of_den (k := k) (A := f126_A) (T := T) (Y := f126_Y) (E := f126_E k) (M := 49) (ts := f126_ts) T_ok ⟨f132_ok k, f162_ok k, trivial⟩ ⟨f132_ent, f162_ent, trivial⟩ mixed (f := 126) (fn := Try.f126) (c := f126_c) (by kernel_rfl) (by kernel_rfl) (by kernel_rfl) (by decide) (by kernel_rfl) (by decide)).congr fun x xs => (f126_eq k x xs).symm
theorem f126_ent : Ent Try.prog 126 := fun args w => by kernel_rfl
/-! ### terrier/terrmake.Net: function 62 -/
noncomputable def f62_c : Code := Try.f62.body.getD .skip
noncomputable abbrev f62_p (n : Nat) : Code := sb f62_c n
abbrev f62_sig : List PT := [(false, Tq9)]
abbrev f62_rs : List RT := [.d true Tq8]
abbrev f62_ts : List RV := [.cell 2 64]
abbrev f62_S := St → Option (RDL f62_rs)
abbrev f62_L := List (Fr (RDL f62_rs))
def f62_Y : Tys := [(50, Tq1), (129, Tq5), (169, Tq1)]
noncomputable def f62_E (k : Nat) : Env := [(81, .b (f81_con k)), (115, .c (f115_con k)), (124, .b (f124_con k)), (125, .c (f125_con k)), (126, .b (f126_con k))]
def f62_A : Ann := { loops := [(0, { matb := [(4, 0, 39, Tq1)], slots := [(2, .id), (3, .id), (4, .id)], keys := [(2, []), (4, []), (11, [.val false (.int .i64)]), (39, [])] }), (2, { matb := [(4, 0, 39, Tq1)], slots := [(2, .id), (3, .id), (4, .id), (5, .id)], keys := [(2, []), (4, []), (5, []), (11, [.val false (.int .i64)]), (39, [])] }), (4, { matb := [(4, 0, 39, Tq1), (4, 1, 69, Tq5)], slots := [(2, .id), (3, .id), (4, .id), (42, .id), (43, .id)], keys := [(2, []), (4, []), (11, [.val false (.int .i64)]), (39, []), (69, [])] }), (6, { matb := [(4, 0, 39, Tq1), (4, 1, 69, Tq5), (4, 2, 117, Tq1)], slots := [(2, .id), (3, .id), (4, .id), (73, .id), (74, .id)], keys := [(2, []), (4, []), (11, [.val false (.int .i64)]), (39, []), (69, []), (117, [])] })], regs := [(3, { matb := [(4, 0, 39, Tq1)], slots := [(2, .id), (3, .id), (4, .id), (24, .bool)], keys := [(2, []), (4, []), (11, [.val false (.int .i64)]), (39, [])] }), (18, { matb := [(4, 2, 117, Tq1)], slots := [(2, .id), (3, .id), (4, .id), (8, .id), (73, .id), (74, .id), (112, .bool)], keys := [(2, []), (4, []), (8, []), (11, [.val false (.int .i64)]), (39, []), (69, []), (117, [])] })], conds := [(12, { matb := [(4, 0, 39, Tq1), (4, 1, 69, Tq5)], slots := [(2, .id), (3, .id), (4, .id), (42, .id), (43, .id)], keys := [(2, []), (4, []), (11, [.val false (.int .i64)]), (39, []), (69, [])] }), (19, { matb := [(4, 2, 117, Tq1)], slots := [(2, .id), (3, .id), (4, .id), (73, .id), (74, .id)], keys := [(2, []), (4, []), (11, [.val false (.int .i64)]), (39, []), (69, []), (117, [])] })], blks := [(6, { matb := [(4, 1, 69, Tq5), (4, 2, 117, Tq1)], slots := [(2, .id), (4, .id)], keys := [(2, []), (4, []), (39, []), (69, []), (117, [])] })] }
noncomputable abbrev f62_a (k : Nat) (F : f62_L) : Kont (RDL f62_rs) := ap T f62_Y (f62_E k) f62_A k (Kfin T f62_rs f62_ts) F
def f62_s_l0 (y11_0 : (List Int)) (y39 : (List (Int × Int))) : St := mkS 124 384 [(2, aP 2), (3, aP 11), (4, aP 4)] [(2, .box [.nil, .nil, .nil]), (4, .box [.own 39, .nil, .nil]), (11, .box [cV (.int .i64) y11_0]), (39, .vec Tq1 y39)]
abbrev f62_t_l0 := (List Int) → (List (Int × Int)) → Option (Td12 × Unit)
abbrev f62_o_l0 (R : f62_S) : f62_t_l0 := (fun y11_0 y39 => R (f62_s_l0 y11_0 y39))
noncomputable def f62_Q_l0 (k : Nat) (R_l0 : f62_S) : f62_L := [.c (f62_p 120) 0, .j (fun σ => R_l0 (cut f62_A.loops 0 σ)), .blk 0, .c (f62_p 31) 0]
noncomputable def f62_C_l0 (k : Nat) (n : Nat) (σ : St) : Option (RDL f62_rs) := loopK (fun σ K => den T f62_Y (f62_E k) f62_A k (f62_p 120) 0 σ K) (cut f62_A.loops 0) (f62_a k [.blk 0, .c (f62_p 31) 0]) n σ
def f62_s_r3 (y11_0 : (List Int)) (y39 : (List (Int × Int))) (x24 : Bool) : St := mkS 124 384 [(2, aP 2), (3, aP 11), (4, aP 4), (24, aB x24)] [(2, .box [.nil, .nil, .nil]), (4, .box [.own 39, .nil, .nil]), (11, .box [cV (.int .i64) y11_0]), (39, .vec Tq1 y39)]
abbrev f62_t_r3 := (List Int) → (List (Int × Int)) → Bool → Option (Td12 × Unit)
abbrev f62_o_r3 (R : f62_S) : f62_t_r3 := (fun y11_0 y39 x24 => R (f62_s_r3 y11_0 y39 x24))
noncomputable def f62_Q_r3 (k : Nat) (R_l0 : f62_S) : f62_L := [.c (f62_p 481) 0, .c (f62_p 241) 0, .j (fun σ => R_l0 (cut f62_A.loops 0 σ)), .blk 0, .c (f62_p 31) 0]
noncomputable def f62_C_r3 (k : Nat) (R_l0 : f62_S) : f62_S := fun σ => f62_a k (f62_Q_r3 k R_l0) .nx σ
def f62_s_l2 (y11_0 : (List Int)) (y39 : (List (Int × Int))) (y5_0 : Int) (y5_1 : Int) : St := mkS 124 384 [(2, aP 2), (3, aP 11), (4, aP 4), (5, aP 5)] [(2, .box [.nil, .nil, .nil]), (4, .box [.own 39, .nil, .nil]), (5, .box [cI y5_0, cI y5_1]), (11, .box [cV (.int .i64) y11_0]), (39, .vec Tq1 y39)]
abbrev f62_t_l2 := (List Int) → (List (Int × Int)) → Int → Int → Option (Td12 × Unit)
abbrev f62_o_l2 (R : f62_S) : f62_t_l2 := (fun y11_0 y39 y5_0 y5_1 => R (f62_s_l2 y11_0 y39 y5_0 y5_1))
noncomputable def f62_Q_l2 (k : Nat) (R_l0 R_l2 : f62_S) : f62_L := [.c (f62_p 7720) 2, .j (fun σ => R_l2 (cut f62_A.loops 2 σ)), .blk 2, .c (f62_p 1931) 1, .blk 1, .j (fun σ => R_l0 (cut f62_A.loops 0 σ)), .blk 0, .c (f62_p 31) 0]
noncomputable def f62_C_l2 (k : Nat) (R_l0 : f62_S) (n : Nat) (σ : St) : Option (RDL f62_rs) := loopK (fun σ K => den T f62_Y (f62_E k) f62_A k (f62_p 7720) 2 σ K) (cut f62_A.loops 2) (f62_a k [.blk 2, .c (f62_p 1931) 1, .blk 1, .j (fun σ => R_l0 (cut f62_A.loops 0 σ)), .blk 0, .c (f62_p 31) 0]) n σ
def f62_s_l4 (y11_0 : (List Int)) (y39 : (List (Int × Int))) (y69 : (List (Int × (Int × (Int × Int))))) (x42 : Int) (x43 : Int) : St := mkS 124 384 [(2, aP 2), (3, aP 11), (4, aP 4), (42, aI x42), (43, aI x43)] [(2, .box [.nil, .nil, .nil]), (4, .box [.own 39, .own 69, .nil]), (11, .box [cV (.int .i64) y11_0]), (39, .vec Tq1 y39), (69, .vec Tq5 y69)]
abbrev f62_t_l4 := (List Int) → (List (Int × Int)) → (List (Int × (Int × (Int × Int)))) → Int → Int → Option (Td12 × Unit)
abbrev f62_o_l4 (R : f62_S) : f62_t_l4 := (fun y11_0 y39 y69 x42 x43 => R (f62_s_l4 y11_0 y39 y69 x42 x43))
noncomputable def f62_Q_l4 (k : Nat) (R_l4 : f62_S) : f62_L := [.c (f62_p 500) 4, .j (fun σ => R_l4 (cut f62_A.loops 4 σ)), .blk 4, .c (f62_p 63) 0]
noncomputable def f62_C_l4 (k : Nat) (n : Nat) (σ : St) : Option (RDL f62_rs) := loopK (fun σ K => den T f62_Y (f62_E k) f62_A k (f62_p 500) 4 σ K) (cut f62_A.loops 4) (f62_a k [.blk 4, .c (f62_p 63) 0]) n σ
def f62_s_c12 (y11_0 : (List Int)) (y39 : (List (Int × Int))) (y69 : (List (Int × (Int × (Int × Int))))) (x42 : Int) (x43 : Int) : St := mkS 124 384 [(2, aP 2), (3, aP 11), (4, aP 4), (42, aI x42), (43, aI x43)] [(2, .box [.nil, .nil, .nil]), (4, .box [.own 39, .own 69, .nil]), (11, .box [cV (.int .i64) y11_0]), (39, .vec Tq1 y39), (69, .vec Tq5 y69)]
abbrev f62_t_c12 := (List Int) → (List (Int × Int)) → (List (Int × (Int × (Int × Int)))) → Int → Int → Option (Td12 × Unit)
abbrev f62_o_c12 (R : f62_S) : f62_t_c12 := (fun y11_0 y39 y69 x42 x43 => R (f62_s_c12 y11_0 y39 y69 x42 x43))
noncomputable def f62_Q_c12 (k : Nat) (R_l4 : f62_S) : f62_L := [.blk 5, .c (f62_p 4007) 4, .j (fun σ => R_l4 (cut f62_A.loops 4 σ)), .blk 4, .c (f62_p 63) 0]
noncomputable def f62_C_c12 (k : Nat) (R_l4 : f62_S) : f62_S := fun σ => f62_a k (f62_Q_c12 k R_l4) .nx σ
def f62_s_l6 (y11_0 : (List Int)) (y117 : (List (Int × Int))) (y39 : (List (Int × Int))) (y69 : (List (Int × (Int × (Int × Int))))) (x73 : Int) (x74 : Int) : St := mkS 124 384 [(2, aP 2), (3, aP 11), (4, aP 4), (73, aI x73), (74, aI x74)] [(2, .box [.nil, .nil, .nil]), (4, .box [.own 39, .own 69, .own 117]), (11, .box [cV (.int .i64) y11_0]), (39, .vec Tq1 y39), (69, .vec Tq5 y69), (117, .vec Tq1 y117)]
abbrev f62_t_l6 := (List Int) → (List (Int × Int)) → (List (Int × Int)) → (List (Int × (Int × (Int × Int)))) → Int → Int → Option (Td12 × Unit)
abbrev f62_o_l6 (R : f62_S) : f62_t_l6 := (fun y11_0 y117 y39 y69 x73 x74 => R (f62_s_l6 y11_0 y117 y39 y69 x73 x74))
noncomputable def f62_Q_l6 (k : Nat) (R_l6 : f62_S) : f62_L := [.c (f62_p 1012) 6, .j (fun σ => R_l6 (cut f62_A.loops 6 σ)), .blk 6, .c (f62_p 127) 0]
noncomputable def f62_C_l6 (k : Nat) (n : Nat) (σ : St) : Option (RDL f62_rs) := loopK (fun σ K => den T f62_Y (f62_E k) f62_A k (f62_p 1012) 6 σ K) (cut f62_A.loops 6) (f62_a k [.blk 6, .c (f62_p 127) 0]) n σ
def f62_s_b6 (y117 : (List (Int × Int))) (y39 : (List (Int × Int))) (y69 : (List (Int × (Int × (Int × Int))))) : St := mkS 124 384 [(2, aP 2), (4, aP 4)] [(2, .box [.nil, .nil, .nil]), (4, .box [.own 39, .own 69, .own 117]), (39, .vec Tq1 y39), (69, .vec Tq5 y69), (117, .vec Tq1 y117)]
abbrev f62_t_b6 := (List (Int × Int)) → (List (Int × Int)) → (List (Int × (Int × (Int × Int)))) → Option (Td12 × Unit)
abbrev f62_o_b6 (R : f62_S) : f62_t_b6 := (fun y117 y39 y69 => R (f62_s_b6 y117 y39 y69))
noncomputable def f62_Q_b6 (k : Nat) : f62_L := [.c (f62_p 127) 0]
noncomputable def f62_C_b6 (k : Nat) : f62_S := fun σ => f62_a k (f62_Q_b6 k) .nx σ
def f62_s_r18 (y11_0 : (List Int)) (y117 : (List (Int × Int))) (y39 : (List (Int × Int))) (y69 : (List (Int × (Int × (Int × Int))))) (y8_0 : Int) (y8_1 : Int) (x112 : Bool) (x73 : Int) (x74 : Int) : St := mkS 124 384 [(2, aP 2), (3, aP 11), (4, aP 4), (8, aP 8), (73, aI x73), (74, aI x74), (112, aB x112)] [(2, .box [.nil, .nil, .nil]), (4, .box [.own 39, .own 69, .own 117]), (8, .box [cI y8_0, cI y8_1]), (11, .box [cV (.int .i64) y11_0]), (39, .vec Tq1 y39), (69, .vec Tq5 y69), (117, .vec Tq1 y117)]
abbrev f62_t_r18 := (List Int) → (List (Int × Int)) → (List (Int × Int)) → (List (Int × (Int × (Int × Int)))) → Int → Int → Bool → Int → Int → Option (Td12 × Unit)
abbrev f62_o_r18 (R : f62_S) : f62_t_r18 := (fun y11_0 y117 y39 y69 y8_0 y8_1 x112 x73 x74 => R (f62_s_r18 y11_0 y117 y39 y69 y8_0 y8_1 x112 x73 x74))
noncomputable def f62_Q_r18 (k : Nat) (R_l6 : f62_S) : f62_L := [.c (f62_p 129639) 7, .blk 7, .c (f62_p 8103) 6, .j (fun σ => R_l6 (cut f62_A.loops 6 σ)), .blk 6, .c (f62_p 127) 0]
noncomputable def f62_C_r18 (k : Nat) (R_l6 : f62_S) : f62_S := fun σ => f62_a k (f62_Q_r18 k R_l6) .nx σ
def f62_s_c19 (y11_0 : (List Int)) (y117 : (List (Int × Int))) (y39 : (List (Int × Int))) (y69 : (List (Int × (Int × (Int × Int))))) (x73 : Int) (x74 : Int) : St := mkS 124 384 [(2, aP 2), (3, aP 11), (4, aP 4), (73, aI x73), (74, aI x74)] [(2, .box [.nil, .nil, .nil]), (4, .box [.own 39, .own 69, .own 117]), (11, .box [cV (.int .i64) y11_0]), (39, .vec Tq1 y39), (69, .vec Tq5 y69), (117, .vec Tq1 y117)]
abbrev f62_t_c19 := (List Int) → (List (Int × Int)) → (List (Int × Int)) → (List (Int × (Int × (Int × Int)))) → Int → Int → Option (Td12 × Unit)
abbrev f62_o_c19 (R : f62_S) : f62_t_c19 := (fun y11_0 y117 y39 y69 x73 x74 => R (f62_s_c19 y11_0 y117 y39 y69 x73 x74))
noncomputable def f62_Q_c19 (k : Nat) (R_l6 : f62_S) : f62_L := [.blk 7, .c (f62_p 8103) 6, .j (fun σ => R_l6 (cut f62_A.loops 6 σ)), .blk 6, .c (f62_p 127) 0]
noncomputable def f62_C_c19 (k : Nat) (R_l6 : f62_S) : f62_S := fun σ => f62_a k (f62_Q_c19 k R_l6) .nx σ
noncomputable def f62_F_b6 (k : Nat) : f62_L := .c (f62_p 127) 0 :: []
theorem f62_f_b6 (k : Nat) : f62_a k (f62_Q_b6 k) = f62_a k (f62_F_b6 k) := (ap_cons _ rfl)
noncomputable def f62_F_r3 (k : Nat) (G_l0 G_l2 G_l4 G_l6 G_b6 : f62_S) : f62_L := .c (f62_p 481) 0 :: .j (fun σ => f62_a k (.c (f62_p 964) 1 :: .j (fun σ => f62_a k (.j (fun σ => G_l2 (cut f62_A.loops 2 σ)) :: .blk 2 :: .c (f62_p 1931) 1 :: .blk 1 :: .j (fun σ => G_l0 (cut f62_A.loops 0 σ)) :: .blk 0 :: .c (f62_p 124) 0 :: .j (fun σ => f62_a k (.j (fun σ => G_l4 (cut f62_A.loops 4 σ)) :: .blk 4 :: .c (f62_p 252) 0 :: .j (fun σ => f62_a k (.j (fun σ => G_l6 (cut f62_A.loops 6 σ)) :: .b 6 (fun σ => G_b6 (cut f62_A.blks 6 σ)) :: f62_F_b6 k) .nx σ) :: f62_F_b6 k) .nx σ) :: .c (f62_p 252) 0 :: .j (fun σ => f62_a k (.j (fun σ => G_l6 (cut f62_A.loops 6 σ)) :: .b 6 (fun σ => G_b6 (cut f62_A.blks 6 σ)) :: f62_F_b6 k) .nx σ) :: f62_F_b6 k) .nx σ) :: .c (f62_p 1931) 1 :: .blk 1 :: .j (fun σ => G_l0 (cut f62_A.loops 0 σ)) :: .blk 0 :: .c (f62_p 124) 0 :: .j (fun σ => f62_a k (.j (fun σ => G_l4 (cut f62_A.loops 4 σ)) :: .blk 4 :: .c (f62_p 252) 0 :: .j (fun σ => f62_a k (.j (fun σ => G_l6 (cut f62_A.loops 6 σ)) :: .b 6 (fun σ => G_b6 (cut f62_A.blks 6 σ)) :: f62_F_b6 k) .nx σ) :: f62_F_b6 k) .nx σ) :: .c (f62_p 252) 0 :: .j (fun σ => f62_a k (.j (fun σ => G_l6 (cut f62_A.loops 6 σ)) :: .b 6 (fun σ => G_b6 (cut f62_A.blks 6 σ)) :: f62_F_b6 k) .nx σ) :: f62_F_b6 k) .nx σ) :: .j (fun σ => G_l0 (cut f62_A.loops 0 σ)) :: .blk 0 :: .c (f62_p 124) 0 :: .j (fun σ => f62_a k (.j (fun σ => G_l4 (cut f62_A.loops 4 σ)) :: .blk 4 :: .c (f62_p 252) 0 :: .j (fun σ => f62_a k (.j (fun σ => G_l6 (cut f62_A.loops 6 σ)) :: .b 6 (fun σ => G_b6 (cut f62_A.blks 6 σ)) :: f62_F_b6 k) .nx σ) :: f62_F_b6 k) .nx σ) :: .c (f62_p 252) 0 :: .j (fun σ => f62_a k (.j (fun σ => G_l6 (cut f62_A.loops 6 σ)) :: .b 6 (fun σ => G_b6 (cut f62_A.blks 6 σ)) :: f62_F_b6 k) .nx σ) :: f62_F_b6 k
theorem f62_f_r3 (k : Nat) (R_l0 : f62_S) : f62_a k (f62_Q_r3 k R_l0) = f62_a k (f62_F_r3 k R_l0 (f62_C_l2 k R_l0 k) (f62_C_l4 k k) (f62_C_l6 k k) (f62_C_b6 k)) := (ap_cons _ (Eq.trans (ap_bl 1) (Eq.trans (ap_j (Eq.trans ap_sq (ap_cons _ (Eq.trans ap_sq (Eq.trans (ap_bl 2) (Eq.trans (ap_j (Eq.trans (ap_lp (C := (f62_C_l2 k R_l0)) (fun _ _ => rfl)) (ap_cons _ (ap_cons _ (ap_cons _ (ap_cons _ (ap_cons _ (ap_cons _ (Eq.trans ap_sq (Eq.trans ap_sq (ap_cons _ (Eq.trans (ap_bl 4) (Eq.trans (ap_j (Eq.trans (ap_lp (C := (f62_C_l4 k)) (fun _ _ => rfl)) (ap_cons _ (ap_cons _ (Eq.trans ap_sq (Eq.trans ap_sq (ap_cons _ (Eq.trans (ap_bl 6) (Eq.trans (ap_j (Eq.trans (ap_lp (C := (f62_C_l6 k)) (fun _ _ => rfl)) (ap_cons _ (Eq.trans (ap_blkb (C := (f62_C_b6 k)) (fun _ => rfl)) (ap_cons _ (f62_f_b6 k)))))) (ap_cons _ (f62_f_b6 k))))))))))) (ap_cons _ (Eq.trans ap_sq (Eq.trans ap_sq (ap_cons _ (Eq.trans (ap_bl 6) (Eq.trans (ap_j (Eq.trans (ap_lp (C := (f62_C_l6 k)) (fun _ _ => rfl)) (ap_cons _ (Eq.trans (ap_blkb (C := (f62_C_b6 k)) (fun _ => rfl)) (ap_cons _ (f62_f_b6 k)))))) (ap_cons _ (f62_f_b6 k))))))))))))))))))))) (ap_cons _ (ap_cons _ (ap_cons _ (ap_cons _ (ap_cons _ (Eq.trans ap_sq (Eq.trans ap_sq (ap_cons _ (Eq.trans (ap_bl 4) (Eq.trans (ap_j (Eq.trans (ap_lp (C := (f62_C_l4 k)) (fun _ _ => rfl)) (ap_cons _ (ap_cons _ (Eq.trans ap_sq (Eq.trans ap_sq (ap_cons _ (Eq.trans (ap_bl 6) (Eq.trans (ap_j (Eq.trans (ap_lp (C := (f62_C_l6 k)) (fun _ _ => rfl)) (ap_cons _ (Eq.trans (ap_blkb (C := (f62_C_b6 k)) (fun _ => rfl)) (ap_cons _ (f62_f_b6 k)))))) (ap_cons _ (f62_f_b6 k))))))))))) (ap_cons _ (Eq.trans ap_sq (Eq.trans ap_sq (ap_cons _ (Eq.trans (ap_bl 6) (Eq.trans (ap_j (Eq.trans (ap_lp (C := (f62_C_l6 k)) (fun _ _ => rfl)) (ap_cons _ (Eq.trans (ap_blkb (C := (f62_C_b6 k)) (fun _ => rfl)) (ap_cons _ (f62_f_b6 k)))))) (ap_cons _ (f62_f_b6 k)))))))))))))))))))))))) (ap_cons _ (ap_cons _ (ap_cons _ (Eq.trans ap_sq (Eq.trans ap_sq (ap_cons _ (Eq.trans (ap_bl 4) (Eq.trans (ap_j (Eq.trans (ap_lp (C := (f62_C_l4 k)) (fun _ _ => rfl)) (ap_cons _ (ap_cons _ (Eq.trans ap_sq (Eq.trans ap_sq (ap_cons _ (Eq.trans (ap_bl 6) (Eq.trans (ap_j (Eq.trans (ap_lp (C := (f62_C_l6 k)) (fun _ _ => rfl)) (ap_cons _ (Eq.trans (ap_blkb (C := (f62_C_b6 k)) (fun _ => rfl)) (ap_cons _ (f62_f_b6 k)))))) (ap_cons _ (f62_f_b6 k))))))))))) (ap_cons _ (Eq.trans ap_sq (Eq.trans ap_sq (ap_cons _ (Eq.trans (ap_bl 6) (Eq.trans (ap_j (Eq.trans (ap_lp (C := (f62_C_l6 k)) (fun _ _ => rfl)) (ap_cons _ (Eq.trans (ap_blkb (C := (f62_C_b6 k)) (fun _ => rfl)) (ap_cons _ (f62_f_b6 k)))))) (ap_cons _ (f62_f_b6 k)))))))))))))))))))
noncomputable def f62_F_l0 (k : Nat) (G_l0 G_r3 G_l2 G_l4 G_l6 G_b6 : f62_S) : f62_L := .c (f62_p 480) 0 :: .j G_r3 :: f62_F_r3 k G_l0 G_l2 G_l4 G_l6 G_b6
theorem f62_f_l0 (k : Nat) (R_l0 : f62_S) : f62_a k (f62_Q_l0 k R_l0) = f62_a k (f62_F_l0 k R_l0 (f62_C_r3 k R_l0) (f62_C_l2 k R_l0 k) (f62_C_l4 k k) (f62_C_l6 k k) (f62_C_b6 k)) := (Eq.trans ap_sq (Eq.trans ap_sq (ap_cons _ (Eq.trans (ap_pass (C := (f62_C_r3 k R_l0)) (fun _ => rfl)) (ap_cons _ (f62_f_r3 k R_l0))))))
noncomputable def f62_F_l2 (k : Nat) (G_l0 G_l2 G_l4 G_l6 G_b6 : f62_S) : f62_L := .c (f62_p 7720) 2 :: .j (fun σ => G_l2 (cut f62_A.loops 2 σ)) :: .blk 2 :: .c (f62_p 1931) 1 :: .blk 1 :: .j (fun σ => G_l0 (cut f62_A.loops 0 σ)) :: .blk 0 :: .c (f62_p 124) 0 :: .j (fun σ => f62_a k (.j (fun σ => G_l4 (cut f62_A.loops 4 σ)) :: .blk 4 :: .c (f62_p 252) 0 :: .j (fun σ => f62_a k (.j (fun σ => G_l6 (cut f62_A.loops 6 σ)) :: .b 6 (fun σ => G_b6 (cut f62_A.blks 6 σ)) :: f62_F_b6 k) .nx σ) :: f62_F_b6 k) .nx σ) :: .c (f62_p 252) 0 :: .j (fun σ => f62_a k (.j (fun σ => G_l6 (cut f62_A.loops 6 σ)) :: .b 6 (fun σ => G_b6 (cut f62_A.blks 6 σ)) :: f62_F_b6 k) .nx σ) :: f62_F_b6 k
theorem f62_f_l2 (k : Nat) (R_l0 R_l2 : f62_S) : f62_a k (f62_Q_l2 k R_l0 R_l2) = f62_a k (f62_F_l2 k R_l0 R_l2 (f62_C_l4 k k) (f62_C_l6 k k) (f62_C_b6 k)) := (ap_cons _ (ap_cons _ (ap_cons _ (ap_cons _ (ap_cons _ (ap_cons _ (ap_cons _ (Eq.trans ap_sq (Eq.trans ap_sq (ap_cons _ (Eq.trans (ap_bl 4) (Eq.trans (ap_j (Eq.trans (ap_lp (C := (f62_C_l4 k)) (fun _ _ => rfl)) (ap_cons _ (ap_cons _ (Eq.trans ap_sq (Eq.trans ap_sq (ap_cons _ (Eq.trans (ap_bl 6) (Eq.trans (ap_j (Eq.trans (ap_lp (C := (f62_C_l6 k)) (fun _ _ => rfl)) (ap_cons _ (Eq.trans (ap_blkb (C := (f62_C_b6 k)) (fun _ => rfl)) (ap_cons _ (f62_f_b6 k)))))) (ap_cons _ (f62_f_b6 k))))))))))) (ap_cons _ (Eq.trans ap_sq (Eq.trans ap_sq (ap_cons _ (Eq.trans (ap_bl 6) (Eq.trans (ap_j (Eq.trans (ap_lp (C := (f62_C_l6 k)) (fun _ _ => rfl)) (ap_cons _ (Eq.trans (ap_blkb (C := (f62_C_b6 k)) (fun _ => rfl)) (ap_cons _ (f62_f_b6 k)))))) (ap_cons _ (f62_f_b6 k))))))))))))))))))))
noncomputable def f62_F_c12 (k : Nat) (G_l4 G_l6 G_b6 : f62_S) : f62_L := .blk 5 :: .c (f62_p 4007) 4 :: .j (fun σ => G_l4 (cut f62_A.loops 4 σ)) :: .blk 4 :: .c (f62_p 252) 0 :: .j (fun σ => f62_a k (.j (fun σ => G_l6 (cut f62_A.loops 6 σ)) :: .b 6 (fun σ => G_b6 (cut f62_A.blks 6 σ)) :: f62_F_b6 k) .nx σ) :: f62_F_b6 k
theorem f62_f_c12 (k : Nat) (R_l4 : f62_S) : f62_a k (f62_Q_c12 k R_l4) = f62_a k (f62_F_c12 k R_l4 (f62_C_l6 k k) (f62_C_b6 k)) := (ap_cons _ (ap_cons _ (ap_cons _ (ap_cons _ (Eq.trans ap_sq (Eq.trans ap_sq (ap_cons _ (Eq.trans (ap_bl 6) (Eq.trans (ap_j (Eq.trans (ap_lp (C := (f62_C_l6 k)) (fun _ _ => rfl)) (ap_cons _ (Eq.trans (ap_blkb (C := (f62_C_b6 k)) (fun _ => rfl)) (ap_cons _ (f62_f_b6 k)))))) (ap_cons _ (f62_f_b6 k)))))))))))
noncomputable def f62_F_l4 (k : Nat) (G_l4 G_c12 G_l6 G_b6 : f62_S) : f62_L := .c (f62_p 1000) 4 :: .c (f62_p 2002) 4 :: .j (fun σ => f62_a k (.c (f62_p 16024) 5 :: .c (f62_p 32050) 5 :: .c (f62_p 32051) 5 :: .j G_c12 :: f62_F_c12 k G_l4 G_l6 G_b6) .nx σ) :: .c (f62_p 4007) 4 :: .j (fun σ => G_l4 (cut f62_A.loops 4 σ)) :: .blk 4 :: .c (f62_p 252) 0 :: .j (fun σ => f62_a k (.j (fun σ => G_l6 (cut f62_A.loops 6 σ)) :: .b 6 (fun σ => G_b6 (cut f62_A.blks 6 σ)) :: f62_F_b6 k) .nx σ) :: f62_F_b6 k
theorem f62_f_l4 (k : Nat) (R_l4 : f62_S) : f62_a k (f62_Q_l4 k R_l4) = f62_a k (f62_F_l4 k R_l4 (f62_C_c12 k R_l4) (f62_C_l6 k k) (f62_C_b6 k)) := (Eq.trans ap_sq (ap_cons _ (Eq.trans ap_sq (ap_cons _ (Eq.trans ap_sq (Eq.trans (ap_bl 5) (Eq.trans (ap_j (Eq.trans ap_sq (ap_cons _ (Eq.trans ap_sq (ap_cons _ (ap_cons _ (Eq.trans (ap_pass (C := (f62_C_c12 k R_l4)) (fun _ => rfl)) (ap_cons _ (f62_f_c12 k R_l4))))))))) (ap_cons _ (ap_cons _ (ap_cons _ (ap_cons _ (Eq.trans ap_sq (Eq.trans ap_sq (ap_cons _ (Eq.trans (ap_bl 6) (Eq.trans (ap_j (Eq.trans (ap_lp (C := (f62_C_l6 k)) (fun _ _ => rfl)) (ap_cons _ (Eq.trans (ap_blkb (C := (f62_C_b6 k)) (fun _ => rfl)) (ap_cons _ (f62_f_b6 k)))))) (ap_cons _ (f62_f_b6 k))))))))))))))))))
noncomputable def f62_F_c19 (k : Nat) (G_l6 G_b6 : f62_S) : f62_L := .blk 7 :: .c (f62_p 8103) 6 :: .j (fun σ => G_l6 (cut f62_A.loops 6 σ)) :: .b 6 (fun σ => G_b6 (cut f62_A.blks 6 σ)) :: f62_F_b6 k
theorem f62_f_c19 (k : Nat) (R_l6 : f62_S) : f62_a k (f62_Q_c19 k R_l6) = f62_a k (f62_F_c19 k R_l6 (f62_C_b6 k)) := (ap_cons _ (ap_cons _ (ap_cons _ (Eq.trans (ap_blkb (C := (f62_C_b6 k)) (fun _ => rfl)) (ap_cons _ (f62_f_b6 k))))))
noncomputable def f62_F_r18 (k : Nat) (G_l6 G_b6 G_c19 : f62_S) : f62_L := .c (f62_p 129639) 7 :: .j G_c19 :: f62_F_c19 k G_l6 G_b6
theorem f62_f_r18 (k : Nat) (R_l6 : f62_S) : f62_a k (f62_Q_r18 k R_l6) = f62_a k (f62_F_r18 k R_l6 (f62_C_b6 k) (f62_C_c19 k R_l6)) := (ap_cons _ (Eq.trans (ap_pass (C := (f62_C_c19 k R_l6)) (fun _ => rfl)) (ap_cons _ (f62_f_c19 k R_l6))))
noncomputable def f62_F_l6 (k : Nat) (G_l6 G_b6 G_r18 G_c19 : f62_S) : f62_L := .c (f62_p 2024) 6 :: .c (f62_p 4050) 6 :: .j (fun σ => f62_a k (.c (f62_p 32408) 7 :: .c (f62_p 64818) 7 :: .c (f62_p 129638) 7 :: .j G_r18 :: f62_F_r18 k G_l6 G_b6 G_c19) .nx σ) :: .c (f62_p 8103) 6 :: .j (fun σ => G_l6 (cut f62_A.loops 6 σ)) :: .b 6 (fun σ => G_b6 (cut f62_A.blks 6 σ)) :: f62_F_b6 k
theorem f62_f_l6 (k : Nat) (R_l6 : f62_S) : f62_a k (f62_Q_l6 k R_l6) = f62_a k (f62_F_l6 k R_l6 (f62_C_b6 k) (f62_C_r18 k R_l6) (f62_C_c19 k R_l6)) := (Eq.trans ap_sq (ap_cons _ (Eq.trans ap_sq (ap_cons _ (Eq.trans ap_sq (Eq.trans (ap_bl 7) (Eq.trans (ap_j (Eq.trans ap_sq (ap_cons _ (Eq.trans ap_sq (ap_cons _ (Eq.trans ap_sq (ap_cons _ (Eq.trans (ap_pass (C := (f62_C_r18 k R_l6)) (fun _ => rfl)) (ap_cons _ (f62_f_r18 k R_l6)))))))))) (ap_cons _ (ap_cons _ (ap_cons _ (Eq.trans (ap_blkb (C := (f62_C_b6 k)) (fun _ => rfl)) (ap_cons _ (f62_f_b6 k)))))))))))))
def f62_entry_B (k : Nat) (g_l0 : f62_t_l0) (a0 : (List Int)) : Option (Td12 × Unit) := (g_l0 a0 ([] : List (Int × Int)))
def f62_l0_B (k : Nat) (g_r3 : f62_t_r3) (y11_0 : (List Int)) (y39 : (List (Int × Int))) : Option (Td12 × Unit) := ((f81 k y11_0 7).bind fun r1 => (if (y39.length : Int) < (w64 (2 + r1.2.1)) then (g_r3 r1.1.1.1 y39 true) else (g_r3 r1.1.1.1 y39 (decide ((y39.length : Int) < 2)))))
def f62_r3_B (k : Nat) (g_l2 : f62_t_l2) (g_l4 : f62_t_l4) (y11_0 : (List Int)) (y39 : (List (Int × Int))) (x24 : Bool) : Option (Td12 × Unit) := (if x24 = true then ((f124 k y11_0).bind fun r1 => (g_l2 r1.1.1.1 y39 r1.2.1.1 r1.2.1.2)) else ((f81 k y11_0 17).bind fun r2 => (g_l4 r2.1.1.1 y39 ([] : List (Int × (Int × (Int × Int)))) r2.2.1 0)))
def f62_l2_B (k : Nat) (g_l0 : f62_t_l0) (g_l2 : f62_t_l2) (y11_0 : (List Int)) (y39 : (List (Int × Int))) (y5_0 : Int) (y5_1 : Int) : Option (Td12 × Unit) := ((f125 k y39 (y5_0, y5_1)).bind fun r1 => (if r1.1 = true then (g_l2 y11_0 y39 (w64 (y5_0 + 1)) y5_1) else (if (y39.length + 1) * 16 ≤ 140737488355328 then (g_l0 y11_0 (y39 ++ [(y5_0, y5_1)])) else none)))
def f62_l4_B (k : Nat) (g_c12 : f62_t_c12) (g_l6 : f62_t_l6) (y11_0 : (List Int)) (y39 : (List (Int × Int))) (y69 : (List (Int × (Int × (Int × Int))))) (x42 : Int) (x43 : Int) : Option (Td12 × Unit) := (if x43 < x42 then ((f81 k y11_0 (y39.length : Int)).bind fun r1 => ((f81 k r1.1.1.1 (y39.length : Int)).bind fun r2 => (if ¬ (r1.2.1 = r2.2.1) then ((f81 k r2.1.1.1 20).bind fun r3 => ((f81 k r3.1.1.1 5).bind fun r4 => (if (y69.length + 1) * 32 ≤ 140737488355328 then (g_c12 r4.1.1.1 y39 (y69 ++ [(r1.2.1, (r2.2.1, (w64 (1 + r3.2.1), r4.2.1)))]) x42 x43) else none))) else (g_c12 r2.1.1.1 y39 y69 x42 x43)))) else ((f81 k y11_0 4).bind fun r5 => (g_l6 r5.1.1.1 ([] : List (Int × Int)) y39 y69 r5.2.1 0)))
def f62_c12_B (k : Nat) (g_l4 : f62_t_l4) (y11_0 : (List Int)) (y39 : (List (Int × Int))) (y69 : (List (Int × (Int × (Int × Int))))) (x42 : Int) (x43 : Int) : Option (Td12 × Unit) := (g_l4 y11_0 y39 y69 x42 (w64 (x43 + 1)))
def f62_l6_B (k : Nat) (g_b6 : f62_t_b6) (g_r18 : f62_t_r18) (y11_0 : (List Int)) (y117 : (List (Int × Int))) (y39 : (List (Int × Int))) (y69 : (List (Int × (Int × (Int × Int))))) (x73 : Int) (x74 : Int) : Option (Td12 × Unit) := (if x74 < x73 then (if (y69.length : Int) = 0 then (g_b6 y117 y39 y69) else ((f81 k y11_0 (y69.length : Int)).bind fun r1 => ((f81 k r1.1.1.1 (y69.length : Int)).bind fun r2 => (if 0 ≤ r1.2.1 then (if r1.2.1 < (y69.length : Int) then (if 0 ≤ r2.2.1 then (if r2.2.1 < (y69.length : Int) then (if (((y69.getD ((r1.2.1).toNat) (0, (0, (0, 0)))).2).1) = ((y69.getD ((r2.2.1).toNat) (0, (0, (0, 0)))).1) then ((f115 k y117 (r1.2.1, r2.2.1)).bind fun r3 => (g_r18 r2.1.1.1 y117 y39 y69 r1.2.1 r2.2.1 (decide (¬ (r3.1 = true))) x73 x74)) else (g_r18 r2.1.1.1 y117 y39 y69 r1.2.1 r2.2.1 false x73 x74)) else none) else none) else none) else none)))) else (g_b6 y117 y39 y69))
def f62_b6_B (k : Nat) (y117 : (List (Int × Int))) (y39 : (List (Int × Int))) (y69 : (List (Int × (Int × (Int × Int))))) : Option (Td12 × Unit) := ((f126 k y117 ()).bind fun r1 => some ((y39, (y69, r1.1.1)), ()))
def f62_r18_B (k : Nat) (g_c19 : f62_t_c19) (y11_0 : (List Int)) (y117 : (List (Int × Int))) (y39 : (List (Int × Int))) (y69 : (List (Int × (Int × (Int × Int))))) (y8_0 : Int) (y8_1 : Int) (x112 : Bool) (x73 : Int) (x74 : Int) : Option (Td12 × Unit) := (if x112 = true then (if (y117.length + 1) * 16 ≤ 140737488355328 then (g_c19 y11_0 (y117 ++ [(y8_0, y8_1)]) y39 y69 x73 x74) else none) else (g_c19 y11_0 y117 y39 y69 x73 x74))
def f62_c19_B (k : Nat) (g_l6 : f62_t_l6) (y11_0 : (List Int)) (y117 : (List (Int × Int))) (y39 : (List (Int × Int))) (y69 : (List (Int × (Int × (Int × Int))))) (x73 : Int) (x74 : Int) : Option (Td12 × Unit) := (g_l6 y11_0 y117 y39 y69 x73 (w64 (x74 + 1)))
theorem f62_l2_P (k : Nat) (G_l0 G_l2 G_l4 G_l6 G_b6 : f62_S) : f62_o_l2 (fun σ => f62_a k (f62_F_l2 k G_l0 G_l2 G_l4 G_l6 G_b6) .nx σ) = f62_l2_B k (f62_o_l0 G_l0) (f62_o_l2 G_l2) := by kernel_rfl
def f62_l2 (k : Nat) (r_l0 : f62_t_l0) : Nat → f62_t_l2
  | 0 => fun _ _ _ _ => none
  | n + 1 => f62_l2_B k r_l0 (f62_l2 k r_l0 n)
theorem f62_l2_E (k : Nat) (R_l0 : f62_S) : ∀ n, f62_o_l2 (f62_C_l2 k R_l0 n) = f62_l2 k (f62_o_l0 R_l0) n
  | 0 => rfl
  | n + 1 =>
    Eq.trans (congrArg f62_o_l2 (Eq.trans (b := fun σ => f62_a k (f62_Q_l2 k R_l0 (f62_C_l2 k R_l0 n)) .nx σ) (by kernel_rfl) (ap_fn (f62_f_l2 k R_l0 (f62_C_l2 k R_l0 n))))) ((f62_l2_P k R_l0 (f62_C_l2 k R_l0 n) (f62_C_l4 k k) (f62_C_l6 k k) (f62_C_b6 k)).trans (by rw [f62_l2_E k R_l0 n] <;> rfl))
theorem f62_c12_P (k : Nat) (G_l4 G_l6 G_b6 : f62_S) : f62_o_c12 (fun σ => f62_a k (f62_F_c12 k G_l4 G_l6 G_b6) .nx σ) = f62_c12_B k (f62_o_l4 G_l4) := by kernel_rfl
def f62_c12 (k : Nat) (r_l4 : f62_t_l4) : f62_t_c12 := f62_c12_B k r_l4
theorem f62_c12_E (k : Nat) (R_l4 : f62_S) : f62_o_c12 (f62_C_c12 k R_l4) = f62_c12 k (f62_o_l4 R_l4) :=
  Eq.trans (congrArg f62_o_c12 (ap_fn (f62_f_c12 k R_l4))) ((f62_c12_P k R_l4 (f62_C_l6 k k) (f62_C_b6 k)).trans (by rfl))
theorem f62_b6_P (k : Nat) : f62_o_b6 (fun σ => f62_a k (f62_F_b6 k) .nx σ) = f62_b6_B k := by kernel_rfl
def f62_b6 (k : Nat) : f62_t_b6 := f62_b6_B k
theorem f62_b6_E (k : Nat) : f62_o_b6 (f62_C_b6 k) = f62_b6 k :=
  Eq.trans (congrArg f62_o_b6 (ap_fn (f62_f_b6 k))) ((f62_b6_P k).trans (by rfl))
theorem f62_c19_P (k : Nat) (G_l6 G_b6 : f62_S) : f62_o_c19 (fun σ => f62_a k (f62_F_c19 k G_l6 G_b6) .nx σ) = f62_c19_B k (f62_o_l6 G_l6) := by kernel_rfl
def f62_c19 (k : Nat) (r_l6 : f62_t_l6) : f62_t_c19 := f62_c19_B k r_l6
theorem f62_c19_E (k : Nat) (R_l6 : f62_S) : f62_o_c19 (f62_C_c19 k R_l6) = f62_c19 k (f62_o_l6 R_l6) :=
  Eq.trans (congrArg f62_o_c19 (ap_fn (f62_f_c19 k R_l6))) ((f62_c19_P k R_l6 (f62_C_b6 k)).trans (by rfl))
theorem f62_r18_P (k : Nat) (G_l6 G_b6 G_c19 : f62_S) : f62_o_r18 (fun σ => f62_a k (f62_F_r18 k G_l6 G_b6 G_c19) .nx σ) = f62_r18_B k (f62_o_c19 G_c19) := by kernel_rfl
def f62_r18 (k : Nat) (r_l6 : f62_t_l6) : f62_t_r18 := f62_r18_B k (f62_c19 k r_l6)
theorem f62_r18_E (k : Nat) (R_l6 : f62_S) : f62_o_r18 (f62_C_r18 k R_l6) = f62_r18 k (f62_o_l6 R_l6) :=
  Eq.trans (congrArg f62_o_r18 (ap_fn (f62_f_r18 k R_l6))) ((f62_r18_P k R_l6 (f62_C_b6 k) (f62_C_c19 k R_l6)).trans (by rw [f62_c19_E k R_l6] <;> rfl))
theorem f62_l6_P (k : Nat) (G_l6 G_b6 G_r18 G_c19 : f62_S) : f62_o_l6 (fun σ => f62_a k (f62_F_l6 k G_l6 G_b6 G_r18 G_c19) .nx σ) = f62_l6_B k (f62_o_b6 G_b6) (f62_o_r18 G_r18) := by kernel_rfl
def f62_l6 (k : Nat) : Nat → f62_t_l6
  | 0 => fun _ _ _ _ _ _ => none
  | n + 1 => f62_l6_B k (f62_b6 k) (f62_r18 k (f62_l6 k n))
theorem f62_l6_E (k : Nat) : ∀ n, f62_o_l6 (f62_C_l6 k n) = f62_l6 k n
  | 0 => rfl
  | n + 1 =>
    Eq.trans (congrArg f62_o_l6 (Eq.trans (b := fun σ => f62_a k (f62_Q_l6 k (f62_C_l6 k n)) .nx σ) (by kernel_rfl) (ap_fn (f62_f_l6 k (f62_C_l6 k n))))) ((f62_l6_P k (f62_C_l6 k n) (f62_C_b6 k) (f62_C_r18 k (f62_C_l6 k n)) (f62_C_c19 k (f62_C_l6 k n))).trans (by rw [f62_b6_E k, f62_r18_E k (f62_C_l6 k n), f62_l6_E k n] <;> rfl))
theorem f62_l4_P (k : Nat) (G_l4 G_c12 G_l6 G_b6 : f62_S) : f62_o_l4 (fun σ => f62_a k (f62_F_l4 k G_l4 G_c12 G_l6 G_b6) .nx σ) = f62_l4_B k (f62_o_c12 G_c12) (f62_o_l6 G_l6) := by kernel_rfl
def f62_l4 (k : Nat) : Nat → f62_t_l4
  | 0 => fun _ _ _ _ _ => none
  | n + 1 => f62_l4_B k (f62_c12 k (f62_l4 k n)) (f62_l6 k k)
theorem f62_l4_E (k : Nat) : ∀ n, f62_o_l4 (f62_C_l4 k n) = f62_l4 k n
  | 0 => rfl
  | n + 1 =>
    Eq.trans (congrArg f62_o_l4 (Eq.trans (b := fun σ => f62_a k (f62_Q_l4 k (f62_C_l4 k n)) .nx σ) (by kernel_rfl) (ap_fn (f62_f_l4 k (f62_C_l4 k n))))) ((f62_l4_P k (f62_C_l4 k n) (f62_C_c12 k (f62_C_l4 k n)) (f62_C_l6 k k) (f62_C_b6 k)).trans (by rw [f62_c12_E k (f62_C_l4 k n), f62_l6_E k k, f62_l4_E k n] <;> rfl))
theorem f62_r3_P (k : Nat) (G_l0 G_l2 G_l4 G_l6 G_b6 : f62_S) : f62_o_r3 (fun σ => f62_a k (f62_F_r3 k G_l0 G_l2 G_l4 G_l6 G_b6) .nx σ) = f62_r3_B k (f62_o_l2 G_l2) (f62_o_l4 G_l4) := by kernel_rfl
def f62_r3 (k : Nat) (r_l0 : f62_t_l0) : f62_t_r3 := f62_r3_B k (f62_l2 k r_l0 k) (f62_l4 k k)
theorem f62_r3_E (k : Nat) (R_l0 : f62_S) : f62_o_r3 (f62_C_r3 k R_l0) = f62_r3 k (f62_o_l0 R_l0) :=
  Eq.trans (congrArg f62_o_r3 (ap_fn (f62_f_r3 k R_l0))) ((f62_r3_P k R_l0 (f62_C_l2 k R_l0 k) (f62_C_l4 k k) (f62_C_l6 k k) (f62_C_b6 k)).trans (by rw [f62_l2_E k R_l0 k, f62_l4_E k k] <;> rfl))
theorem f62_l0_P (k : Nat) (G_l0 G_r3 G_l2 G_l4 G_l6 G_b6 : f62_S) : f62_o_l0 (fun σ => f62_a k (f62_F_l0 k G_l0 G_r3 G_l2 G_l4 G_l6 G_b6) .nx σ) = f62_l0_B k (f62_o_r3 G_r3) := by kernel_rfl
def f62_l0 (k : Nat) : Nat → f62_t_l0
  | 0 => fun _ _ => none
  | n + 1 => f62_l0_B k (f62_r3 k (f62_l0 k n))
theorem f62_l0_E (k : Nat) : ∀ n, f62_o_l0 (f62_C_l0 k n) = f62_l0 k n
  | 0 => rfl
  | n + 1 =>
    Eq.trans (congrArg f62_o_l0 (Eq.trans (b := fun σ => f62_a k (f62_Q_l0 k (f62_C_l0 k n)) .nx σ) (by kernel_rfl) (ap_fn (f62_f_l0 k (f62_C_l0 k n))))) ((f62_l0_P k (f62_C_l0 k n) (f62_C_r3 k (f62_C_l0 k n)) (f62_C_l2 k (f62_C_l0 k n) k) (f62_C_l4 k k) (f62_C_l6 k k) (f62_C_b6 k)).trans (by rw [f62_r3_E k (f62_C_l0 k n), f62_l0_E k n] <;> rfl))
theorem f62_entry_P (k : Nat) (G_l0 G_l4 G_l6 G_b6 : f62_S) (xs : DL f62_sig) : f62_a k (.c (f62_p 2) 0 :: .c (f62_p 6) 0 :: .c (f62_p 14) 0 :: .j (fun σ => f62_a k (.j (fun σ => G_l0 (cut f62_A.loops 0 σ)) :: .blk 0 :: .c (f62_p 124) 0 :: .j (fun σ => f62_a k (.j (fun σ => G_l4 (cut f62_A.loops 4 σ)) :: .blk 4 :: .c (f62_p 252) 0 :: .j (fun σ => f62_a k (.j (fun σ => G_l6 (cut f62_A.loops 6 σ)) :: .b 6 (fun σ => G_b6 (cut f62_A.blks 6 σ)) :: f62_F_b6 k) .nx σ) :: f62_F_b6 k) .nx σ) :: .c (f62_p 252) 0 :: .j (fun σ => f62_a k (.j (fun σ => G_l6 (cut f62_A.loops 6 σ)) :: .b 6 (fun σ => G_b6 (cut f62_A.blks 6 σ)) :: f62_F_b6 k) .nx σ) :: f62_F_b6 k) .nx σ) :: .c (f62_p 124) 0 :: .j (fun σ => f62_a k (.j (fun σ => G_l4 (cut f62_A.loops 4 σ)) :: .blk 4 :: .c (f62_p 252) 0 :: .j (fun σ => f62_a k (.j (fun σ => G_l6 (cut f62_A.loops 6 σ)) :: .b 6 (fun σ => G_b6 (cut f62_A.blks 6 σ)) :: f62_F_b6 k) .nx σ) :: f62_F_b6 k) .nx σ) :: .c (f62_p 252) 0 :: .j (fun σ => f62_a k (.j (fun σ => G_l6 (cut f62_A.loops 6 σ)) :: .b 6 (fun σ => G_b6 (cut f62_A.blks 6 σ)) :: f62_F_b6 k) .nx σ) :: f62_F_b6 k) .nx (σ0 124 384 f62_sig xs) = f62_entry_B k (f62_o_l0 G_l0) xs.1 := by kernel_rfl
def f62 (k : Nat) (a0 : (List Int)) : Option (Td12 × Unit) := f62_entry_B k (f62_l0 k k) a0
theorem f62_fe (k : Nat) : f62_a k [.c (f62_p 1) 0] = f62_a k (.c (f62_p 2) 0 :: .c (f62_p 6) 0 :: .c (f62_p 14) 0 :: .j (fun σ => f62_a k (.j (fun σ => (f62_C_l0 k k) (cut f62_A.loops 0 σ)) :: .blk 0 :: .c (f62_p 124) 0 :: .j (fun σ => f62_a k (.j (fun σ => (f62_C_l4 k k) (cut f62_A.loops 4 σ)) :: .blk 4 :: .c (f62_p 252) 0 :: .j (fun σ => f62_a k (.j (fun σ => (f62_C_l6 k k) (cut f62_A.loops 6 σ)) :: .b 6 (fun σ => (f62_C_b6 k) (cut f62_A.blks 6 σ)) :: f62_F_b6 k) .nx σ) :: f62_F_b6 k) .nx σ) :: .c (f62_p 252) 0 :: .j (fun σ => f62_a k (.j (fun σ => (f62_C_l6 k k) (cut f62_A.loops 6 σ)) :: .b 6 (fun σ => (f62_C_b6 k) (cut f62_A.blks 6 σ)) :: f62_F_b6 k) .nx σ) :: f62_F_b6 k) .nx σ) :: .c (f62_p 124) 0 :: .j (fun σ => f62_a k (.j (fun σ => (f62_C_l4 k k) (cut f62_A.loops 4 σ)) :: .blk 4 :: .c (f62_p 252) 0 :: .j (fun σ => f62_a k (.j (fun σ => (f62_C_l6 k k) (cut f62_A.loops 6 σ)) :: .b 6 (fun σ => (f62_C_b6 k) (cut f62_A.blks 6 σ)) :: f62_F_b6 k) .nx σ) :: f62_F_b6 k) .nx σ) :: .c (f62_p 252) 0 :: .j (fun σ => f62_a k (.j (fun σ => (f62_C_l6 k k) (cut f62_A.loops 6 σ)) :: .b 6 (fun σ => (f62_C_b6 k) (cut f62_A.blks 6 σ)) :: f62_F_b6 k) .nx σ) :: f62_F_b6 k) := (Eq.trans ap_sq (ap_cons _ (Eq.trans ap_sq (ap_cons _ (Eq.trans ap_sq (ap_cons _ (Eq.trans ap_sq (Eq.trans (ap_bl 0) (Eq.trans (ap_j (Eq.trans (ap_lp (C := (f62_C_l0 k)) (fun _ _ => rfl)) (ap_cons _ (ap_cons _ (Eq.trans ap_sq (Eq.trans ap_sq (ap_cons _ (Eq.trans (ap_bl 4) (Eq.trans (ap_j (Eq.trans (ap_lp (C := (f62_C_l4 k)) (fun _ _ => rfl)) (ap_cons _ (ap_cons _ (Eq.trans ap_sq (Eq.trans ap_sq (ap_cons _ (Eq.trans (ap_bl 6) (Eq.trans (ap_j (Eq.trans (ap_lp (C := (f62_C_l6 k)) (fun _ _ => rfl)) (ap_cons _ (Eq.trans (ap_blkb (C := (f62_C_b6 k)) (fun _ => rfl)) (ap_cons _ (f62_f_b6 k)))))) (ap_cons _ (f62_f_b6 k))))))))))) (ap_cons _ (Eq.trans ap_sq (Eq.trans ap_sq (ap_cons _ (Eq.trans (ap_bl 6) (Eq.trans (ap_j (Eq.trans (ap_lp (C := (f62_C_l6 k)) (fun _ _ => rfl)) (ap_cons _ (Eq.trans (ap_blkb (C := (f62_C_b6 k)) (fun _ => rfl)) (ap_cons _ (f62_f_b6 k)))))) (ap_cons _ (f62_f_b6 k))))))))))))))))) (ap_cons _ (Eq.trans ap_sq (Eq.trans ap_sq (ap_cons _ (Eq.trans (ap_bl 4) (Eq.trans (ap_j (Eq.trans (ap_lp (C := (f62_C_l4 k)) (fun _ _ => rfl)) (ap_cons _ (ap_cons _ (Eq.trans ap_sq (Eq.trans ap_sq (ap_cons _ (Eq.trans (ap_bl 6) (Eq.trans (ap_j (Eq.trans (ap_lp (C := (f62_C_l6 k)) (fun _ _ => rfl)) (ap_cons _ (Eq.trans (ap_blkb (C := (f62_C_b6 k)) (fun _ => rfl)) (ap_cons _ (f62_f_b6 k)))))) (ap_cons _ (f62_f_b6 k))))))))))) (ap_cons _ (Eq.trans ap_sq (Eq.trans ap_sq (ap_cons _ (Eq.trans (ap_bl 6) (Eq.trans (ap_j (Eq.trans (ap_lp (C := (f62_C_l6 k)) (fun _ _ => rfl)) (ap_cons _ (Eq.trans (ap_blkb (C := (f62_C_b6 k)) (fun _ => rfl)) (ap_cons _ (f62_f_b6 k)))))) (ap_cons _ (f62_f_b6 k)))))))))))))))))))))))
theorem f62_eq (k : Nat) (xs : DL f62_sig) : den T f62_Y (f62_E k) f62_A k f62_c 0 (σ0 124 384 f62_sig xs) (Kfin T f62_rs f62_ts) = f62 k xs.1 :=
  Eq.trans (Eq.trans den_sb (ap_at (f62_fe k) _)) ((f62_entry_P k (f62_C_l0 k k) (f62_C_l4 k k) (f62_C_l6 k k) (f62_C_b6 k) xs).trans (by rw [f62_l0_E k k] <;> rfl))
noncomputable def f62_con (k : Nat) : Con := ⟨f62_sig, f62_rs, fun xs => f62 k xs.1⟩
theorem f62_ok (k : Nat) : PureOK Try.prog 62 f62_sig f62_rs (fun xs => f62 k xs.1) :=
  (pure_of_den (k := k) (A := f62_A) (T := T) (Y := f62_Y) (E := f62_E k) (M := 384) (ts := f62_ts) T_ok ⟨f81_ok k, f115_ok k, f124_ok k, f125_ok k, f126_ok k, trivial⟩ ⟨f81_ent, f115_ent, f124_ent, f125_ent, f126_ent, trivial⟩ mixed (f := 62) (fn := Try.f62) (c := f62_c) (by kernel_rfl) (by kernel_rfl) (by kernel_rfl) (by decide) (by kernel_rfl)).congr fun xs => (f62_eq k xs).symm
theorem f62_ent : Ent Try.prog 62 := fun args w => by kernel_rfl
/-! ### terrier/terrkeep4.pair: function 128 -/
noncomputable def f128_c : Code := Try.f128.body.getD .skip
noncomputable abbrev f128_p (n : Nat) : Code := sb f128_c n
abbrev f128_sig : List PT := []
abbrev f128_rs : List RT := [.d true Tq8]
abbrev f128_ts : List RV := [.cell 0 64]
abbrev f128_S := St → Option (RDL f128_rs)
abbrev f128_L := List (Fr (RDL f128_rs))
def f128_Y : Tys := [(50, Tq1), (129, Tq5)]
noncomputable def f128_E (k : Nat) : Env := []
def f128_A : Ann := {}
noncomputable abbrev f128_a (k : Nat) (F : f128_L) : Kont (RDL f128_rs) := ap T f128_Y (f128_E k) f128_A k (Kfin T f128_rs f128_ts) F
def f128_entry_B (k : Nat)  : Option (Td12 × Unit) := some (([(0, 0), (1, 0)], ([(0, (1, (7, 0)))], [])), ())
theorem f128_entry_P (k : Nat) (xs : DL f128_sig) : f128_a k (.c (f128_p 1) 0 :: []) .nx (σ0 7 32 f128_sig xs) = f128_entry_B k  := by kernel_rfl
def f128 (k : Nat)  : Option (Td12 × Unit) := f128_entry_B k 
theorem f128_eq (k : Nat) (xs : DL f128_sig) : den T f128_Y (f128_E k) f128_A k f128_c 0 (σ0 7 32 f128_sig xs) (Kfin T f128_rs f128_ts) = f128 k  :=
  Eq.trans (Eq.trans den_sb (ap_at (ap_cons _ rfl) _)) ((f128_entry_P k xs).trans (by rfl))
noncomputable def f128_con (k : Nat) : Con := ⟨f128_sig, f128_rs, fun xs => f128 k ⟩
theorem f128_ok (k : Nat) : PureOK Try.prog 128 f128_sig f128_rs (fun xs => f128 k ) :=
  (pure_of_den (k := k) (A := f128_A) (T := T) (Y := f128_Y) (E := f128_E k) (M := 32) (ts := f128_ts) T_ok trivial trivial mixed (f := 128) (fn := Try.f128) (c := f128_c) (by kernel_rfl) (by kernel_rfl) (by kernel_rfl) (by decide) (by kernel_rfl)).congr fun xs => (f128_eq k xs).symm
theorem f128_ent : Ent Try.prog 128 := fun args w => by kernel_rfl
/-! ### terrier/net.root: function 163 -/
noncomputable def f163_c : Code := Try.f163.body.getD .skip
noncomputable abbrev f163_p (n : Nat) : Code := sb f163_c n
abbrev f163_sig : List PT := [(false, (.int .i64))]
abbrev f163_rs : List RT := [.d false (.int .i64)]
abbrev f163_ts : List RV := [.tmp 2]
abbrev f163_S := St → Option (RDL f163_rs)
abbrev f163_L := List (Fr (RDL f163_rs))
def f163_Y : Tys := []
noncomputable def f163_E (k : Nat) : Env := []
def f163_A : Ann := { loops := [(0, { slots := [(0, .id), (3, .id), (4, .id)] })], conds := [(5, { slots := [(0, .id), (3, .id), (4, .id)] })] }
noncomputable abbrev f163_a (k : Nat) (F : f163_L) : Kont (RDL f163_rs) := ap T f163_Y (f163_E k) f163_A k (Kfin T f163_rs f163_ts) F
def f163_s_l0 (x0 : Int) (x3 : Int) (x4 : Int) : St := mkS 22 80 [(0, aI x0), (3, aI x3), (4, aI x4)] []
abbrev f163_t_l0 := Int → Int → Int → Option (Int × Unit)
abbrev f163_o_l0 (R : f163_S) : f163_t_l0 := (fun x0 x3 x4 => R (f163_s_l0 x0 x3 x4))
noncomputable def f163_Q_l0 (k : Nat) (R_l0 : f163_S) : f163_L := [.c (f163_p 56) 0, .j (fun σ => R_l0 (cut f163_A.loops 0 σ)), .blk 0, .c (f163_p 15) 0]
noncomputable def f163_C_l0 (k : Nat) (n : Nat) (σ : St) : Option (RDL f163_rs) := loopK (fun σ K => den T f163_Y (f163_E k) f163_A k (f163_p 56) 0 σ K) (cut f163_A.loops 0) (f163_a k [.blk 0, .c (f163_p 15) 0]) n σ
def f163_s_c5 (x0 : Int) (x3 : Int) (x4 : Int) : St := mkS 22 80 [(0, aI x0), (3, aI x3), (4, aI x4)] []
abbrev f163_t_c5 := Int → Int → Int → Option (Int × Unit)
abbrev f163_o_c5 (R : f163_S) : f163_t_c5 := (fun x0 x3 x4 => R (f163_s_c5 x0 x3 x4))
noncomputable def f163_Q_c5 (k : Nat) (R_l0 : f163_S) : f163_L := [.blk 1, .j (fun σ => R_l0 (cut f163_A.loops 0 σ)), .blk 0, .c (f163_p 15) 0]
noncomputable def f163_C_c5 (k : Nat) (R_l0 : f163_S) : f163_S := fun σ => f163_a k (f163_Q_c5 k R_l0) .nx σ
noncomputable def f163_F_c5 (k : Nat) (G_l0 : f163_S) : f163_L := .blk 1 :: .j (fun σ => G_l0 (cut f163_A.loops 0 σ)) :: .blk 0 :: .c (f163_p 15) 0 :: []
theorem f163_f_c5 (k : Nat) (R_l0 : f163_S) : f163_a k (f163_Q_c5 k R_l0) = f163_a k (f163_F_c5 k R_l0) := (ap_cons _ (ap_cons _ (ap_cons _ (ap_cons _ rfl))))
noncomputable def f163_F_l0 (k : Nat) (G_l0 G_c5 : f163_S) : f163_L := .c (f163_p 112) 0 :: .j (fun σ => f163_a k (.c (f163_p 452) 1 :: .c (f163_p 906) 1 :: .c (f163_p 907) 1 :: .j G_c5 :: f163_F_c5 k G_l0) .nx σ) :: .j (fun σ => G_l0 (cut f163_A.loops 0 σ)) :: .blk 0 :: .c (f163_p 15) 0 :: []
theorem f163_f_l0 (k : Nat) (R_l0 : f163_S) : f163_a k (f163_Q_l0 k R_l0) = f163_a k (f163_F_l0 k R_l0 (f163_C_c5 k R_l0)) := (Eq.trans ap_sq (ap_cons _ (Eq.trans (ap_bl 1) (Eq.trans (ap_j (Eq.trans ap_sq (ap_cons _ (Eq.trans ap_sq (ap_cons _ (ap_cons _ (Eq.trans (ap_pass (C := (f163_C_c5 k R_l0)) (fun _ => rfl)) (ap_cons _ (f163_f_c5 k R_l0))))))))) (ap_cons _ (ap_cons _ (ap_cons _ (ap_cons _ rfl))))))))
def f163_entry_B (k : Nat) (g_l0 : f163_t_l0) (a0 : Int) : Option (Int × Unit) := (g_l0 a0 0 4194304)
def f163_l0_B (k : Nat) (g_c5 : f163_t_c5) (x0 : Int) (x3 : Int) (x4 : Int) : Option (Int × Unit) := (if 1 < (w64 (x4 - x3)) then (if (w64 ((w64 ((w64 (x3 + x4)).tdiv 2)) * (w64 ((w64 (x3 + x4)).tdiv 2)))) ≤ x0 then (g_c5 x0 (w64 ((w64 (x3 + x4)).tdiv 2)) x4) else (g_c5 x0 x3 (w64 ((w64 (x3 + x4)).tdiv 2)))) else some (x3, ()))
def f163_c5_B (k : Nat) (g_l0 : f163_t_l0) (x0 : Int) (x3 : Int) (x4 : Int) : Option (Int × Unit) := (g_l0 x0 x3 x4)
theorem f163_c5_P (k : Nat) (G_l0 : f163_S) : f163_o_c5 (fun σ => f163_a k (f163_F_c5 k G_l0) .nx σ) = f163_c5_B k (f163_o_l0 G_l0) := by kernel_rfl
def f163_c5 (k : Nat) (r_l0 : f163_t_l0) : f163_t_c5 := f163_c5_B k r_l0
theorem f163_c5_E (k : Nat) (R_l0 : f163_S) : f163_o_c5 (f163_C_c5 k R_l0) = f163_c5 k (f163_o_l0 R_l0) :=
  Eq.trans (congrArg f163_o_c5 (ap_fn (f163_f_c5 k R_l0))) ((f163_c5_P k R_l0).trans (by rfl))
theorem f163_l0_P (k : Nat) (G_l0 G_c5 : f163_S) : f163_o_l0 (fun σ => f163_a k (f163_F_l0 k G_l0 G_c5) .nx σ) = f163_l0_B k (f163_o_c5 G_c5) := by kernel_rfl
def f163_l0 (k : Nat) : Nat → f163_t_l0
  | 0 => fun _ _ _ => none
  | n + 1 => f163_l0_B k (f163_c5 k (f163_l0 k n))
theorem f163_l0_E (k : Nat) : ∀ n, f163_o_l0 (f163_C_l0 k n) = f163_l0 k n
  | 0 => rfl
  | n + 1 =>
    Eq.trans (congrArg f163_o_l0 (Eq.trans (b := fun σ => f163_a k (f163_Q_l0 k (f163_C_l0 k n)) .nx σ) (by kernel_rfl) (ap_fn (f163_f_l0 k (f163_C_l0 k n))))) ((f163_l0_P k (f163_C_l0 k n) (f163_C_c5 k (f163_C_l0 k n))).trans (by rw [f163_c5_E k (f163_C_l0 k n), f163_l0_E k n] <;> rfl))
theorem f163_entry_P (k : Nat) (G_l0 : f163_S) (xs : DL f163_sig) : f163_a k (.c (f163_p 2) 0 :: .c (f163_p 6) 0 :: .j (fun σ => f163_a k (.j (fun σ => G_l0 (cut f163_A.loops 0 σ)) :: .blk 0 :: .c (f163_p 15) 0 :: []) .nx σ) :: .c (f163_p 15) 0 :: []) .nx (σ0 22 80 f163_sig xs) = f163_entry_B k (f163_o_l0 G_l0) xs.1 := by kernel_rfl
def f163 (k : Nat) (a0 : Int) : Option (Int × Unit) := f163_entry_B k (f163_l0 k k) a0
theorem f163_fe (k : Nat) : f163_a k [.c (f163_p 1) 0] = f163_a k (.c (f163_p 2) 0 :: .c (f163_p 6) 0 :: .j (fun σ => f163_a k (.j (fun σ => (f163_C_l0 k k) (cut f163_A.loops 0 σ)) :: .blk 0 :: .c (f163_p 15) 0 :: []) .nx σ) :: .c (f163_p 15) 0 :: []) := (Eq.trans ap_sq (ap_cons _ (Eq.trans ap_sq (ap_cons _ (Eq.trans ap_sq (Eq.trans (ap_bl 0) (Eq.trans (ap_j (Eq.trans (ap_lp (C := (f163_C_l0 k)) (fun _ _ => rfl)) (ap_cons _ (ap_cons _ (ap_cons _ rfl))))) (ap_cons _ (ap_cons _ rfl)))))))))
theorem f163_eq (k : Nat) (xs : DL f163_sig) : den T f163_Y (f163_E k) f163_A k f163_c 0 (σ0 22 80 f163_sig xs) (Kfin T f163_rs f163_ts) = f163 k xs.1 :=
  Eq.trans (Eq.trans den_sb (ap_at (f163_fe k) _)) ((f163_entry_P k (f163_C_l0 k k) xs).trans (by rw [f163_l0_E k k] <;> rfl))
noncomputable def f163_con (k : Nat) : Con := ⟨f163_sig, f163_rs, fun xs => f163 k xs.1⟩
theorem f163_ok (k : Nat) : PureOK Try.prog 163 f163_sig f163_rs (fun xs => f163 k xs.1) :=
  (pure_of_den (k := k) (A := f163_A) (T := T) (Y := f163_Y) (E := f163_E k) (M := 80) (ts := f163_ts) T_ok trivial trivial mixed (f := 163) (fn := Try.f163) (c := f163_c) (by kernel_rfl) (by kernel_rfl) (by kernel_rfl) (by decide) (by kernel_rfl)).congr fun xs => (f163_eq k xs).symm
theorem f163_ent : Ent Try.prog 163 := fun args w => by kernel_rfl
/-! ### terrier/point.way: function 143 -/
noncomputable def f143_c : Code := Try.f143.body.getD .skip
noncomputable abbrev f143_p (n : Nat) : Code := sb f143_c n
abbrev f143_sig : List PT := [(true, Tq1), (true, Tq1)]
abbrev f143_rs : List RT := [.d true Tq1]
abbrev f143_ts : List RV := [.cell 4 50]
abbrev f143_S := St → Option (RDL f143_rs)
abbrev f143_L := List (Fr (RDL f143_rs))
def f143_Y : Tys := []
noncomputable def f143_E (k : Nat) : Env := [(92, .c (f92_con k))]
def f143_A : Ann := {}
noncomputable abbrev f143_a (k : Nat) (F : f143_L) : Kont (RDL f143_rs) := ap T f143_Y (f143_E k) f143_A k (Kfin T f143_rs f143_ts) F
def f143_entry_B (k : Nat) (a0 : (Int × Int)) (a1 : (Int × Int)) : Option ((Int × Int) × Unit) := ((f92 k (a0.1, a0.2)).bind fun r1 => ((f92 k (a1.1, a1.2)).bind fun r2 => some ((w64 (r2.1.1 - r1.1.1), w64 (r2.1.2 - r1.1.2)), ())))
theorem f143_entry_P (k : Nat) (xs : DL f143_sig) : f143_a k (.c (f143_p 1) 0 :: []) .nx (σ0 20 64 f143_sig xs) = f143_entry_B k xs.1 xs.2.1 := by kernel_rfl
def f143 (k : Nat) (a0 : (Int × Int)) (a1 : (Int × Int)) : Option ((Int × Int) × Unit) := f143_entry_B k a0 a1
theorem f143_eq (k : Nat) (xs : DL f143_sig) : den T f143_Y (f143_E k) f143_A k f143_c 0 (σ0 20 64 f143_sig xs) (Kfin T f143_rs f143_ts) = f143 k xs.1 xs.2.1 :=
  Eq.trans (Eq.trans den_sb (ap_at (ap_cons _ rfl) _)) ((f143_entry_P k xs).trans (by rfl))
noncomputable def f143_con (k : Nat) : Con := ⟨f143_sig, f143_rs, fun xs => f143 k xs.1 xs.2.1⟩
theorem f143_ok (k : Nat) : PureOK Try.prog 143 f143_sig f143_rs (fun xs => f143 k xs.1 xs.2.1) :=
  (pure_of_den (k := k) (A := f143_A) (T := T) (Y := f143_Y) (E := f143_E k) (M := 64) (ts := f143_ts) T_ok ⟨f92_ok k, trivial⟩ ⟨f92_ent, trivial⟩ mixed (f := 143) (fn := Try.f143) (c := f143_c) (by kernel_rfl) (by kernel_rfl) (by kernel_rfl) (by decide) (by kernel_rfl)).congr fun xs => (f143_eq k xs).symm
theorem f143_ent : Ent Try.prog 143 := fun args w => by kernel_rfl
/-! ### terrier/point.Dot: function 200 -/
noncomputable def f200_c : Code := Try.f200.body.getD .skip
noncomputable abbrev f200_p (n : Nat) : Code := sb f200_c n
abbrev f200_sig : List PT := [(true, Tq1), (true, Tq1), (true, Tq1)]
abbrev f200_rs : List RT := [.d false (.int .i64)]
abbrev f200_ts : List RV := [.tmp 6]
abbrev f200_S := St → Option (RDL f200_rs)
abbrev f200_L := List (Fr (RDL f200_rs))
def f200_Y : Tys := []
noncomputable def f200_E (k : Nat) : Env := [(143, .c (f143_con k))]
def f200_A : Ann := {}
noncomputable abbrev f200_a (k : Nat) (F : f200_L) : Kont (RDL f200_rs) := ap T f200_Y (f200_E k) f200_A k (Kfin T f200_rs f200_ts) F
def f200_entry_B (k : Nat) (a0 : (Int × Int)) (a1 : (Int × Int)) (a2 : (Int × Int)) : Option (Int × Unit) := ((f143 k (a0.1, a0.2) (a1.1, a1.2)).bind fun r1 => ((f143 k (a0.1, a0.2) (a2.1, a2.2)).bind fun r2 => some (w64 ((w64 (r1.1.1 * r2.1.1)) + (w64 (r1.1.2 * r2.1.2))), ())))
theorem f200_entry_P (k : Nat) (xs : DL f200_sig) : f200_a k (.c (f200_p 1) 0 :: []) .nx (σ0 26 80 f200_sig xs) = f200_entry_B k xs.1 xs.2.1 xs.2.2.1 := by kernel_rfl
def f200 (k : Nat) (a0 : (Int × Int)) (a1 : (Int × Int)) (a2 : (Int × Int)) : Option (Int × Unit) := f200_entry_B k a0 a1 a2
theorem f200_eq (k : Nat) (xs : DL f200_sig) : den T f200_Y (f200_E k) f200_A k f200_c 0 (σ0 26 80 f200_sig xs) (Kfin T f200_rs f200_ts) = f200 k xs.1 xs.2.1 xs.2.2.1 :=
  Eq.trans (Eq.trans den_sb (ap_at (ap_cons _ rfl) _)) ((f200_entry_P k xs).trans (by rfl))
noncomputable def f200_con (k : Nat) : Con := ⟨f200_sig, f200_rs, fun xs => f200 k xs.1 xs.2.1 xs.2.2.1⟩
theorem f200_ok (k : Nat) : PureOK Try.prog 200 f200_sig f200_rs (fun xs => f200 k xs.1 xs.2.1 xs.2.2.1) :=
  (pure_of_den (k := k) (A := f200_A) (T := T) (Y := f200_Y) (E := f200_E k) (M := 80) (ts := f200_ts) T_ok ⟨f143_ok k, trivial⟩ ⟨f143_ent, trivial⟩ mixed (f := 200) (fn := Try.f200) (c := f200_c) (by kernel_rfl) (by kernel_rfl) (by kernel_rfl) (by decide) (by kernel_rfl)).congr fun xs => (f200_eq k xs).symm
theorem f200_ent : Ent Try.prog 200 := fun args w => by kernel_rfl
/-! ### terrier/point.Sq: function 164 -/
noncomputable def f164_c : Code := Try.f164.body.getD .skip
noncomputable abbrev f164_p (n : Nat) : Code := sb f164_c n
abbrev f164_sig : List PT := [(true, Tq1), (true, Tq1)]
abbrev f164_rs : List RT := [.d false (.int .i64)]
abbrev f164_ts : List RV := [.tmp 4]
abbrev f164_S := St → Option (RDL f164_rs)
abbrev f164_L := List (Fr (RDL f164_rs))
def f164_Y : Tys := []
noncomputable def f164_E (k : Nat) : Env := [(200, .c (f200_con k))]
def f164_A : Ann := {}
noncomputable abbrev f164_a (k : Nat) (F : f164_L) : Kont (RDL f164_rs) := ap T f164_Y (f164_E k) f164_A k (Kfin T f164_rs f164_ts) F
def f164_entry_B (k : Nat) (a0 : (Int × Int)) (a1 : (Int × Int)) : Option (Int × Unit) := ((f200 k (a0.1, a0.2) (a1.1, a1.2) (a1.1, a1.2)).bind fun r1 => some (r1.1, ()))
theorem f164_entry_P (k : Nat) (xs : DL f164_sig) : f164_a k (.c (f164_p 1) 0 :: []) .nx (σ0 9 32 f164_sig xs) = f164_entry_B k xs.1 xs.2.1 := by kernel_rfl
def f164 (k : Nat) (a0 : (Int × Int)) (a1 : (Int × Int)) : Option (Int × Unit) := f164_entry_B k a0 a1
theorem f164_eq (k : Nat) (xs : DL f164_sig) : den T f164_Y (f164_E k) f164_A k f164_c 0 (σ0 9 32 f164_sig xs) (Kfin T f164_rs f164_ts) = f164 k xs.1 xs.2.1 :=
  Eq.trans (Eq.trans den_sb (ap_at (ap_cons _ rfl) _)) ((f164_entry_P k xs).trans (by rfl))
noncomputable def f164_con (k : Nat) : Con := ⟨f164_sig, f164_rs, fun xs => f164 k xs.1 xs.2.1⟩
theorem f164_ok (k : Nat) : PureOK Try.prog 164 f164_sig f164_rs (fun xs => f164 k xs.1 xs.2.1) :=
  (pure_of_den (k := k) (A := f164_A) (T := T) (Y := f164_Y) (E := f164_E k) (M := 32) (ts := f164_ts) T_ok ⟨f200_ok k, trivial⟩ ⟨f200_ent, trivial⟩ mixed (f := 164) (fn := Try.f164) (c := f164_c) (by kernel_rfl) (by kernel_rfl) (by kernel_rfl) (by decide) (by kernel_rfl)).congr fun xs => (f164_eq k xs).symm
theorem f164_ent : Ent Try.prog 164 := fun args w => by kernel_rfl
/-! ### terrier/net.Long: function 129 -/
noncomputable def f129_c : Code := Try.f129.body.getD .skip
noncomputable abbrev f129_p (n : Nat) : Code := sb f129_c n
abbrev f129_sig : List PT := [(true, Tq1), (true, Tq1), (false, (.int .i64))]
abbrev f129_rs : List RT := [.d false (.int .i64)]
abbrev f129_ts : List RV := [.tmp 6]
abbrev f129_S := St → Option (RDL f129_rs)
abbrev f129_L := List (Fr (RDL f129_rs))
def f129_Y : Tys := []
noncomputable def f129_E (k : Nat) : Env := [(92, .c (f92_con k)), (163, .c (f163_con k)), (164, .c (f164_con k))]
def f129_A : Ann := { regs := [(1, { slots := [(2, .id), (3, .id), (4, .id), (13, .bool)], keys := [(3, []), (4, [])] })], conds := [(2, { slots := [(2, .id), (3, .id), (4, .id)], keys := [(3, []), (4, [])] })] }
noncomputable abbrev f129_a (k : Nat) (F : f129_L) : Kont (RDL f129_rs) := ap T f129_Y (f129_E k) f129_A k (Kfin T f129_rs f129_ts) F
def f129_s_r1 (y3_0 : Int) (y3_1 : Int) (y4_0 : Int) (y4_1 : Int) (x13 : Bool) (x2 : Int) : St := mkS 27 96 [(2, aI x2), (3, aP 3), (4, aP 4), (13, aB x13)] [(3, .box [cI y3_0, cI y3_1]), (4, .box [cI y4_0, cI y4_1])]
abbrev f129_t_r1 := Int → Int → Int → Int → Bool → Int → Option (Int × Unit)
abbrev f129_o_r1 (R : f129_S) : f129_t_r1 := (fun y3_0 y3_1 y4_0 y4_1 x13 x2 => R (f129_s_r1 y3_0 y3_1 y4_0 y4_1 x13 x2))
noncomputable def f129_Q_r1 (k : Nat) : f129_L := [.c (f129_p 13) 0, .c (f129_p 7) 0]
noncomputable def f129_C_r1 (k : Nat) : f129_S := fun σ => f129_a k (f129_Q_r1 k) .nx σ
def f129_s_c2 (y3_0 : Int) (y3_1 : Int) (y4_0 : Int) (y4_1 : Int) (x2 : Int) : St := mkS 27 96 [(2, aI x2), (3, aP 3), (4, aP 4)] [(3, .box [cI y3_0, cI y3_1]), (4, .box [cI y4_0, cI y4_1])]
abbrev f129_t_c2 := Int → Int → Int → Int → Int → Option (Int × Unit)
abbrev f129_o_c2 (R : f129_S) : f129_t_c2 := (fun y3_0 y3_1 y4_0 y4_1 x2 => R (f129_s_c2 y3_0 y3_1 y4_0 y4_1 x2))
noncomputable def f129_Q_c2 (k : Nat) : f129_L := [.c (f129_p 7) 0]
noncomputable def f129_C_c2 (k : Nat) : f129_S := fun σ => f129_a k (f129_Q_c2 k) .nx σ
noncomputable def f129_F_c2 (k : Nat) : f129_L := .c (f129_p 7) 0 :: []
theorem f129_f_c2 (k : Nat) : f129_a k (f129_Q_c2 k) = f129_a k (f129_F_c2 k) := (ap_cons _ rfl)
noncomputable def f129_F_r1 (k : Nat) (G_c2 : f129_S) : f129_L := .c (f129_p 13) 0 :: .j G_c2 :: f129_F_c2 k
theorem f129_f_r1 (k : Nat) : f129_a k (f129_Q_r1 k) = f129_a k (f129_F_r1 k (f129_C_c2 k)) := (ap_cons _ (Eq.trans (ap_pass (C := (f129_C_c2 k)) (fun _ => rfl)) (ap_cons _ (f129_f_c2 k))))
def f129_entry_B (k : Nat) (g_r1 : f129_t_r1) (a0 : (Int × Int)) (a1 : (Int × Int)) (a2 : Int) : Option (Int × Unit) := (if a2 < 1 then (g_r1 a0.1 a0.2 a1.1 a1.2 true a2) else (g_r1 a0.1 a0.2 a1.1 a1.2 (decide (1000 < a2)) a2))
def f129_r1_B (k : Nat) (g_c2 : f129_t_c2) (y3_0 : Int) (y3_1 : Int) (y4_0 : Int) (y4_1 : Int) (x13 : Bool) (x2 : Int) : Option (Int × Unit) := (if x13 = true then (g_c2 y3_0 y3_1 y4_0 y4_1 100) else (g_c2 y3_0 y3_1 y4_0 y4_1 x2))
def f129_c2_B (k : Nat) (y3_0 : Int) (y3_1 : Int) (y4_0 : Int) (y4_1 : Int) (x2 : Int) : Option (Int × Unit) := ((f92 k (y3_0, y3_1)).bind fun r1 => ((f92 k (y4_0, y4_1)).bind fun r2 => ((f164 k (r1.1.1, r1.1.2) (r2.1.1, r2.1.2)).bind fun r3 => ((f163 k r3.1).bind fun r4 => (if ¬ x2 = 0 then some (w64 ((w64 ((w64 ((w64 (r4.1 * 100)) + x2)) - 1)).tdiv x2), ()) else none)))))
theorem f129_c2_P (k : Nat) : f129_o_c2 (fun σ => f129_a k (f129_F_c2 k) .nx σ) = f129_c2_B k := by kernel_rfl
def f129_c2 (k : Nat) : f129_t_c2 := f129_c2_B k
theorem f129_c2_E (k : Nat) : f129_o_c2 (f129_C_c2 k) = f129_c2 k :=
  Eq.trans (congrArg f129_o_c2 (ap_fn (f129_f_c2 k))) ((f129_c2_P k).trans (by rfl))
theorem f129_r1_P (k : Nat) (G_c2 : f129_S) : f129_o_r1 (fun σ => f129_a k (f129_F_r1 k G_c2) .nx σ) = f129_r1_B k (f129_o_c2 G_c2) := by kernel_rfl
def f129_r1 (k : Nat) : f129_t_r1 := f129_r1_B k (f129_c2 k)
theorem f129_r1_E (k : Nat) : f129_o_r1 (f129_C_r1 k) = f129_r1 k :=
  Eq.trans (congrArg f129_o_r1 (ap_fn (f129_f_r1 k))) ((f129_r1_P k (f129_C_c2 k)).trans (by rw [f129_c2_E k] <;> rfl))
theorem f129_entry_P (k : Nat) (G_r1 G_c2 : f129_S) (xs : DL f129_sig) : f129_a k (.c (f129_p 2) 0 :: .c (f129_p 12) 0 :: .j G_r1 :: f129_F_r1 k G_c2) .nx (σ0 27 96 f129_sig xs) = f129_entry_B k (f129_o_r1 G_r1) xs.1 xs.2.1 xs.2.2.1 := by kernel_rfl
def f129 (k : Nat) (a0 : (Int × Int)) (a1 : (Int × Int)) (a2 : Int) : Option (Int × Unit) := f129_entry_B k (f129_r1 k) a0 a1 a2
theorem f129_fe (k : Nat) : f129_a k [.c (f129_p 1) 0] = f129_a k (.c (f129_p 2) 0 :: .c (f129_p 12) 0 :: .j (f129_C_r1 k) :: f129_F_r1 k (f129_C_c2 k)) := (Eq.trans ap_sq (ap_cons _ (Eq.trans ap_sq (Eq.trans ap_sq (ap_cons _ (Eq.trans (ap_pass (C := (f129_C_r1 k)) (fun _ => rfl)) (ap_cons _ (f129_f_r1 k))))))))
theorem f129_eq (k : Nat) (xs : DL f129_sig) : den T f129_Y (f129_E k) f129_A k f129_c 0 (σ0 27 96 f129_sig xs) (Kfin T f129_rs f129_ts) = f129 k xs.1 xs.2.1 xs.2.2.1 :=
  Eq.trans (Eq.trans den_sb (ap_at (f129_fe k) _)) ((f129_entry_P k (f129_C_r1 k) (f129_C_c2 k) xs).trans (by rw [f129_r1_E k] <;> rfl))
noncomputable def f129_con (k : Nat) : Con := ⟨f129_sig, f129_rs, fun xs => f129 k xs.1 xs.2.1 xs.2.2.1⟩
theorem f129_ok (k : Nat) : PureOK Try.prog 129 f129_sig f129_rs (fun xs => f129 k xs.1 xs.2.1 xs.2.2.1) :=
  (pure_of_den (k := k) (A := f129_A) (T := T) (Y := f129_Y) (E := f129_E k) (M := 96) (ts := f129_ts) T_ok ⟨f92_ok k, f163_ok k, f164_ok k, trivial⟩ ⟨f92_ent, f163_ent, f164_ent, trivial⟩ mixed (f := 129) (fn := Try.f129) (c := f129_c) (by kernel_rfl) (by kernel_rfl) (by kernel_rfl) (by decide) (by kernel_rfl)).congr fun xs => (f129_eq k xs).symm
theorem f129_ent : Ent Try.prog 129 := fun args w => by kernel_rfl
/-! ### terrier/terrkeep4.netted: function 64 -/
noncomputable def f64_c : Code := Try.f64.body.getD .skip
noncomputable abbrev f64_p (n : Nat) : Code := sb f64_c n
abbrev f64_sig : List PT := []
abbrev f64_rs : List RT := [.d false .bool]
abbrev f64_ts : List RV := [.tmp 0]
abbrev f64_S := St → Option (RDL f64_rs)
abbrev f64_L := List (Fr (RDL f64_rs))
def f64_Y : Tys := [(3, (.int .i64))]
noncomputable def f64_E (k : Nat) : Env := [(54, .c (f54_con k)), (128, .c (f128_con k)), (129, .c (f129_con k))]
def f64_A : Ann := { regs := [(2, { slots := [(0, .bool)] })] }
noncomputable abbrev f64_a (k : Nat) (F : f64_L) : Kont (RDL f64_rs) := ap T f64_Y (f64_E k) f64_A k (Kfin T f64_rs f64_ts) F
def f64_s_r2 (x0 : Bool) : St := mkS 21 64 [(0, aB x0)] []
abbrev f64_t_r2 := Bool → Option (Bool × Unit)
abbrev f64_o_r2 (R : f64_S) : f64_t_r2 := (fun x0 => R (f64_s_r2 x0))
noncomputable def f64_Q_r2 (k : Nat) : f64_L := [.c (f64_p 15) 0]
noncomputable def f64_C_r2 (k : Nat) : f64_S := fun σ => f64_a k (f64_Q_r2 k) .nx σ
noncomputable def f64_F_r2 (k : Nat) : f64_L := .c (f64_p 15) 0 :: []
theorem f64_f_r2 (k : Nat) : f64_a k (f64_Q_r2 k) = f64_a k (f64_F_r2 k) := (ap_cons _ rfl)
def f64_entry_B (k : Nat) (g_r2 : f64_t_r2)  : Option (Bool × Unit) := ((f128 k ).bind fun r1 => ((f54 k (r1.1.1, (r1.1.2.1, r1.1.2.2)) ([0])).bind fun r2 => (if r2.2.1 = 0 then (if r2.1 = 7 then ((f129 k (0, 0) (3, 4) 0).bind fun r3 => (g_r2 (decide (r3.1 = 5)))) else (g_r2 false)) else (g_r2 false))))
def f64_r2_B (k : Nat) (x0 : Bool) : Option (Bool × Unit) := some (decide (x0 = true), ())
theorem f64_r2_P (k : Nat) : f64_o_r2 (fun σ => f64_a k (f64_F_r2 k) .nx σ) = f64_r2_B k := by kernel_rfl
def f64_r2 (k : Nat) : f64_t_r2 := f64_r2_B k
theorem f64_r2_E (k : Nat) : f64_o_r2 (f64_C_r2 k) = f64_r2 k :=
  Eq.trans (congrArg f64_o_r2 (ap_fn (f64_f_r2 k))) ((f64_r2_P k).trans (by rfl))
theorem f64_entry_P (k : Nat) (G_r2 : f64_S) (xs : DL f64_sig) : f64_a k (.c (f64_p 2) 0 :: .c (f64_p 6) 0 :: .c (f64_p 14) 0 :: .j G_r2 :: f64_F_r2 k) .nx (σ0 21 64 f64_sig xs) = f64_entry_B k (f64_o_r2 G_r2)  := by kernel_rfl
def f64 (k : Nat)  : Option (Bool × Unit) := f64_entry_B k (f64_r2 k) 
theorem f64_fe (k : Nat) : f64_a k [.c (f64_p 1) 0] = f64_a k (.c (f64_p 2) 0 :: .c (f64_p 6) 0 :: .c (f64_p 14) 0 :: .j (f64_C_r2 k) :: f64_F_r2 k) := (Eq.trans ap_sq (ap_cons _ (Eq.trans ap_sq (ap_cons _ (Eq.trans ap_sq (ap_cons _ (Eq.trans (ap_pass (C := (f64_C_r2 k)) (fun _ => rfl)) (ap_cons _ (f64_f_r2 k)))))))))
theorem f64_eq (k : Nat) (xs : DL f64_sig) : den T f64_Y (f64_E k) f64_A k f64_c 0 (σ0 21 64 f64_sig xs) (Kfin T f64_rs f64_ts) = f64 k  :=
  Eq.trans (Eq.trans den_sb (ap_at (f64_fe k) _)) ((f64_entry_P k (f64_C_r2 k) xs).trans (by rw [f64_r2_E k] <;> rfl))
noncomputable def f64_con (k : Nat) : Con := ⟨f64_sig, f64_rs, fun xs => f64 k ⟩
theorem f64_ok (k : Nat) : PureOK Try.prog 64 f64_sig f64_rs (fun xs => f64 k ) :=
  (pure_of_den (k := k) (A := f64_A) (T := T) (Y := f64_Y) (E := f64_E k) (M := 64) (ts := f64_ts) T_ok ⟨f54_ok k, f128_ok k, f129_ok k, trivial⟩ ⟨f54_ent, f128_ent, f129_ent, trivial⟩ mixed (f := 64) (fn := Try.f64) (c := f64_c) (by kernel_rfl) (by kernel_rfl) (by kernel_rfl) (by decide) (by kernel_rfl)).congr fun xs => (f64_eq k xs).symm
theorem f64_ent : Ent Try.prog 64 := fun args w => by kernel_rfl
/-! ### terrier/terrkeep4.NetWalks: function 12 -/
noncomputable def f12_c : Code := Try.f12.body.getD .skip
noncomputable abbrev f12_p (n : Nat) : Code := sb f12_c n
abbrev f12_sig : List PT := [(false, Tq9), (false, Tq9), (false, (.int .i64))]
abbrev f12_rs : List RT := [.d false .bool]
abbrev f12_ts : List RV := [.tmp 6]
abbrev f12_S := St → Option (RDL f12_rs)
abbrev f12_L := List (Fr (RDL f12_rs))
def f12_Y : Tys := []
noncomputable def f12_E (k : Nat) : Env := [(23, .c (f23_con k)), (53, .c (f53_con k)), (54, .c (f54_con k)), (62, .c (f62_con k)), (63, .c (f63_con k)), (64, .c (f64_con k))]
def f12_A : Ann := { loops := [(0, { slots := [(7, .id), (8, .val false (.int .i64)), (9, .id), (12, .id), (13, .id), (14, .id), (15, .id), (16, .id), (17, .id), (18, .id)], keys := [(7, [.val false Tq1, .val false Tq5, .val false Tq1])] })], regs := [(12, { slots := [(6, .bool)] })] }
noncomputable abbrev f12_a (k : Nat) (F : f12_L) : Kont (RDL f12_rs) := ap T f12_Y (f12_E k) f12_A k (Kfin T f12_rs f12_ts) F
def f12_s_l0 (y7_0 : (List (Int × Int))) (y7_1 : (List (Int × (Int × (Int × Int))))) (y7_2 : (List (Int × Int))) (x12 : Int) (x13 : Int) (x14 : Int) (x15 : Int) (x16 : Int) (x17 : Int) (x18 : Int) (x8 : (List Int)) (x9 : Int) : St := mkS 102 320 [(7, aP 7), (8, aV (.int .i64) x8), (9, aI x9), (12, aI x12), (13, aI x13), (14, aI x14), (15, aI x15), (16, aI x16), (17, aI x17), (18, aI x18)] [(7, .box [cV Tq1 y7_0, cV Tq5 y7_1, cV Tq1 y7_2])]
abbrev f12_t_l0 := (List (Int × Int)) → (List (Int × (Int × (Int × Int)))) → (List (Int × Int)) → Int → Int → Int → Int → Int → Int → Int → (List Int) → Int → Option (Bool × Unit)
abbrev f12_o_l0 (R : f12_S) : f12_t_l0 := (fun y7_0 y7_1 y7_2 x12 x13 x14 x15 x16 x17 x18 x8 x9 => R (f12_s_l0 y7_0 y7_1 y7_2 x12 x13 x14 x15 x16 x17 x18 x8 x9))
noncomputable def f12_Q_l0 (k : Nat) (R_l0 : f12_S) : f12_L := [.c (f12_p 4084) 0, .j (fun σ => R_l0 (cut f12_A.loops 0 σ)), .blk 0, .c (f12_p 511) 0]
noncomputable def f12_C_l0 (k : Nat) (n : Nat) (σ : St) : Option (RDL f12_rs) := loopK (fun σ K => den T f12_Y (f12_E k) f12_A k (f12_p 4084) 0 σ K) (cut f12_A.loops 0) (f12_a k [.blk 0, .c (f12_p 511) 0]) n σ
def f12_s_r12 (x6 : Bool) : St := mkS 102 320 [(6, aB x6)] []
abbrev f12_t_r12 := Bool → Option (Bool × Unit)
abbrev f12_o_r12 (R : f12_S) : f12_t_r12 := (fun x6 => R (f12_s_r12 x6))
noncomputable def f12_Q_r12 (k : Nat) : f12_L := [.c (f12_p 1023) 0]
noncomputable def f12_C_r12 (k : Nat) : f12_S := fun σ => f12_a k (f12_Q_r12 k) .nx σ
noncomputable def f12_F_r12 (k : Nat) : f12_L := .c (f12_p 1023) 0 :: []
theorem f12_f_r12 (k : Nat) : f12_a k (f12_Q_r12 k) = f12_a k (f12_F_r12 k) := (ap_cons _ rfl)
noncomputable def f12_F_l0 (k : Nat) (G_l0 G_r12 : f12_S) : f12_L := .c (f12_p 4084) 0 :: .j (fun σ => G_l0 (cut f12_A.loops 0 σ)) :: .blk 0 :: .c (f12_p 1022) 0 :: .j G_r12 :: f12_F_r12 k
theorem f12_f_l0 (k : Nat) (R_l0 : f12_S) : f12_a k (f12_Q_l0 k R_l0) = f12_a k (f12_F_l0 k R_l0 (f12_C_r12 k)) := (ap_cons _ (ap_cons _ (ap_cons _ (Eq.trans ap_sq (ap_cons _ (Eq.trans (ap_pass (C := (f12_C_r12 k)) (fun _ => rfl)) (ap_cons _ (f12_f_r12 k))))))))
def f12_entry_B (k : Nat) (g_l0 : f12_t_l0) (a0 : (List Int)) (a1 : (List Int)) (a2 : Int) : Option (Bool × Unit) := ((f62 k a0).bind fun r1 => (if 0 ≤ (mx2 false (a1.length : Int) 12) then (if (mx2 false (a1.length : Int) 12) ≤ (a1.length : Int) then ((f53 k (r1.1.1, (r1.1.2.1, r1.1.2.2)) 0 (a1.take ((mx2 false (a1.length : Int) 12)).toNat)).bind fun r2 => ((f23 k a2 (w64 ((r2.1.length : Int) + 1))).bind fun r3 => ((f54 k (r1.1.1, (r1.1.2.1, r1.1.2.2)) r2.1).bind fun r4 => (if 0 ≤ r3.1 then (if r3.1 ≤ (r2.1.length : Int) then ((f54 k (r1.1.1, (r1.1.2.1, r1.1.2.2)) (r2.1.take (r3.1).toNat)).bind fun r5 => (if 0 ≤ r3.1 then (if r3.1 ≤ (r2.1.length : Int) then ((f54 k (r1.1.1, (r1.1.2.1, r1.1.2.2)) (r2.1.drop (r3.1).toNat)).bind fun r6 => (g_l0 r1.1.1 r1.1.2.1 r1.1.2.2 r4.1 r4.2.1 r5.1 r5.2.1 r6.1 r6.2.1 1 r2.1 r2.2.1)) else none) else none)) else none) else none)))) else none) else none))
def f12_l0_B (k : Nat) (g_l0 : f12_t_l0) (g_r12 : f12_t_r12) (y7_0 : (List (Int × Int))) (y7_1 : (List (Int × (Int × (Int × Int))))) (y7_2 : (List (Int × Int))) (x12 : Int) (x13 : Int) (x14 : Int) (x15 : Int) (x16 : Int) (x17 : Int) (x18 : Int) (x8 : (List Int)) (x9 : Int) : Option (Bool × Unit) := (if x18 < (x8.length : Int) then (if 0 ≤ (w64 (x18 - 1)) then (if (w64 (x18 - 1)) < (x8.length : Int) then (if 0 ≤ x18 then (if x18 < (x8.length : Int) then ((f63 k (y7_0, (y7_1, y7_2)) (x8.getD (w64 (x18 - 1)).toNat 0) (x8.getD (x18).toNat 0)).bind fun r1 => (if ¬ (r1.1 = true) then some (false, ()) else (g_l0 y7_0 y7_1 y7_2 x12 x13 x14 x15 x16 x17 (w64 (x18 + 1)) x8 x9))) else none) else none) else none) else none) else ((f64 k ).bind fun r2 => (if r2.1 = true then (if x13 = 0 then (if x15 = 0 then (if x17 = 0 then (if x12 = x9 then (g_r12 (decide ((w64 (x14 + x16)) = x9))) else (g_r12 false)) else (g_r12 false)) else (g_r12 false)) else (g_r12 false)) else (g_r12 false))))
def f12_r12_B (k : Nat) (x6 : Bool) : Option (Bool × Unit) := some (decide (x6 = true), ())
theorem f12_r12_P (k : Nat) : f12_o_r12 (fun σ => f12_a k (f12_F_r12 k) .nx σ) = f12_r12_B k := by kernel_rfl
def f12_r12 (k : Nat) : f12_t_r12 := f12_r12_B k
theorem f12_r12_E (k : Nat) : f12_o_r12 (f12_C_r12 k) = f12_r12 k :=
  Eq.trans (congrArg f12_o_r12 (ap_fn (f12_f_r12 k))) ((f12_r12_P k).trans (by rfl))
theorem f12_l0_P (k : Nat) (G_l0 G_r12 : f12_S) : f12_o_l0 (fun σ => f12_a k (f12_F_l0 k G_l0 G_r12) .nx σ) = f12_l0_B k (f12_o_l0 G_l0) (f12_o_r12 G_r12) := by kernel_rfl
def f12_l0 (k : Nat) : Nat → f12_t_l0
  | 0 => fun _ _ _ _ _ _ _ _ _ _ _ _ => none
  | n + 1 => f12_l0_B k (f12_l0 k n) (f12_r12 k)
theorem f12_l0_E (k : Nat) : ∀ n, f12_o_l0 (f12_C_l0 k n) = f12_l0 k n
  | 0 => rfl
  | n + 1 =>
    Eq.trans (congrArg f12_o_l0 (Eq.trans (b := fun σ => f12_a k (f12_Q_l0 k (f12_C_l0 k n)) .nx σ) (by kernel_rfl) (ap_fn (f12_f_l0 k (f12_C_l0 k n))))) ((f12_l0_P k (f12_C_l0 k n) (f12_C_r12 k)).trans (by rw [f12_r12_E k, f12_l0_E k n] <;> rfl))
theorem f12_entry_P (k : Nat) (G_l0 G_r12 : f12_S) (xs : DL f12_sig) : f12_a k (.c (f12_p 2) 0 :: .c (f12_p 6) 0 :: .c (f12_p 14) 0 :: .c (f12_p 30) 0 :: .c (f12_p 62) 0 :: .c (f12_p 126) 0 :: .c (f12_p 254) 0 :: .c (f12_p 1020) 0 :: .j (fun σ => f12_a k (.j (fun σ => G_l0 (cut f12_A.loops 0 σ)) :: .blk 0 :: .c (f12_p 1022) 0 :: .j G_r12 :: f12_F_r12 k) .nx σ) :: .c (f12_p 1022) 0 :: .j G_r12 :: f12_F_r12 k) .nx (σ0 102 320 f12_sig xs) = f12_entry_B k (f12_o_l0 G_l0) xs.1 xs.2.1 xs.2.2.1 := by kernel_rfl
def f12 (k : Nat) (a0 : (List Int)) (a1 : (List Int)) (a2 : Int) : Option (Bool × Unit) := f12_entry_B k (f12_l0 k k) a0 a1 a2
theorem f12_fe (k : Nat) : f12_a k [.c (f12_p 1) 0] = f12_a k (.c (f12_p 2) 0 :: .c (f12_p 6) 0 :: .c (f12_p 14) 0 :: .c (f12_p 30) 0 :: .c (f12_p 62) 0 :: .c (f12_p 126) 0 :: .c (f12_p 254) 0 :: .c (f12_p 1020) 0 :: .j (fun σ => f12_a k (.j (fun σ => (f12_C_l0 k k) (cut f12_A.loops 0 σ)) :: .blk 0 :: .c (f12_p 1022) 0 :: .j (f12_C_r12 k) :: f12_F_r12 k) .nx σ) :: .c (f12_p 1022) 0 :: .j (f12_C_r12 k) :: f12_F_r12 k) := (Eq.trans ap_sq (ap_cons _ (Eq.trans ap_sq (ap_cons _ (Eq.trans ap_sq (ap_cons _ (Eq.trans ap_sq (ap_cons _ (Eq.trans ap_sq (ap_cons _ (Eq.trans ap_sq (ap_cons _ (Eq.trans ap_sq (ap_cons _ (Eq.trans ap_sq (Eq.trans ap_sq (ap_cons _ (Eq.trans (ap_bl 0) (Eq.trans (ap_j (Eq.trans (ap_lp (C := (f12_C_l0 k)) (fun _ _ => rfl)) (ap_cons _ (ap_cons _ (Eq.trans ap_sq (ap_cons _ (Eq.trans (ap_pass (C := (f12_C_r12 k)) (fun _ => rfl)) (ap_cons _ (f12_f_r12 k))))))))) (ap_cons _ (Eq.trans ap_sq (ap_cons _ (Eq.trans (ap_pass (C := (f12_C_r12 k)) (fun _ => rfl)) (ap_cons _ (f12_f_r12 k)))))))))))))))))))))))))
theorem f12_eq (k : Nat) (xs : DL f12_sig) : den T f12_Y (f12_E k) f12_A k f12_c 0 (σ0 102 320 f12_sig xs) (Kfin T f12_rs f12_ts) = f12 k xs.1 xs.2.1 xs.2.2.1 :=
  Eq.trans (Eq.trans den_sb (ap_at (f12_fe k) _)) ((f12_entry_P k (f12_C_l0 k k) (f12_C_r12 k) xs).trans (by rw [f12_l0_E k k] <;> rfl))
noncomputable def f12_con (k : Nat) : Con := ⟨f12_sig, f12_rs, fun xs => f12 k xs.1 xs.2.1 xs.2.2.1⟩
theorem f12_ok (k : Nat) : PureOK Try.prog 12 f12_sig f12_rs (fun xs => f12 k xs.1 xs.2.1 xs.2.2.1) :=
  (pure_of_den (k := k) (A := f12_A) (T := T) (Y := f12_Y) (E := f12_E k) (M := 320) (ts := f12_ts) T_ok ⟨f23_ok k, f53_ok k, f54_ok k, f62_ok k, f63_ok k, f64_ok k, trivial⟩ ⟨f23_ent, f53_ent, f54_ent, f62_ent, f63_ent, f64_ent, trivial⟩ mixed (f := 12) (fn := Try.f12) (c := f12_c) (by kernel_rfl) (by kernel_rfl) (by kernel_rfl) (by decide) (by kernel_rfl)).congr fun xs => (f12_eq k xs).symm
theorem f12_ent : Ent Try.prog 12 := fun args w => by kernel_rfl
def Pure_NetWalks : Prop := ∀ xs : DL f12_sig, wfs f12_sig xs → ∃ k, f12 k xs.1 xs.2.1 xs.2.2.1 = some (true, ())
end Go.Proofs.Ytpbmlhlpfbcnbaa.Rw
