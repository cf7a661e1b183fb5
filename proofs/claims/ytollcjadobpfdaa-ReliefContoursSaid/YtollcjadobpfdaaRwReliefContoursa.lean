/- What the functions that the law ReliefContours reaches come to, part 1. No condition. -/
import Derived.Test.YtollcjadobpfdaaRxEv
import Derived.Test.YtollcjadobpfdaaProg
namespace Go.Proofs.Ytollcjadobpfdaa.Rw
open Go.Rx Go.Proofs
set_option linter.unusedVariables false
set_option maxRecDepth 100000
noncomputable section
def T : Tab := [(3, ⟨.int .i64, 1, 8, some (false, [cI 0]), false⟩),
 (4, ⟨.bool, 1, 1, some (false, [.lit false]), false⟩),
 (22, ⟨.slice 28, 1, 24, some (false, [.nil]), false⟩),
 (23, ⟨.slice 38, 1, 24, some (false, [.nil]), false⟩),
 (25, ⟨.struct [(0, 22), (1, 23)], 2, 48, some (true, [.nil, .nil]), true⟩),
 (26, ⟨.slice 3, 1, 24, some (false, [.nil]), false⟩),
 (28, ⟨.struct [(0, 3), (1, 3)], 2, 16, some (true, [cI 0, cI 0]), true⟩),
 (29, ⟨.int .i64, 1, 8, some (false, [cI 0]), false⟩),
 (32, ⟨.struct [(0, 3), (1, 3)], 2, 16, some (true, [cI 0, cI 0]), true⟩),
 (38, ⟨.array 3 3, 3, 24, some (true, [cI 0, cI 0, cI 0]), true⟩),
 (41, ⟨.slice 49, 1, 24, some (false, [.nil]), false⟩),
 (47, ⟨.array 2 3, 2, 16, some (true, [cI 0, cI 0]), true⟩),
 (49, ⟨.struct [(0, 47), (2, 47)], 4, 32, some (true, [cI 0, cI 0, cI 0, cI 0]), true⟩),
 (96, ⟨.int .u64, 1, 8, some (false, [.int .u64 0]), false⟩),
 (122, ⟨.map 47 4, 1, 8, some (false, [.any]), false⟩),
 (124, ⟨.slice 4, 1, 24, some (false, [.nil]), false⟩),
 (128, ⟨.map 47 3, 1, 8, some (false, [.any]), false⟩)]
theorem T_ok : TabOK Try.prog T := ⟨by kernel_rfl, by kernel_rfl, by kernel_rfl, by kernel_rfl, by kernel_rfl, by kernel_rfl, by kernel_rfl, by kernel_rfl, by kernel_rfl, by kernel_rfl, by kernel_rfl, by kernel_rfl, by kernel_rfl, by kernel_rfl, by kernel_rfl, by kernel_rfl, by kernel_rfl, trivial⟩
theorem mixed : Try.prog.follows .mixedOrders = true := by kernel_rfl
abbrev Tq0 : Ty := (.sl false (.int .i64))
abbrev Tq1 : Ty := (.pair (.int .i64) (.int .i64))
abbrev Tq2 : Ty := (.sl false Tq1)
abbrev Tq3 : Ty := (.pair (.int .i64) Tq1)
abbrev Tq4 : Ty := (.sl false Tq3)
abbrev Tq5 : Ty := (.pair Tq2 Tq4)
abbrev Td6 : Type := (List (Int × Int))
abbrev Td7 : Type := (Int × (Int × Int))
abbrev Td8 : Type := (Td6 × (List Td7))
abbrev Td9 : Type := (List ((Int × Int) × Int))
abbrev Tq10 : Ty := (.map Tq1 (.int .i64))
abbrev Td11 : Type := (List ((Int × Int) × Bool))
abbrev Tq12 : Ty := (.map Tq1 .bool)
abbrev Tq13 : Ty := (.sl false .bool)
abbrev Tq14 : Ty := (.pair (.ptr Tq5) (.ptr Tq1))
abbrev Tq15 : Ty := (.clo 54 Tq14)
abbrev Td16 : Type := (Td8 × (Int × Int))
abbrev Tq17 : Ty := (.pair Tq1 Tq1)
abbrev Td18 : Type := ((Int × Int) × (Int × Int))
abbrev Tq19 : Ty := (.sl false Tq17)
def f101_c : Code := Try.f101.body.getD .skip
abbrev f101_p (n : Nat) : Code := sb f101_c n
abbrev f101_sig : List PT := [(false, (.int .i64))]
abbrev f101_rs : List RT := [.d false .bool]
abbrev f101_ts : List RV := [.tmp 2]
abbrev f101_S := St → Option (RDL f101_rs)
abbrev f101_L := List (Fr (RDL f101_rs))
def f101_Y : Tys := []
def f101_E (k : Nat) : Env := []
def f101_A : Ann := {}
abbrev f101_a (k : Nat) (F : f101_L) : Kont (RDL f101_rs) := ap T f101_Y (f101_E k) f101_A k (Kfin T f101_rs f101_ts) F
def f101_entry_B (k : Nat) (a0 : Int) : Option (Bool × Unit) := some (decide (¬ (a0 = a0)), ())
theorem f101_entry_P (k : Nat) (xs : DL f101_sig) : f101_a k (.c (f101_p 1) 0 :: []) .nx (σ0 6 32 f101_sig xs) = f101_entry_B k xs.1 := by kernel_rfl
def f101 (k : Nat) (a0 : Int) : Option (Bool × Unit) := f101_entry_B k a0
theorem f101_eq (k : Nat) (xs : DL f101_sig) : den T f101_Y (f101_E k) f101_A k f101_c 0 (σ0 6 32 f101_sig xs) (Kfin T f101_rs f101_ts) = f101 k xs.1 :=
 Eq.trans (Eq.trans den_sb (ap_at (ap_cons _ rfl) _)) ((f101_entry_P k xs).trans (by rfl))
def f101_con (k : Nat) : Con := ⟨f101_sig, f101_rs, fun xs => f101 k xs.1⟩
theorem f101_ok (k : Nat) : PureOK Try.prog 101 f101_sig f101_rs (fun xs => f101 k xs.1) :=
 (pure_of_den (k := k) (A := f101_A) (T := T) (Y := f101_Y) (E := f101_E k) (M := 32) (ts := f101_ts) T_ok trivial trivial mixed (f := 101) (fn := Try.f101) (c := f101_c) (by kernel_rfl) (by kernel_rfl) (by kernel_rfl) (by decide) (by kernel_rfl)).congr fun xs => (f101_eq k xs).symm
theorem f101_ent : Ent Try.prog 101 := fun args w => by kernel_rfl
def f79_c : Code := Try.f79.body.getD .skip
abbrev f79_p (n : Nat) : Code := sb f79_c n
abbrev f79_sig : List PT := [(false, (.int .i64)), (false, (.int .i64))]
abbrev f79_rs : List RT := [.d false (.int .i64)]
abbrev f79_ts : List RV := [.tmp 4]
abbrev f79_S := St → Option (RDL f79_rs)
abbrev f79_L := List (Fr (RDL f79_rs))
def f79_Y : Tys := []
def f79_E (k : Nat) : Env := [(101, .c (f101_con k))]
def f79_A : Ann := {}
abbrev f79_a (k : Nat) (F : f79_L) : Kont (RDL f79_rs) := ap T f79_Y (f79_E k) f79_A k (Kfin T f79_rs f79_ts) F
def f79_entry_B (k : Nat) (a0 a1 : Int) : Option (Int × Unit) := ((f101 k a0).bind fun r1 => ((f101 k a1).bind fun r2 => (if r1.1 = true then (if r2.1 = true then some (0, ()) else some ((-1), ())) else (if r2.1 = true then some (1, ()) else (if a0 < a1 then some ((-1), ()) else (if a1 < a0 then some (1, ()) else some (0, ())))))))
theorem f79_entry_P (k : Nat) (xs : DL f79_sig) : f79_a k (.c (f79_p 1) 0 :: []) .nx (σ0 20 64 f79_sig xs) = f79_entry_B k xs.1 xs.2.1 := by kernel_rfl
def f79 (k : Nat) (a0 a1 : Int) : Option (Int × Unit) := f79_entry_B k a0 a1
theorem f79_eq (k : Nat) (xs : DL f79_sig) : den T f79_Y (f79_E k) f79_A k f79_c 0 (σ0 20 64 f79_sig xs) (Kfin T f79_rs f79_ts) = f79 k xs.1 xs.2.1 :=
 Eq.trans (Eq.trans den_sb (ap_at (ap_cons _ rfl) _)) ((f79_entry_P k xs).trans (by rfl))
def f79_con (k : Nat) : Con := ⟨f79_sig, f79_rs, fun xs => f79 k xs.1 xs.2.1⟩
theorem f79_ok (k : Nat) : PureOK Try.prog 79 f79_sig f79_rs (fun xs => f79 k xs.1 xs.2.1) :=
 (pure_of_den (k := k) (A := f79_A) (T := T) (Y := f79_Y) (E := f79_E k) (M := 64) (ts := f79_ts) T_ok ⟨f101_ok k, trivial⟩ ⟨f101_ent, trivial⟩ mixed (f := 79) (fn := Try.f79) (c := f79_c) (by kernel_rfl) (by kernel_rfl) (by kernel_rfl) (by decide) (by kernel_rfl)).congr fun xs => (f79_eq k xs).symm
theorem f79_ent : Ent Try.prog 79 := fun args w => by kernel_rfl
def f41_c : Code := Try.f41.body.getD .skip
abbrev f41_p (n : Nat) : Code := sb f41_c n
abbrev f41_sig : List PT := [(false, Tq0), (false, Tq0)]
abbrev f41_rs : List RT := [.d false (.int .i64)]
abbrev f41_ts : List RV := [.tmp 4]
abbrev f41_S := St → Option (RDL f41_rs)
abbrev f41_L := List (Fr (RDL f41_rs))
def f41_Y : Tys := []
def f41_E (k : Nat) : Env := [(79, .c (f79_con k))]
def f41_A : Ann := { loops := [(0, { slots := [(0, .val false (.int .i64)), (1, .val false (.int .i64)), (9, .val false (.int .i64)), (10, .id), (11, .id)] })] }
abbrev f41_a (k : Nat) (F : f41_L) : Kont (RDL f41_rs) := ap T f41_Y (f41_E k) f41_A k (Kfin T f41_rs f41_ts) F
def f41_s_l0 (x0 x1 : (List Int)) (x10 x11 : Int) : St := mkS 36 112 [(0, aV (.int .i64) x0), (1, aV (.int .i64) x1), (9, aV (.int .i64) x0), (10, aI x10), (11, aI x11)] []
abbrev f41_t_l0 := (List Int) → (List Int) → Int → Int → Option (Int × Unit)
abbrev f41_o_l0 (R : f41_S) : f41_t_l0 := (fun x0 x1 x10 x11 => R (f41_s_l0 x0 x1 x10 x11))
def f41_Q_l0 (k : Nat) (R_l0 : f41_S) : f41_L := [.c (f41_p 52) 0, .j (fun σ => R_l0 (cut f41_A.loops 0 σ)), .blk 0, .c (f41_p 7) 0]
def f41_C_l0 (k n : Nat) (σ : St) : Option (RDL f41_rs) := loopK (fun σ K => den T f41_Y (f41_E k) f41_A k (f41_p 52) 0 σ K) (cut f41_A.loops 0) (f41_a k [.blk 0, .c (f41_p 7) 0]) n σ
def f41_F_l0 (k : Nat) (G_l0 : f41_S) : f41_L := .c (f41_p 52) 0 :: .j (fun σ => G_l0 (cut f41_A.loops 0 σ)) :: .blk 0 :: .c (f41_p 7) 0 :: []
theorem f41_f_l0 (k : Nat) (R_l0 : f41_S) : f41_a k (f41_Q_l0 k R_l0) = f41_a k (f41_F_l0 k R_l0) := (ap_cons _ (ap_cons _ (ap_cons _ (ap_cons _ rfl))))
def f41_entry_B (k : Nat) (g_l0 : f41_t_l0) (a0 a1 : (List Int)) : Option (Int × Unit) := (g_l0 a0 a1 (a0.length : Int) 0)
def f41_l0_B (k : Nat) (g_l0 : f41_t_l0) (x0 x1 : (List Int)) (x10 x11 : Int) : Option (Int × Unit) := (if x11 < x10 then (if 0 ≤ x11 then (if x11 < (x0.length : Int) then (if (x1.length : Int) ≤ x11 then some (1, ()) else (if 0 ≤ x11 then (if x11 < (x1.length : Int) then ((f79 k (x0.getD (x11).toNat 0) (x1.getD (x11).toNat 0)).bind fun r1 => (if ¬ (r1.1 = 0) then some (r1.1, ()) else (g_l0 x0 x1 x10 (w64 (x11 + 1))))) else none) else none)) else none) else none) else (if (x0.length : Int) < (x1.length : Int) then some ((-1), ()) else some (0, ())))
theorem f41_l0_P (k : Nat) (G_l0 : f41_S) : f41_o_l0 (fun σ => f41_a k (f41_F_l0 k G_l0) .nx σ) = f41_l0_B k (f41_o_l0 G_l0) := by kernel_rfl
def f41_l0 (k : Nat) : Nat → f41_t_l0
 | 0 => fun _ _ _ _ => none
 | n + 1 => f41_l0_B k (f41_l0 k n)
theorem f41_l0_E (k : Nat) : ∀ n, f41_o_l0 (f41_C_l0 k n) = f41_l0 k n
 | 0 => rfl
 | n + 1 =>
   Eq.trans (congrArg f41_o_l0 (Eq.trans (b := fun σ => f41_a k (f41_Q_l0 k (f41_C_l0 k n)) .nx σ) lp_step (ap_fn (f41_f_l0 k (f41_C_l0 k n))))) ((f41_l0_P k (f41_C_l0 k n)).trans (by rw [f41_l0_E k n] <;> rfl))
theorem f41_entry_P (k : Nat) (G_l0 : f41_S) (xs : DL f41_sig) : f41_a k (.c (f41_p 2) 0 :: .c (f41_p 12) 0 :: .j (fun σ => f41_a k (.j (fun σ => G_l0 (cut f41_A.loops 0 σ)) :: .blk 0 :: .c (f41_p 7) 0 :: []) .nx σ) :: .c (f41_p 7) 0 :: []) .nx (σ0 36 112 f41_sig xs) = f41_entry_B k (f41_o_l0 G_l0) xs.1 xs.2.1 := by kernel_rfl
def f41 (k : Nat) (a0 a1 : (List Int)) : Option (Int × Unit) := f41_entry_B k (f41_l0 k k) a0 a1
theorem f41_fe (k : Nat) : f41_a k [.c (f41_p 1) 0] = f41_a k (.c (f41_p 2) 0 :: .c (f41_p 12) 0 :: .j (fun σ => f41_a k (.j (fun σ => (f41_C_l0 k k) (cut f41_A.loops 0 σ)) :: .blk 0 :: .c (f41_p 7) 0 :: []) .nx σ) :: .c (f41_p 7) 0 :: []) := (Eq.trans ap_sq (ap_cons _ (Eq.trans ap_sq (Eq.trans ap_sq (ap_cons _ (Eq.trans (ap_bl 0) (Eq.trans (ap_j (Eq.trans (ap_lp (C := (f41_C_l0 k)) (fun _ _ => rfl)) (ap_cons _ (ap_cons _ (ap_cons _ rfl))))) (ap_cons _ (ap_cons _ rfl)))))))))
theorem f41_eq (k : Nat) (xs : DL f41_sig) : den T f41_Y (f41_E k) f41_A k f41_c 0 (σ0 36 112 f41_sig xs) (Kfin T f41_rs f41_ts) = f41 k xs.1 xs.2.1 :=
 Eq.trans (Eq.trans den_sb (ap_at (f41_fe k) _)) ((f41_entry_P k (f41_C_l0 k k) xs).trans (by rw [f41_l0_E k k] <;> rfl))
def f41_con (k : Nat) : Con := ⟨f41_sig, f41_rs, fun xs => f41 k xs.1 xs.2.1⟩
theorem f41_ok (k : Nat) : PureOK Try.prog 41 f41_sig f41_rs (fun xs => f41 k xs.1 xs.2.1) :=
 (pure_of_den (k := k) (A := f41_A) (T := T) (Y := f41_Y) (E := f41_E k) (M := 112) (ts := f41_ts) T_ok ⟨f79_ok k, trivial⟩ ⟨f79_ent, trivial⟩ mixed (f := 41) (fn := Try.f41) (c := f41_c) (by kernel_rfl) (by kernel_rfl) (by kernel_rfl) (by decide) (by kernel_rfl)).congr fun xs => (f41_eq k xs).symm
theorem f41_ent : Ent Try.prog 41 := fun args w => by kernel_rfl
def f89_c : Code := Try.f89.body.getD .skip
abbrev f89_p (n : Nat) : Code := sb f89_c n
abbrev f89_sig : List PT := [(false, (.int .i64)), (false, (.int .i64))]
abbrev f89_rs : List RT := [.d false (.int .i64)]
abbrev f89_ts : List RV := [.tmp 4]
abbrev f89_S := St → Option (RDL f89_rs)
abbrev f89_L := List (Fr (RDL f89_rs))
def f89_Y : Tys := []
def f89_E (k : Nat) : Env := []
def f89_A : Ann := {}
abbrev f89_a (k : Nat) (F : f89_L) : Kont (RDL f89_rs) := ap T f89_Y (f89_E k) f89_A k (Kfin T f89_rs f89_ts) F
def f89_entry_B (k : Nat) (a0 a1 : Int) : Option (Int × Unit) := some ((mx2 true (w64 (0 - a1)) (mx2 false a0 a1)), ())
theorem f89_entry_P (k : Nat) (xs : DL f89_sig) : f89_a k (.c (f89_p 1) 0 :: []) .nx (σ0 11 48 f89_sig xs) = f89_entry_B k xs.1 xs.2.1 := by kernel_rfl
def f89 (k : Nat) (a0 a1 : Int) : Option (Int × Unit) := f89_entry_B k a0 a1
theorem f89_eq (k : Nat) (xs : DL f89_sig) : den T f89_Y (f89_E k) f89_A k f89_c 0 (σ0 11 48 f89_sig xs) (Kfin T f89_rs f89_ts) = f89 k xs.1 xs.2.1 :=
 Eq.trans (Eq.trans den_sb (ap_at (ap_cons _ rfl) _)) ((f89_entry_P k xs).trans (by rfl))
def f89_con (k : Nat) : Con := ⟨f89_sig, f89_rs, fun xs => f89 k xs.1 xs.2.1⟩
theorem f89_ok (k : Nat) : PureOK Try.prog 89 f89_sig f89_rs (fun xs => f89 k xs.1 xs.2.1) :=
 (pure_of_den (k := k) (A := f89_A) (T := T) (Y := f89_Y) (E := f89_E k) (M := 48) (ts := f89_ts) T_ok trivial trivial mixed (f := 89) (fn := Try.f89) (c := f89_c) (by kernel_rfl) (by kernel_rfl) (by kernel_rfl) (by decide) (by kernel_rfl)).congr fun xs => (f89_eq k xs).symm
theorem f89_ent : Ent Try.prog 89 := fun args w => by kernel_rfl
def f56_c : Code := Try.f56.body.getD .skip
abbrev f56_p (n : Nat) : Code := sb f56_c n
abbrev f56_sig : List PT := [(true, Tq1)]
abbrev f56_rs : List RT := [.d true Tq1]
abbrev f56_ts : List RV := [.cell 2 28]
abbrev f56_S := St → Option (RDL f56_rs)
abbrev f56_L := List (Fr (RDL f56_rs))
def f56_Y : Tys := []
def f56_E (k : Nat) : Env := [(89, .c (f89_con k))]
def f56_A : Ann := {}
abbrev f56_a (k : Nat) (F : f56_L) : Kont (RDL f56_rs) := ap T f56_Y (f56_E k) f56_A k (Kfin T f56_rs f56_ts) F
def f56_entry_B (k : Nat) (a0 : (Int × Int)) : Option ((Int × Int) × Unit) := ((f89 k a0.1 1048576).bind fun r1 => ((f89 k a0.2 1048576).bind fun r2 => some ((r1.1, r2.1), ())))
theorem f56_entry_P (k : Nat) (xs : DL f56_sig) : f56_a k (.c (f56_p 1) 0 :: []) .nx (σ0 10 32 f56_sig xs) = f56_entry_B k xs.1 := by kernel_rfl
def f56 (k : Nat) (a0 : (Int × Int)) : Option ((Int × Int) × Unit) := f56_entry_B k a0
theorem f56_eq (k : Nat) (xs : DL f56_sig) : den T f56_Y (f56_E k) f56_A k f56_c 0 (σ0 10 32 f56_sig xs) (Kfin T f56_rs f56_ts) = f56 k xs.1 :=
 Eq.trans (Eq.trans den_sb (ap_at (ap_cons _ rfl) _)) ((f56_entry_P k xs).trans (by rfl))
def f56_con (k : Nat) : Con := ⟨f56_sig, f56_rs, fun xs => f56 k xs.1⟩
theorem f56_ok (k : Nat) : PureOK Try.prog 56 f56_sig f56_rs (fun xs => f56 k xs.1) :=
 (pure_of_den (k := k) (A := f56_A) (T := T) (Y := f56_Y) (E := f56_E k) (M := 32) (ts := f56_ts) T_ok ⟨f89_ok k, trivial⟩ ⟨f89_ent, trivial⟩ mixed (f := 56) (fn := Try.f56) (c := f56_c) (by kernel_rfl) (by kernel_rfl) (by kernel_rfl) (by decide) (by kernel_rfl)).congr fun xs => (f56_eq k xs).symm
theorem f56_ent : Ent Try.prog 56 := fun args w => by kernel_rfl
def f49_c : Code := Try.f49.body.getD .skip
abbrev f49_p (n : Nat) : Code := sb f49_c n
abbrev f49_sig : List PT := [(true, Tq1)]
abbrev f49_rs : List RT := [.d false .bool]
abbrev f49_ts : List RV := [.tmp 2]
abbrev f49_S := St → Option (RDL f49_rs)
abbrev f49_L := List (Fr (RDL f49_rs))
def f49_Y : Tys := []
def f49_E (k : Nat) : Env := [(56, .c (f56_con k))]
def f49_A : Ann := {}
abbrev f49_a (k : Nat) (F : f49_L) : Kont (RDL f49_rs) := ap T f49_Y (f49_E k) f49_A k (Kfin T f49_rs f49_ts) F
def f49_entry_B (k : Nat) (a0 : (Int × Int)) : Option (Bool × Unit) := ((f56 k (a0.1, a0.2)).bind fun r1 => some (decide ((a0.1 = r1.1.1) ∧ (a0.2 = r1.1.2)), ()))
theorem f49_entry_P (k : Nat) (xs : DL f49_sig) : f49_a k (.c (f49_p 1) 0 :: []) .nx (σ0 7 32 f49_sig xs) = f49_entry_B k xs.1 := by kernel_rfl
def f49 (k : Nat) (a0 : (Int × Int)) : Option (Bool × Unit) := f49_entry_B k a0
theorem f49_eq (k : Nat) (xs : DL f49_sig) : den T f49_Y (f49_E k) f49_A k f49_c 0 (σ0 7 32 f49_sig xs) (Kfin T f49_rs f49_ts) = f49 k xs.1 :=
 Eq.trans (Eq.trans den_sb (ap_at (ap_cons _ rfl) _)) ((f49_entry_P k xs).trans (by rfl))
def f49_con (k : Nat) : Con := ⟨f49_sig, f49_rs, fun xs => f49 k xs.1⟩
theorem f49_ok (k : Nat) : PureOK Try.prog 49 f49_sig f49_rs (fun xs => f49 k xs.1) :=
 (pure_of_den (k := k) (A := f49_A) (T := T) (Y := f49_Y) (E := f49_E k) (M := 32) (ts := f49_ts) T_ok ⟨f56_ok k, trivial⟩ ⟨f56_ent, trivial⟩ mixed (f := 49) (fn := Try.f49) (c := f49_c) (by kernel_rfl) (by kernel_rfl) (by kernel_rfl) (by decide) (by kernel_rfl)).congr fun xs => (f49_eq k xs).symm
theorem f49_ent : Ent Try.prog 49 := fun args w => by kernel_rfl
def f84_c : Code := Try.f84.body.getD .skip
abbrev f84_p (n : Nat) : Code := sb f84_c n
abbrev f84_sig : List PT := [(true, Tq1), (true, Tq1)]
abbrev f84_rs : List RT := [.d true Tq1]
abbrev f84_ts : List RV := [.cell 4 28]
abbrev f84_S := St → Option (RDL f84_rs)
abbrev f84_L := List (Fr (RDL f84_rs))
def f84_Y : Tys := []
def f84_E (k : Nat) : Env := [(56, .c (f56_con k))]
def f84_A : Ann := {}
abbrev f84_a (k : Nat) (F : f84_L) : Kont (RDL f84_rs) := ap T f84_Y (f84_E k) f84_A k (Kfin T f84_rs f84_ts) F
def f84_entry_B (k : Nat) (a0 a1 : (Int × Int)) : Option ((Int × Int) × Unit) := ((f56 k (a0.1, a0.2)).bind fun r1 => ((f56 k (a1.1, a1.2)).bind fun r2 => some ((w64 (r2.1.1 - r1.1.1), w64 (r2.1.2 - r1.1.2)), ())))
theorem f84_entry_P (k : Nat) (xs : DL f84_sig) : f84_a k (.c (f84_p 1) 0 :: []) .nx (σ0 20 64 f84_sig xs) = f84_entry_B k xs.1 xs.2.1 := by kernel_rfl
def f84 (k : Nat) (a0 a1 : (Int × Int)) : Option ((Int × Int) × Unit) := f84_entry_B k a0 a1
theorem f84_eq (k : Nat) (xs : DL f84_sig) : den T f84_Y (f84_E k) f84_A k f84_c 0 (σ0 20 64 f84_sig xs) (Kfin T f84_rs f84_ts) = f84 k xs.1 xs.2.1 :=
 Eq.trans (Eq.trans den_sb (ap_at (ap_cons _ rfl) _)) ((f84_entry_P k xs).trans (by rfl))
def f84_con (k : Nat) : Con := ⟨f84_sig, f84_rs, fun xs => f84 k xs.1 xs.2.1⟩
theorem f84_ok (k : Nat) : PureOK Try.prog 84 f84_sig f84_rs (fun xs => f84 k xs.1 xs.2.1) :=
 (pure_of_den (k := k) (A := f84_A) (T := T) (Y := f84_Y) (E := f84_E k) (M := 64) (ts := f84_ts) T_ok ⟨f56_ok k, trivial⟩ ⟨f56_ent, trivial⟩ mixed (f := 84) (fn := Try.f84) (c := f84_c) (by kernel_rfl) (by kernel_rfl) (by kernel_rfl) (by decide) (by kernel_rfl)).congr fun xs => (f84_eq k xs).symm
theorem f84_ent : Ent Try.prog 84 := fun args w => by kernel_rfl
def f50_c : Code := Try.f50.body.getD .skip
abbrev f50_p (n : Nat) : Code := sb f50_c n
abbrev f50_sig : List PT := [(true, Tq1), (true, Tq1), (true, Tq1)]
abbrev f50_rs : List RT := [.d false (.int .i64)]
abbrev f50_ts : List RV := [.tmp 6]
abbrev f50_S := St → Option (RDL f50_rs)
abbrev f50_L := List (Fr (RDL f50_rs))
def f50_Y : Tys := []
def f50_E (k : Nat) : Env := [(84, .c (f84_con k))]
def f50_A : Ann := {}
abbrev f50_a (k : Nat) (F : f50_L) : Kont (RDL f50_rs) := ap T f50_Y (f50_E k) f50_A k (Kfin T f50_rs f50_ts) F
def f50_entry_B (k : Nat) (a0 a1 a2 : (Int × Int)) : Option (Int × Unit) := ((f84 k (a0.1, a0.2) (a1.1, a1.2)).bind fun r1 => ((f84 k (a0.1, a0.2) (a2.1, a2.2)).bind fun r2 => some (w64 ((w64 (r1.1.1 * r2.1.2)) - (w64 (r1.1.2 * r2.1.1))), ())))
theorem f50_entry_P (k : Nat) (xs : DL f50_sig) : f50_a k (.c (f50_p 1) 0 :: []) .nx (σ0 26 80 f50_sig xs) = f50_entry_B k xs.1 xs.2.1 xs.2.2.1 := by kernel_rfl
def f50 (k : Nat) (a0 a1 a2 : (Int × Int)) : Option (Int × Unit) := f50_entry_B k a0 a1 a2
theorem f50_eq (k : Nat) (xs : DL f50_sig) : den T f50_Y (f50_E k) f50_A k f50_c 0 (σ0 26 80 f50_sig xs) (Kfin T f50_rs f50_ts) = f50 k xs.1 xs.2.1 xs.2.2.1 :=
 Eq.trans (Eq.trans den_sb (ap_at (ap_cons _ rfl) _)) ((f50_entry_P k xs).trans (by rfl))
def f50_con (k : Nat) : Con := ⟨f50_sig, f50_rs, fun xs => f50 k xs.1 xs.2.1 xs.2.2.1⟩
theorem f50_ok (k : Nat) : PureOK Try.prog 50 f50_sig f50_rs (fun xs => f50 k xs.1 xs.2.1 xs.2.2.1) :=
 (pure_of_den (k := k) (A := f50_A) (T := T) (Y := f50_Y) (E := f50_E k) (M := 80) (ts := f50_ts) T_ok ⟨f84_ok k, trivial⟩ ⟨f84_ent, trivial⟩ mixed (f := 50) (fn := Try.f50) (c := f50_c) (by kernel_rfl) (by kernel_rfl) (by kernel_rfl) (by decide) (by kernel_rfl)).congr fun xs => (f50_eq k xs).symm
theorem f50_ent : Ent Try.prog 50 := fun args w => by kernel_rfl
def f55_c : Code := Try.f55.body.getD .skip
abbrev f55_p (n : Nat) : Code := sb f55_c n
abbrev f55_sig : List PT := [(true, Tq1), (true, Tq1), (true, Tq1)]
abbrev f55_rs : List RT := [.d false (.int .i64)]
abbrev f55_ts : List RV := [.tmp 6]
abbrev f55_S := St → Option (RDL f55_rs)
abbrev f55_L := List (Fr (RDL f55_rs))
def f55_Y : Tys := []
def f55_E (k : Nat) : Env := [(50, .c (f50_con k)), (79, .c (f79_con k))]
def f55_A : Ann := {}
abbrev f55_a (k : Nat) (F : f55_L) : Kont (RDL f55_rs) := ap T f55_Y (f55_E k) f55_A k (Kfin T f55_rs f55_ts) F
def f55_entry_B (k : Nat) (a0 a1 a2 : (Int × Int)) : Option (Int × Unit) := ((f50 k (a0.1, a0.2) (a1.1, a1.2) (a2.1, a2.2)).bind fun r1 => ((f79 k r1.1 0).bind fun r2 => some (r2.1, ())))
theorem f55_entry_P (k : Nat) (xs : DL f55_sig) : f55_a k (.c (f55_p 1) 0 :: []) .nx (σ0 12 48 f55_sig xs) = f55_entry_B k xs.1 xs.2.1 xs.2.2.1 := by kernel_rfl
def f55 (k : Nat) (a0 a1 a2 : (Int × Int)) : Option (Int × Unit) := f55_entry_B k a0 a1 a2
theorem f55_eq (k : Nat) (xs : DL f55_sig) : den T f55_Y (f55_E k) f55_A k f55_c 0 (σ0 12 48 f55_sig xs) (Kfin T f55_rs f55_ts) = f55 k xs.1 xs.2.1 xs.2.2.1 :=
 Eq.trans (Eq.trans den_sb (ap_at (ap_cons _ rfl) _)) ((f55_entry_P k xs).trans (by rfl))
def f55_con (k : Nat) : Con := ⟨f55_sig, f55_rs, fun xs => f55 k xs.1 xs.2.1 xs.2.2.1⟩
theorem f55_ok (k : Nat) : PureOK Try.prog 55 f55_sig f55_rs (fun xs => f55 k xs.1 xs.2.1 xs.2.2.1) :=
 (pure_of_den (k := k) (A := f55_A) (T := T) (Y := f55_Y) (E := f55_E k) (M := 48) (ts := f55_ts) T_ok ⟨f50_ok k, f79_ok k, trivial⟩ ⟨f50_ent, f79_ent, trivial⟩ mixed (f := 55) (fn := Try.f55) (c := f55_c) (by kernel_rfl) (by kernel_rfl) (by kernel_rfl) (by decide) (by kernel_rfl)).congr fun xs => (f55_eq k xs).symm
theorem f55_ent : Ent Try.prog 55 := fun args w => by kernel_rfl
def f107_c : Code := Try.f107.body.getD .skip
abbrev f107_p (n : Nat) : Code := sb f107_c n
abbrev f107_sig : List PT := [(true, Tq1), (true, Tq1)]
abbrev f107_rs : List RT := [.d false (.int .i64)]
abbrev f107_ts : List RV := [.tmp 4]
abbrev f107_S := St → Option (RDL f107_rs)
abbrev f107_L := List (Fr (RDL f107_rs))
def f107_Y : Tys := []
def f107_E (k : Nat) : Env := [(79, .c (f79_con k))]
def f107_A : Ann := {}
abbrev f107_a (k : Nat) (F : f107_L) : Kont (RDL f107_rs) := ap T f107_Y (f107_E k) f107_A k (Kfin T f107_rs f107_ts) F
def f107_entry_B (k : Nat) (a0 a1 : (Int × Int)) : Option (Int × Unit) := ((f79 k a0.1 a1.1).bind fun r1 => (if ¬ (r1.1 = 0) then some (r1.1, ()) else ((f79 k a0.2 a1.2).bind fun r2 => some (r2.1, ()))))
theorem f107_entry_P (k : Nat) (xs : DL f107_sig) : f107_a k (.c (f107_p 1) 0 :: []) .nx (σ0 19 64 f107_sig xs) = f107_entry_B k xs.1 xs.2.1 := by kernel_rfl
def f107 (k : Nat) (a0 a1 : (Int × Int)) : Option (Int × Unit) := f107_entry_B k a0 a1
theorem f107_eq (k : Nat) (xs : DL f107_sig) : den T f107_Y (f107_E k) f107_A k f107_c 0 (σ0 19 64 f107_sig xs) (Kfin T f107_rs f107_ts) = f107 k xs.1 xs.2.1 :=
 Eq.trans (Eq.trans den_sb (ap_at (ap_cons _ rfl) _)) ((f107_entry_P k xs).trans (by rfl))
def f107_con (k : Nat) : Con := ⟨f107_sig, f107_rs, fun xs => f107 k xs.1 xs.2.1⟩
theorem f107_ok (k : Nat) : PureOK Try.prog 107 f107_sig f107_rs (fun xs => f107 k xs.1 xs.2.1) :=
 (pure_of_den (k := k) (A := f107_A) (T := T) (Y := f107_Y) (E := f107_E k) (M := 64) (ts := f107_ts) T_ok ⟨f79_ok k, trivial⟩ ⟨f79_ent, trivial⟩ mixed (f := 107) (fn := Try.f107) (c := f107_c) (by kernel_rfl) (by kernel_rfl) (by kernel_rfl) (by decide) (by kernel_rfl)).congr fun xs => (f107_eq k xs).symm
theorem f107_ent : Ent Try.prog 107 := fun args w => by kernel_rfl
def f85_c : Code := Try.f85.body.getD .skip
abbrev f85_p (n : Nat) : Code := sb f85_c n
abbrev f85_sig : List PT := [(true, Tq5)]
abbrev f85_rs : List RT := [.d false (.int .i64)]
abbrev f85_ts : List RV := [.tmp 2]
abbrev f85_S := St → Option (RDL f85_rs)
abbrev f85_L := List (Fr (RDL f85_rs))
def f85_Y : Tys := [(38, Tq3)]
def f85_E (k : Nat) : Env := [(41, .c (f41_con k)), (49, .c (f49_con k)), (55, .c (f55_con k)), (107, .c (f107_con k))]
def f85_A : Ann := { regs := [(1, { slots := [(1, .id), (19, .bool)], keys := [(1, [.val false Tq1, .val false Tq3])] }), (20, { slots := [(1, .id), (6, .id), (7, .id), (52, .val false Tq3), (53, .id), (54, .id), (59, .id), (60, .id), (71, .bool)], keys := [(1, [.val false Tq1, .val false Tq3]), (7, [])] }), (23, { fbs := [(7, Tq3)], slots := [(1, .id), (7, .id), (52, .val false Tq3), (53, .id), (54, .id), (99, .bool)], keys := [(1, [.val false Tq1, .val false Tq3]), (7, [])] })], loops := [(0, { slots := [(1, .id), (21, .val false Tq1), (22, .id), (23, .id)], keys := [(1, [.val false Tq1, .val false Tq3])] }), (2, { slots := [(1, .id), (5, .id)], keys := [(1, [.val false Tq1, .val false Tq3])] }), (4, { slots := [(1, .id), (52, .val false Tq3), (53, .id), (54, .id)], keys := [(1, [.val false Tq1, .val false Tq3])] }), (6, { slots := [(1, .id), (6, .id), (7, .id), (52, .val false Tq3), (53, .id), (54, .id), (59, .id), (60, .id)], keys := [(1, [.val false Tq1, .val false Tq3]), (7, [])] })] }
abbrev f85_a (k : Nat) (F : f85_L) : Kont (RDL f85_rs) := ap T f85_Y (f85_E k) f85_A k (Kfin T f85_rs f85_ts) F
def f85_s_r1 (y1_0 : (List (Int × Int))) (y1_1 : (List (Int × (Int × Int)))) (x19 : Bool) : St := mkS 121 368 [(1, aP 1), (19, aB x19)] [(1, .box [cV Tq1 y1_0, cV Tq3 y1_1])]
abbrev f85_t_r1 := (List (Int × Int)) → (List (Int × (Int × Int))) → Bool → Option (Int × Unit)
abbrev f85_o_r1 (R : f85_S) : f85_t_r1 := (fun y1_0 y1_1 x19 => R (f85_s_r1 y1_0 y1_1 x19))
def f85_Q_r1 (k : Nat) : f85_L := [.c (f85_p 13) 0, .c (f85_p 7) 0]
def f85_C_r1 (k : Nat) : f85_S := fun σ => f85_a k (f85_Q_r1 k) .nx σ
def f85_s_l0 (y1_0 : (List (Int × Int))) (y1_1 : (List (Int × (Int × Int)))) (x22 x23 : Int) : St := mkS 121 368 [(1, aP 1), (21, aV Tq1 y1_0), (22, aI x22), (23, aI x23)] [(1, .box [cV Tq1 y1_0, cV Tq3 y1_1])]
abbrev f85_t_l0 := (List (Int × Int)) → (List (Int × (Int × Int))) → Int → Int → Option (Int × Unit)
abbrev f85_o_l0 (R : f85_S) : f85_t_l0 := (fun y1_0 y1_1 x22 x23 => R (f85_s_l0 y1_0 y1_1 x22 x23))
def f85_Q_l0 (k : Nat) (R_l0 : f85_S) : f85_L := [.c (f85_p 116) 0, .j (fun σ => R_l0 (cut f85_A.loops 0 σ)), .blk 0, .c (f85_p 15) 0]
def f85_C_l0 (k n : Nat) (σ : St) : Option (RDL f85_rs) := loopK (fun σ K => den T f85_Y (f85_E k) f85_A k (f85_p 116) 0 σ K) (cut f85_A.loops 0) (f85_a k [.blk 0, .c (f85_p 15) 0]) n σ
def f85_s_l2 (y1_0 : (List (Int × Int))) (y1_1 : (List (Int × (Int × Int)))) (x5 : Int) : St := mkS 121 368 [(1, aP 1), (5, aI x5)] [(1, .box [cV Tq1 y1_0, cV Tq3 y1_1])]
abbrev f85_t_l2 := (List (Int × Int)) → (List (Int × (Int × Int))) → Int → Option (Int × Unit)
abbrev f85_o_l2 (R : f85_S) : f85_t_l2 := (fun y1_0 y1_1 x5 => R (f85_s_l2 y1_0 y1_1 x5))
def f85_Q_l2 (k : Nat) (R_l2 : f85_S) : f85_L := [.c (f85_p 244) 2, .j (fun σ => R_l2 (cut f85_A.loops 2 σ)), .blk 2, .c (f85_p 31) 0]
def f85_C_l2 (k n : Nat) (σ : St) : Option (RDL f85_rs) := loopK (fun σ K => den T f85_Y (f85_E k) f85_A k (f85_p 244) 2 σ K) (cut f85_A.loops 2) (f85_a k [.blk 2, .c (f85_p 31) 0]) n σ
def f85_s_l4 (y1_0 : (List (Int × Int))) (y1_1 : (List (Int × (Int × Int)))) (x53 x54 : Int) : St := mkS 121 368 [(1, aP 1), (52, aV Tq3 y1_1), (53, aI x53), (54, aI x54)] [(1, .box [cV Tq1 y1_0, cV Tq3 y1_1])]
abbrev f85_t_l4 := (List (Int × Int)) → (List (Int × (Int × Int))) → Int → Int → Option (Int × Unit)
abbrev f85_o_l4 (R : f85_S) : f85_t_l4 := (fun y1_0 y1_1 x53 x54 => R (f85_s_l4 y1_0 y1_1 x53 x54))
def f85_Q_l4 (k : Nat) (R_l4 : f85_S) : f85_L := [.c (f85_p 500) 4, .j (fun σ => R_l4 (cut f85_A.loops 4 σ)), .blk 4, .c (f85_p 63) 0]
def f85_C_l4 (k n : Nat) (σ : St) : Option (RDL f85_rs) := loopK (fun σ K => den T f85_Y (f85_E k) f85_A k (f85_p 500) 4 σ K) (cut f85_A.loops 4) (f85_a k [.blk 4, .c (f85_p 63) 0]) n σ
def f85_s_l6 (y1_0 : (List (Int × Int))) (y1_1 : (List (Int × (Int × Int)))) (y7_0 y7_1 y7_2 x53 x54 x60 : Int) : St := mkS 121 368 [(1, aP 1), (6, aI x54), (7, aP 7), (52, aV Tq3 y1_1), (53, aI x53), (54, aI x54), (59, .cp (.agg [cI y7_0, cI y7_1, cI y7_2])), (60, aI x60)] [(1, .box [cV Tq1 y1_0, cV Tq3 y1_1]), (7, .box [cI y7_0, cI y7_1, cI y7_2])]
abbrev f85_t_l6 := (List (Int × Int)) → (List (Int × (Int × Int))) → Int → Int → Int → Int → Int → Int → Option (Int × Unit)
abbrev f85_o_l6 (R : f85_S) : f85_t_l6 := (fun y1_0 y1_1 y7_0 y7_1 y7_2 x53 x54 x60 => R (f85_s_l6 y1_0 y1_1 y7_0 y7_1 y7_2 x53 x54 x60))
def f85_Q_l6 (k : Nat) (R_l4 R_l6 : f85_S) : f85_L := [.c (f85_p 256404) 6, .j (fun σ => R_l6 (cut f85_A.loops 6 σ)), .blk 6, .c (f85_p 32051) 5, .blk 5, .c (f85_p 4007) 4, .j (fun σ => R_l4 (cut f85_A.loops 4 σ)), .blk 4, .c (f85_p 63) 0]
def f85_C_l6 (k : Nat) (R_l4 : f85_S) (n : Nat) (σ : St) : Option (RDL f85_rs) := loopK (fun σ K => den T f85_Y (f85_E k) f85_A k (f85_p 256404) 6 σ K) (cut f85_A.loops 6) (f85_a k [.blk 6, .c (f85_p 32051) 5, .blk 5, .c (f85_p 4007) 4, .j (fun σ => R_l4 (cut f85_A.loops 4 σ)), .blk 4, .c (f85_p 63) 0]) n σ
def f85_s_r20 (y1_0 : (List (Int × Int))) (y1_1 : (List (Int × (Int × Int)))) (y7_0 y7_1 y7_2 x53 x54 x60 : Int) (x71 : Bool) : St := mkS 121 368 [(1, aP 1), (6, aI x54), (7, aP 7), (52, aV Tq3 y1_1), (53, aI x53), (54, aI x54), (59, .cp (.agg [cI y7_0, cI y7_1, cI y7_2])), (60, aI x60), (71, aB x71)] [(1, .box [cV Tq1 y1_0, cV Tq3 y1_1]), (7, .box [cI y7_0, cI y7_1, cI y7_2])]
abbrev f85_t_r20 := (List (Int × Int)) → (List (Int × (Int × Int))) → Int → Int → Int → Int → Int → Int → Bool → Option (Int × Unit)
abbrev f85_o_r20 (R : f85_S) : f85_t_r20 := (fun y1_0 y1_1 y7_0 y7_1 y7_2 x53 x54 x60 x71 => R (f85_s_r20 y1_0 y1_1 y7_0 y7_1 y7_2 x53 x54 x60 x71))
def f85_Q_r20 (k : Nat) (R_l6 R_l4 : f85_S) : f85_L := [.c (f85_p 16409907) 7, .blk 7, .c (f85_p 2051239) 6, .j (fun σ => R_l6 (cut f85_A.loops 6 σ)), .blk 6, .c (f85_p 32051) 5, .blk 5, .c (f85_p 4007) 4, .j (fun σ => R_l4 (cut f85_A.loops 4 σ)), .blk 4, .c (f85_p 63) 0]
def f85_C_r20 (k : Nat) (R_l6 R_l4 : f85_S) : f85_S := fun σ => f85_a k (f85_Q_r20 k R_l6 R_l4) .nx σ
def f85_s_r23 (y1_0 : (List (Int × Int))) (y1_1 : (List (Int × (Int × Int)))) (y7 : (Int × (Int × Int))) (x53 x54 : Int) (x99 : Bool) : St := mkS 121 368 [(1, aP 1), (7, aP 7), (52, aV Tq3 y1_1), (53, aI x53), (54, aI x54), (99, aB x99)] [(1, .box [cV Tq1 y1_0, cV Tq3 y1_1]), (7, .fbox Tq3 y7)]
abbrev f85_t_r23 := (List (Int × Int)) → (List (Int × (Int × Int))) → (Int × (Int × Int)) → Int → Int → Bool → Option (Int × Unit)
abbrev f85_o_r23 (R : f85_S) : f85_t_r23 := (fun y1_0 y1_1 y7 x53 x54 x99 => R (f85_s_r23 y1_0 y1_1 y7 x53 x54 x99))
def f85_Q_r23 (k : Nat) (R_l4 : f85_S) : f85_L := [.c (f85_p 128205) 5, .c (f85_p 64103) 5, .blk 5, .c (f85_p 4007) 4, .j (fun σ => R_l4 (cut f85_A.loops 4 σ)), .blk 4, .c (f85_p 63) 0]
def f85_C_r23 (k : Nat) (R_l4 : f85_S) : f85_S := fun σ => f85_a k (f85_Q_r23 k R_l4) .nx σ
def f85_F_r1 (k : Nat) (G_l0 G_l2 G_l4 : f85_S) : f85_L := .c (f85_p 13) 0 :: .c (f85_p 28) 0 :: .j (fun σ => f85_a k (.j (fun σ => G_l0 (cut f85_A.loops 0 σ)) :: .blk 0 :: .c (f85_p 60) 0 :: .j (fun σ => f85_a k (.j (fun σ => G_l2 (cut f85_A.loops 2 σ)) :: .blk 2 :: .c (f85_p 124) 0 :: .j (fun σ => f85_a k (.j (fun σ => G_l4 (cut f85_A.loops 4 σ)) :: .blk 4 :: .c (f85_p 63) 0 :: []) .nx σ) :: .c (f85_p 63) 0 :: []) .nx σ) :: .c (f85_p 124) 0 :: .j (fun σ => f85_a k (.j (fun σ => G_l4 (cut f85_A.loops 4 σ)) :: .blk 4 :: .c (f85_p 63) 0 :: []) .nx σ) :: .c (f85_p 63) 0 :: []) .nx σ) :: .c (f85_p 60) 0 :: .j (fun σ => f85_a k (.j (fun σ => G_l2 (cut f85_A.loops 2 σ)) :: .blk 2 :: .c (f85_p 124) 0 :: .j (fun σ => f85_a k (.j (fun σ => G_l4 (cut f85_A.loops 4 σ)) :: .blk 4 :: .c (f85_p 63) 0 :: []) .nx σ) :: .c (f85_p 63) 0 :: []) .nx σ) :: .c (f85_p 124) 0 :: .j (fun σ => f85_a k (.j (fun σ => G_l4 (cut f85_A.loops 4 σ)) :: .blk 4 :: .c (f85_p 63) 0 :: []) .nx σ) :: .c (f85_p 63) 0 :: []
theorem f85_f_r1 (k : Nat) : f85_a k (f85_Q_r1 k) = f85_a k (f85_F_r1 k (f85_C_l0 k k) (f85_C_l2 k k) (f85_C_l4 k k)) := (ap_cons _ (Eq.trans ap_sq (Eq.trans ap_sq (ap_cons _ (Eq.trans (ap_bl 0) (Eq.trans (ap_j (Eq.trans (ap_lp (C := (f85_C_l0 k)) (fun _ _ => rfl)) (ap_cons _ (ap_cons _ (Eq.trans ap_sq (Eq.trans ap_sq (ap_cons _ (Eq.trans (ap_bl 2) (Eq.trans (ap_j (Eq.trans (ap_lp (C := (f85_C_l2 k)) (fun _ _ => rfl)) (ap_cons _ (ap_cons _ (Eq.trans ap_sq (Eq.trans ap_sq (ap_cons _ (Eq.trans (ap_bl 4) (Eq.trans (ap_j (Eq.trans (ap_lp (C := (f85_C_l4 k)) (fun _ _ => rfl)) (ap_cons _ (ap_cons _ (ap_cons _ rfl))))) (ap_cons _ (ap_cons _ rfl))))))))))) (ap_cons _ (Eq.trans ap_sq (Eq.trans ap_sq (ap_cons _ (Eq.trans (ap_bl 4) (Eq.trans (ap_j (Eq.trans (ap_lp (C := (f85_C_l4 k)) (fun _ _ => rfl)) (ap_cons _ (ap_cons _ (ap_cons _ rfl))))) (ap_cons _ (ap_cons _ rfl))))))))))))))))) (ap_cons _ (Eq.trans ap_sq (Eq.trans ap_sq (ap_cons _ (Eq.trans (ap_bl 2) (Eq.trans (ap_j (Eq.trans (ap_lp (C := (f85_C_l2 k)) (fun _ _ => rfl)) (ap_cons _ (ap_cons _ (Eq.trans ap_sq (Eq.trans ap_sq (ap_cons _ (Eq.trans (ap_bl 4) (Eq.trans (ap_j (Eq.trans (ap_lp (C := (f85_C_l4 k)) (fun _ _ => rfl)) (ap_cons _ (ap_cons _ (ap_cons _ rfl))))) (ap_cons _ (ap_cons _ rfl))))))))))) (ap_cons _ (Eq.trans ap_sq (Eq.trans ap_sq (ap_cons _ (Eq.trans (ap_bl 4) (Eq.trans (ap_j (Eq.trans (ap_lp (C := (f85_C_l4 k)) (fun _ _ => rfl)) (ap_cons _ (ap_cons _ (ap_cons _ rfl))))) (ap_cons _ (ap_cons _ rfl))))))))))))))))))))
def f85_F_l0 (k : Nat) (G_l0 G_l2 G_l4 : f85_S) : f85_L := .c (f85_p 116) 0 :: .j (fun σ => G_l0 (cut f85_A.loops 0 σ)) :: .blk 0 :: .c (f85_p 60) 0 :: .j (fun σ => f85_a k (.j (fun σ => G_l2 (cut f85_A.loops 2 σ)) :: .blk 2 :: .c (f85_p 124) 0 :: .j (fun σ => f85_a k (.j (fun σ => G_l4 (cut f85_A.loops 4 σ)) :: .blk 4 :: .c (f85_p 63) 0 :: []) .nx σ) :: .c (f85_p 63) 0 :: []) .nx σ) :: .c (f85_p 124) 0 :: .j (fun σ => f85_a k (.j (fun σ => G_l4 (cut f85_A.loops 4 σ)) :: .blk 4 :: .c (f85_p 63) 0 :: []) .nx σ) :: .c (f85_p 63) 0 :: []
theorem f85_f_l0 (k : Nat) (R_l0 : f85_S) : f85_a k (f85_Q_l0 k R_l0) = f85_a k (f85_F_l0 k R_l0 (f85_C_l2 k k) (f85_C_l4 k k)) := (ap_cons _ (ap_cons _ (ap_cons _ (Eq.trans ap_sq (Eq.trans ap_sq (ap_cons _ (Eq.trans (ap_bl 2) (Eq.trans (ap_j (Eq.trans (ap_lp (C := (f85_C_l2 k)) (fun _ _ => rfl)) (ap_cons _ (ap_cons _ (Eq.trans ap_sq (Eq.trans ap_sq (ap_cons _ (Eq.trans (ap_bl 4) (Eq.trans (ap_j (Eq.trans (ap_lp (C := (f85_C_l4 k)) (fun _ _ => rfl)) (ap_cons _ (ap_cons _ (ap_cons _ rfl))))) (ap_cons _ (ap_cons _ rfl))))))))))) (ap_cons _ (Eq.trans ap_sq (Eq.trans ap_sq (ap_cons _ (Eq.trans (ap_bl 4) (Eq.trans (ap_j (Eq.trans (ap_lp (C := (f85_C_l4 k)) (fun _ _ => rfl)) (ap_cons _ (ap_cons _ (ap_cons _ rfl))))) (ap_cons _ (ap_cons _ rfl))))))))))))))))
def f85_F_l2 (k : Nat) (G_l2 G_l4 : f85_S) : f85_L := .c (f85_p 244) 2 :: .j (fun σ => G_l2 (cut f85_A.loops 2 σ)) :: .blk 2 :: .c (f85_p 124) 0 :: .j (fun σ => f85_a k (.j (fun σ => G_l4 (cut f85_A.loops 4 σ)) :: .blk 4 :: .c (f85_p 63) 0 :: []) .nx σ) :: .c (f85_p 63) 0 :: []
theorem f85_f_l2 (k : Nat) (R_l2 : f85_S) : f85_a k (f85_Q_l2 k R_l2) = f85_a k (f85_F_l2 k R_l2 (f85_C_l4 k k)) := (ap_cons _ (ap_cons _ (ap_cons _ (Eq.trans ap_sq (Eq.trans ap_sq (ap_cons _ (Eq.trans (ap_bl 4) (Eq.trans (ap_j (Eq.trans (ap_lp (C := (f85_C_l4 k)) (fun _ _ => rfl)) (ap_cons _ (ap_cons _ (ap_cons _ rfl))))) (ap_cons _ (ap_cons _ rfl))))))))))
def f85_F_r23 (k : Nat) (G_l4 : f85_S) : f85_L := .c (f85_p 128205) 5 :: .c (f85_p 64103) 5 :: .blk 5 :: .c (f85_p 4007) 4 :: .j (fun σ => G_l4 (cut f85_A.loops 4 σ)) :: .blk 4 :: .c (f85_p 63) 0 :: []
theorem f85_f_r23 (k : Nat) (R_l4 : f85_S) : f85_a k (f85_Q_r23 k R_l4) = f85_a k (f85_F_r23 k R_l4) := (ap_cons _ (ap_cons _ (ap_cons _ (ap_cons _ (ap_cons _ (ap_cons _ (ap_cons _ rfl)))))))
def f85_F_l4 (k : Nat) (G_l4 G_l6 G_r23 : f85_S) : f85_L := .c (f85_p 1000) 4 :: .c (f85_p 2002) 4 :: .j (fun σ => f85_a k (.c (f85_p 16024) 5 :: .c (f85_p 64100) 5 :: .j (fun σ => f85_a k (.j (fun σ => G_l6 (cut f85_A.loops 6 σ)) :: .blk 6 :: .c (f85_p 128204) 5 :: .j G_r23 :: f85_F_r23 k G_l4) .nx σ) :: .c (f85_p 128204) 5 :: .j G_r23 :: f85_F_r23 k G_l4) .nx σ) :: .c (f85_p 4007) 4 :: .j (fun σ => G_l4 (cut f85_A.loops 4 σ)) :: .blk 4 :: .c (f85_p 63) 0 :: []
theorem f85_f_l4 (k : Nat) (R_l4 : f85_S) : f85_a k (f85_Q_l4 k R_l4) = f85_a k (f85_F_l4 k R_l4 (f85_C_l6 k R_l4 k) (f85_C_r23 k R_l4)) := (Eq.trans ap_sq (ap_cons _ (Eq.trans ap_sq (ap_cons _ (Eq.trans ap_sq (Eq.trans (ap_bl 5) (Eq.trans (ap_j (Eq.trans ap_sq (ap_cons _ (Eq.trans ap_sq (Eq.trans ap_sq (ap_cons _ (Eq.trans (ap_bl 6) (Eq.trans (ap_j (Eq.trans (ap_lp (C := (f85_C_l6 k R_l4)) (fun _ _ => rfl)) (ap_cons _ (ap_cons _ (Eq.trans ap_sq (Eq.trans ap_sq (ap_cons _ (Eq.trans (ap_pass (C := (f85_C_r23 k R_l4)) (fun _ => rfl)) (ap_cons _ (f85_f_r23 k R_l4)))))))))) (ap_cons _ (Eq.trans ap_sq (Eq.trans ap_sq (ap_cons _ (Eq.trans (ap_pass (C := (f85_C_r23 k R_l4)) (fun _ => rfl)) (ap_cons _ (f85_f_r23 k R_l4))))))))))))))) (ap_cons _ (ap_cons _ (ap_cons _ (ap_cons _ (ap_cons _ rfl))))))))))))
def f85_F_r20 (k : Nat) (G_l4 G_l6 G_r23 : f85_S) : f85_L := .c (f85_p 16409907) 7 :: .blk 7 :: .c (f85_p 2051239) 6 :: .j (fun σ => G_l6 (cut f85_A.loops 6 σ)) :: .blk 6 :: .c (f85_p 128204) 5 :: .j G_r23 :: f85_F_r23 k G_l4
theorem f85_f_r20 (k : Nat) (R_l6 R_l4 : f85_S) : f85_a k (f85_Q_r20 k R_l6 R_l4) = f85_a k (f85_F_r20 k R_l4 R_l6 (f85_C_r23 k R_l4)) := (ap_cons _ (ap_cons _ (ap_cons _ (ap_cons _ (ap_cons _ (Eq.trans ap_sq (Eq.trans ap_sq (ap_cons _ (Eq.trans (ap_pass (C := (f85_C_r23 k R_l4)) (fun _ => rfl)) (ap_cons _ (f85_f_r23 k R_l4)))))))))))
def f85_F_l6 (k : Nat) (G_l4 G_l6 G_r20 G_r23 : f85_S) : f85_L := .c (f85_p 512808) 6 :: .c (f85_p 1025618) 6 :: .j (fun σ => f85_a k (.c (f85_p 8204952) 7 :: .c (f85_p 16409906) 7 :: .j G_r20 :: f85_F_r20 k G_l4 G_l6 G_r23) .nx σ) :: .c (f85_p 2051239) 6 :: .j (fun σ => G_l6 (cut f85_A.loops 6 σ)) :: .blk 6 :: .c (f85_p 128204) 5 :: .j G_r23 :: f85_F_r23 k G_l4
theorem f85_f_l6 (k : Nat) (R_l4 R_l6 : f85_S) : f85_a k (f85_Q_l6 k R_l4 R_l6) = f85_a k (f85_F_l6 k R_l4 R_l6 (f85_C_r20 k R_l6 R_l4) (f85_C_r23 k R_l4)) := (Eq.trans ap_sq (ap_cons _ (Eq.trans ap_sq (ap_cons _ (Eq.trans ap_sq (Eq.trans (ap_bl 7) (Eq.trans (ap_j (Eq.trans ap_sq (ap_cons _ (Eq.trans ap_sq (ap_cons _ (Eq.trans (ap_pass (C := (f85_C_r20 k R_l6 R_l4)) (fun _ => rfl)) (ap_cons _ (f85_f_r20 k R_l6 R_l4)))))))) (ap_cons _ (ap_cons _ (ap_cons _ (ap_cons _ (Eq.trans ap_sq (Eq.trans ap_sq (ap_cons _ (Eq.trans (ap_pass (C := (f85_C_r23 k R_l4)) (fun _ => rfl)) (ap_cons _ (f85_f_r23 k R_l4)))))))))))))))))
def f85_entry_B (k : Nat) (g_r1 : f85_t_r1) (a0 : Td8) : Option (Int × Unit) := (if 200 < (a0.1.length : Int) then (g_r1 a0.1 a0.2 true) else (g_r1 a0.1 a0.2 (decide (400 < (a0.2.length : Int)))))
def f85_r1_B (k : Nat) (g_l0 : f85_t_l0) (y1_0 : (List (Int × Int))) (y1_1 : (List (Int × (Int × Int)))) (x19 : Bool) : Option (Int × Unit) := (if x19 = true then some (2, ()) else (g_l0 y1_0 y1_1 (y1_0.length : Int) 0))
def f85_l0_B (k : Nat) (g_l0 : f85_t_l0) (g_l2 : f85_t_l2) (y1_0 : (List (Int × Int))) (y1_1 : (List (Int × (Int × Int)))) (x22 x23 : Int) : Option (Int × Unit) := (if x23 < x22 then (if 0 ≤ x23 then (if x23 < (y1_0.length : Int) then ((f49 k ((y1_0.getD (x23).toNat (0, 0)).1, (y1_0.getD (x23).toNat (0, 0)).2)).bind fun r1 => (if ¬ (r1.1 = true) then some (1, ()) else (g_l0 y1_0 y1_1 x22 (w64 (x23 + 1))))) else none) else none) else (g_l2 y1_0 y1_1 1))
def f85_l2_B (k : Nat) (g_l2 : f85_t_l2) (g_l4 : f85_t_l4) (y1_0 : (List (Int × Int))) (y1_1 : (List (Int × (Int × Int)))) (x5 : Int) : Option (Int × Unit) := (if x5 < (y1_0.length : Int) then (if 0 ≤ (w64 (x5 - 1)) then (if (w64 (x5 - 1)) < (y1_0.length : Int) then (if 0 ≤ x5 then (if x5 < (y1_0.length : Int) then ((f107 k ((y1_0.getD (w64 (x5 - 1)).toNat (0, 0)).1, (y1_0.getD (w64 (x5 - 1)).toNat (0, 0)).2) ((y1_0.getD (x5).toNat (0, 0)).1, (y1_0.getD (x5).toNat (0, 0)).2)).bind fun r1 => (if 0 ≤ r1.1 then some (9, ()) else (g_l2 y1_0 y1_1 (w64 (x5 + 1))))) else none) else none) else none) else none) else (g_l4 y1_0 y1_1 (y1_1.length : Int) 0))
def f85_l4_B (k : Nat) (g_l6 : f85_t_l6) (y1_0 : (List (Int × Int))) (y1_1 : (List (Int × (Int × Int)))) (x53 x54 : Int) : Option (Int × Unit) := (if x54 < x53 then (if 0 ≤ x54 then (if x54 < (y1_1.length : Int) then (g_l6 y1_0 y1_1 ((y1_1.getD (x54).toNat (0, (0, 0))).1) (((y1_1.getD (x54).toNat (0, (0, 0))).2).1) (((y1_1.getD (x54).toNat (0, (0, 0))).2).2) x53 x54 0) else none) else none) else some (0, ()))
def f85_l6_B (k : Nat) (g_r20 : f85_t_r20) (g_r23 : f85_t_r23) (y1_0 : (List (Int × Int))) (y1_1 : (List (Int × (Int × Int)))) (y7_0 y7_1 y7_2 x53 x54 x60 : Int) : Option (Int × Unit) := (if x60 < 3 then (if 0 ≤ x60 then (if x60 < (3 : Int) then (if (([y7_0, y7_1, y7_2] : List Int).getD ((x60).toNat) 0) < 0 then (g_r20 y1_0 y1_1 y7_0 y7_1 y7_2 x53 x54 x60 true) else (g_r20 y1_0 y1_1 y7_0 y7_1 y7_2 x53 x54 x60 (decide ((y1_0.length : Int) ≤ (([y7_0, y7_1, y7_2] : List Int).getD ((x60).toNat) 0))))) else none) else none) else (if y7_1 < y7_0 then (g_r23 y1_0 y1_1 (y7_0, (y7_1, y7_2)) x53 x54 true) else (if y7_2 < y7_0 then (g_r23 y1_0 y1_1 (y7_0, (y7_1, y7_2)) x53 x54 true) else (if 0 < x54 then (if 0 ≤ (w64 (x54 - 1)) then (if (w64 (x54 - 1)) < (y1_1.length : Int) then ((f41 k ([(y1_1.getD (w64 (x54 - 1)).toNat (0, (0, 0))).1, ((y1_1.getD (w64 (x54 - 1)).toNat (0, (0, 0))).2).1, ((y1_1.getD (w64 (x54 - 1)).toNat (0, (0, 0))).2).2]) ([y7_0, y7_1, y7_2])).bind fun r1 => (g_r23 y1_0 y1_1 (y7_0, (y7_1, y7_2)) x53 x54 (decide (0 ≤ r1.1)))) else none) else none) else (g_r23 y1_0 y1_1 (y7_0, (y7_1, y7_2)) x53 x54 false)))))
def f85_r20_B (k : Nat) (g_l6 : f85_t_l6) (y1_0 : (List (Int × Int))) (y1_1 : (List (Int × (Int × Int)))) (y7_0 y7_1 y7_2 x53 x54 x60 : Int) (x71 : Bool) : Option (Int × Unit) := (if x71 = true then some (1, ()) else (g_l6 y1_0 y1_1 y7_0 y7_1 y7_2 x53 x54 (w64 (x60 + 1))))
def f85_r23_B (k : Nat) (g_l4 : f85_t_l4) (y1_0 : (List (Int × Int))) (y1_1 : (List (Int × (Int × Int)))) (y7 : (Int × (Int × Int))) (x53 x54 : Int) (x99 : Bool) : Option (Int × Unit) := (if x99 = true then some (9, ()) else (if 0 ≤ y7.1 then (if y7.1 < (y1_0.length : Int) then (if 0 ≤ y7.2.1 then (if y7.2.1 < (y1_0.length : Int) then (if 0 ≤ y7.2.2 then (if y7.2.2 < (y1_0.length : Int) then ((f55 k ((y1_0.getD (y7.1).toNat (0, 0)).1, (y1_0.getD (y7.1).toNat (0, 0)).2) ((y1_0.getD (y7.2.1).toNat (0, 0)).1, (y1_0.getD (y7.2.1).toNat (0, 0)).2) ((y1_0.getD (y7.2.2).toNat (0, 0)).1, (y1_0.getD (y7.2.2).toNat (0, 0)).2)).bind fun r1 => (if r1.1 ≤ 0 then some (3, ()) else (g_l4 y1_0 y1_1 x53 (w64 (x54 + 1))))) else none) else none) else none) else none) else none) else none))
theorem f85_r20_P (k : Nat) (G_l4 G_l6 G_r23 : f85_S) : f85_o_r20 (fun σ => f85_a k (f85_F_r20 k G_l4 G_l6 G_r23) .nx σ) = f85_r20_B k (f85_o_l6 G_l6) := by kernel_rfl
def f85_r20 (k : Nat) (r_l6 : f85_t_l6) (r_l4 : f85_t_l4) : f85_t_r20 := f85_r20_B k r_l6
theorem f85_r20_E (k : Nat) (R_l6 R_l4 : f85_S) : f85_o_r20 (f85_C_r20 k R_l6 R_l4) = f85_r20 k (f85_o_l6 R_l6) (f85_o_l4 R_l4) :=
 Eq.trans (congrArg f85_o_r20 (ap_fn (f85_f_r20 k R_l6 R_l4))) ((f85_r20_P k R_l4 R_l6 (f85_C_r23 k R_l4)).trans (by rfl))
theorem f85_r23_P (k : Nat) (G_l4 : f85_S) : f85_o_r23 (fun σ => f85_a k (f85_F_r23 k G_l4) .nx σ) = f85_r23_B k (f85_o_l4 G_l4) := by kernel_rfl
def f85_r23 (k : Nat) (r_l4 : f85_t_l4) : f85_t_r23 := f85_r23_B k r_l4
theorem f85_r23_E (k : Nat) (R_l4 : f85_S) : f85_o_r23 (f85_C_r23 k R_l4) = f85_r23 k (f85_o_l4 R_l4) :=
 Eq.trans (congrArg f85_o_r23 (ap_fn (f85_f_r23 k R_l4))) ((f85_r23_P k R_l4).trans (by rfl))
theorem f85_l6_P (k : Nat) (G_l4 G_l6 G_r20 G_r23 : f85_S) : f85_o_l6 (fun σ => f85_a k (f85_F_l6 k G_l4 G_l6 G_r20 G_r23) .nx σ) = f85_l6_B k (f85_o_r20 G_r20) (f85_o_r23 G_r23) := by kernel_rfl
def f85_l6 (k : Nat) (r_l4 : f85_t_l4) : Nat → f85_t_l6
 | 0 => fun _ _ _ _ _ _ _ _ => none
 | n + 1 => f85_l6_B k (f85_r20 k (f85_l6 k r_l4 n) r_l4) (f85_r23 k r_l4)
theorem f85_l6_E (k : Nat) (R_l4 : f85_S) : ∀ n, f85_o_l6 (f85_C_l6 k R_l4 n) = f85_l6 k (f85_o_l4 R_l4) n
 | 0 => rfl
 | n + 1 =>
   Eq.trans (congrArg f85_o_l6 (Eq.trans (b := fun σ => f85_a k (f85_Q_l6 k R_l4 (f85_C_l6 k R_l4 n)) .nx σ) lp_step (ap_fn (f85_f_l6 k R_l4 (f85_C_l6 k R_l4 n))))) ((f85_l6_P k R_l4 (f85_C_l6 k R_l4 n) (f85_C_r20 k (f85_C_l6 k R_l4 n) R_l4) (f85_C_r23 k R_l4)).trans (by rw [f85_r20_E k (f85_C_l6 k R_l4 n) R_l4, f85_r23_E k R_l4, f85_l6_E k R_l4 n] <;> rfl))
theorem f85_l4_P (k : Nat) (G_l4 G_l6 G_r23 : f85_S) : f85_o_l4 (fun σ => f85_a k (f85_F_l4 k G_l4 G_l6 G_r23) .nx σ) = f85_l4_B k (f85_o_l6 G_l6) := by kernel_rfl
def f85_l4 (k : Nat) : Nat → f85_t_l4
 | 0 => fun _ _ _ _ => none
 | n + 1 => f85_l4_B k (f85_l6 k (f85_l4 k n) k)
theorem f85_l4_E (k : Nat) : ∀ n, f85_o_l4 (f85_C_l4 k n) = f85_l4 k n
 | 0 => rfl
 | n + 1 =>
   Eq.trans (congrArg f85_o_l4 (Eq.trans (b := fun σ => f85_a k (f85_Q_l4 k (f85_C_l4 k n)) .nx σ) lp_step (ap_fn (f85_f_l4 k (f85_C_l4 k n))))) ((f85_l4_P k (f85_C_l4 k n) (f85_C_l6 k (f85_C_l4 k n) k) (f85_C_r23 k (f85_C_l4 k n))).trans (by rw [f85_l6_E k (f85_C_l4 k n) k, f85_l4_E k n] <;> rfl))
theorem f85_l2_P (k : Nat) (G_l2 G_l4 : f85_S) : f85_o_l2 (fun σ => f85_a k (f85_F_l2 k G_l2 G_l4) .nx σ) = f85_l2_B k (f85_o_l2 G_l2) (f85_o_l4 G_l4) := by kernel_rfl
def f85_l2 (k : Nat) : Nat → f85_t_l2
 | 0 => fun _ _ _ => none
 | n + 1 => f85_l2_B k (f85_l2 k n) (f85_l4 k k)
theorem f85_l2_E (k : Nat) : ∀ n, f85_o_l2 (f85_C_l2 k n) = f85_l2 k n
 | 0 => rfl
 | n + 1 =>
   Eq.trans (congrArg f85_o_l2 (Eq.trans (b := fun σ => f85_a k (f85_Q_l2 k (f85_C_l2 k n)) .nx σ) lp_step (ap_fn (f85_f_l2 k (f85_C_l2 k n))))) ((f85_l2_P k (f85_C_l2 k n) (f85_C_l4 k k)).trans (by rw [f85_l4_E k k, f85_l2_E k n] <;> rfl))
theorem f85_l0_P (k : Nat) (G_l0 G_l2 G_l4 : f85_S) : f85_o_l0 (fun σ => f85_a k (f85_F_l0 k G_l0 G_l2 G_l4) .nx σ) = f85_l0_B k (f85_o_l0 G_l0) (f85_o_l2 G_l2) := by kernel_rfl
def f85_l0 (k : Nat) : Nat → f85_t_l0
 | 0 => fun _ _ _ _ => none
 | n + 1 => f85_l0_B k (f85_l0 k n) (f85_l2 k k)
theorem f85_l0_E (k : Nat) : ∀ n, f85_o_l0 (f85_C_l0 k n) = f85_l0 k n
 | 0 => rfl
 | n + 1 =>
   Eq.trans (congrArg f85_o_l0 (Eq.trans (b := fun σ => f85_a k (f85_Q_l0 k (f85_C_l0 k n)) .nx σ) lp_step (ap_fn (f85_f_l0 k (f85_C_l0 k n))))) ((f85_l0_P k (f85_C_l0 k n) (f85_C_l2 k k) (f85_C_l4 k k)).trans (by rw [f85_l2_E k k, f85_l0_E k n] <;> rfl))
theorem f85_r1_P (k : Nat) (G_l0 G_l2 G_l4 : f85_S) : f85_o_r1 (fun σ => f85_a k (f85_F_r1 k G_l0 G_l2 G_l4) .nx σ) = f85_r1_B k (f85_o_l0 G_l0) := by kernel_rfl
def f85_r1 (k : Nat) : f85_t_r1 := f85_r1_B k (f85_l0 k k)
theorem f85_r1_E (k : Nat) : f85_o_r1 (f85_C_r1 k) = f85_r1 k :=
 Eq.trans (congrArg f85_o_r1 (ap_fn (f85_f_r1 k))) ((f85_r1_P k (f85_C_l0 k k) (f85_C_l2 k k) (f85_C_l4 k k)).trans (by rw [f85_l0_E k k] <;> rfl))
theorem f85_entry_P (k : Nat) (G_r1 G_l0 G_l2 G_l4 : f85_S) (xs : DL f85_sig) : f85_a k (.c (f85_p 2) 0 :: .c (f85_p 12) 0 :: .j G_r1 :: f85_F_r1 k G_l0 G_l2 G_l4) .nx (σ0 121 368 f85_sig xs) = f85_entry_B k (f85_o_r1 G_r1) xs.1 := by kernel_rfl
def f85 (k : Nat) (a0 : Td8) : Option (Int × Unit) := f85_entry_B k (f85_r1 k) a0
theorem f85_fe (k : Nat) : f85_a k [.c (f85_p 1) 0] = f85_a k (.c (f85_p 2) 0 :: .c (f85_p 12) 0 :: .j (f85_C_r1 k) :: f85_F_r1 k (f85_C_l0 k k) (f85_C_l2 k k) (f85_C_l4 k k)) := (Eq.trans ap_sq (ap_cons _ (Eq.trans ap_sq (Eq.trans ap_sq (ap_cons _ (Eq.trans (ap_pass (C := (f85_C_r1 k)) (fun _ => rfl)) (ap_cons _ (f85_f_r1 k))))))))
theorem f85_eq (k : Nat) (xs : DL f85_sig) : den T f85_Y (f85_E k) f85_A k f85_c 0 (σ0 121 368 f85_sig xs) (Kfin T f85_rs f85_ts) = f85 k xs.1 :=
 Eq.trans (Eq.trans den_sb (ap_at (f85_fe k) _)) ((f85_entry_P k (f85_C_r1 k) (f85_C_l0 k k) (f85_C_l2 k k) (f85_C_l4 k k) xs).trans (by rw [f85_r1_E k] <;> rfl))
def f85_con (k : Nat) : Con := ⟨f85_sig, f85_rs, fun xs => f85 k xs.1⟩
theorem f85_ok (k : Nat) : PureOK Try.prog 85 f85_sig f85_rs (fun xs => f85 k xs.1) :=
 (pure_of_den (k := k) (A := f85_A) (T := T) (Y := f85_Y) (E := f85_E k) (M := 368) (ts := f85_ts) T_ok ⟨f41_ok k, f49_ok k, f55_ok k, f107_ok k, trivial⟩ ⟨f41_ent, f49_ent, f55_ent, f107_ent, trivial⟩ mixed (f := 85) (fn := Try.f85) (c := f85_c) (by kernel_rfl) (by kernel_rfl) (by kernel_rfl) (by decide) (by kernel_rfl)).congr fun xs => (f85_eq k xs).symm
theorem f85_ent : Ent Try.prog 85 := fun args w => by kernel_rfl
def f86_c : Code := Try.f86.body.getD .skip
abbrev f86_p (n : Nat) : Code := sb f86_c n
abbrev f86_sig : List PT := [(false, Tq4)]
abbrev f86_rs : List RT := [.obj (.map Tq1 (.int .i64)) []]
abbrev f86_ts : List RV := [.tmp 2]
abbrev f86_S := St → Option (RDL f86_rs)
abbrev f86_L := List (Fr (RDL f86_rs))
def f86_Y : Tys := [(128, Tq10)]
def f86_E (k : Nat) : Env := []
def f86_A : Ann := { loops := [(0, { slots := [(3, .id), (8, .val false Tq3), (9, .id), (10, .id)], keys := [(7, [])] }), (2, { slots := [(3, .id), (5, .id), (8, .val false Tq3), (9, .id), (10, .id), (14, .id)], keys := [(5, []), (7, [])] })] }
abbrev f86_a (k : Nat) (F : f86_L) : Kont (RDL f86_rs) := ap T f86_Y (f86_E k) f86_A k (Kfin T f86_rs f86_ts) F
def f86_s_l0 (y7 : (List ((Int × Int) × Int))) (x10 : Int) (x8 : (List (Int × (Int × Int)))) (x9 : Int) : St := mkS 35 112 [(3, .cp (.one (.mp 7))), (8, aV Tq3 x8), (9, aI x9), (10, aI x10)] [(7, .map Tq1 (.int .i64) y7 none)]
abbrev f86_t_l0 := (List ((Int × Int) × Int)) → Int → (List (Int × (Int × Int))) → Int → Option ((Td9 × Unit) × Unit)
abbrev f86_o_l0 (R : f86_S) : f86_t_l0 := (fun y7 x10 x8 x9 => R (f86_s_l0 y7 x10 x8 x9))
def f86_Q_l0 (k : Nat) (R_l0 : f86_S) : f86_L := [.c (f86_p 116) 0, .j (fun σ => R_l0 (cut f86_A.loops 0 σ)), .blk 0, .c (f86_p 15) 0]
def f86_C_l0 (k n : Nat) (σ : St) : Option (RDL f86_rs) := loopK (fun σ K => den T f86_Y (f86_E k) f86_A k (f86_p 116) 0 σ K) (cut f86_A.loops 0) (f86_a k [.blk 0, .c (f86_p 15) 0]) n σ
def f86_s_l2 (y5_0 y5_1 y5_2 : Int) (y7 : (List ((Int × Int) × Int))) (x10 x14 : Int) (x8 : (List (Int × (Int × Int)))) (x9 : Int) : St := mkS 35 112 [(3, .cp (.one (.mp 7))), (5, aP 5), (8, aV Tq3 x8), (9, aI x9), (10, aI x10), (14, aI x14)] [(5, .box [cI y5_0, cI y5_1, cI y5_2]), (7, .map Tq1 (.int .i64) y7 none)]
abbrev f86_t_l2 := Int → Int → Int → (List ((Int × Int) × Int)) → Int → Int → (List (Int × (Int × Int))) → Int → Option ((Td9 × Unit) × Unit)
abbrev f86_o_l2 (R : f86_S) : f86_t_l2 := (fun y5_0 y5_1 y5_2 y7 x10 x14 x8 x9 => R (f86_s_l2 y5_0 y5_1 y5_2 y7 x10 x14 x8 x9))
def f86_Q_l2 (k : Nat) (R_l0 R_l2 : f86_S) : f86_L := [.c (f86_p 29900) 2, .j (fun σ => R_l2 (cut f86_A.loops 2 σ)), .blk 2, .blk 1, .c (f86_p 935) 0, .j (fun σ => R_l0 (cut f86_A.loops 0 σ)), .blk 0, .c (f86_p 15) 0]
def f86_C_l2 (k : Nat) (R_l0 : f86_S) (n : Nat) (σ : St) : Option (RDL f86_rs) := loopK (fun σ K => den T f86_Y (f86_E k) f86_A k (f86_p 29900) 2 σ K) (cut f86_A.loops 2) (f86_a k [.blk 2, .blk 1, .c (f86_p 935) 0, .j (fun σ => R_l0 (cut f86_A.loops 0 σ)), .blk 0, .c (f86_p 15) 0]) n σ
def f86_F_l0 (k : Nat) (G_l0 G_l2 : f86_S) : f86_L := .c (f86_p 232) 0 :: .c (f86_p 466) 0 :: .j (fun σ => f86_a k (.c (f86_p 3736) 1 :: .c (f86_p 7474) 1 :: .j (fun σ => f86_a k (.j (fun σ => G_l2 (cut f86_A.loops 2 σ)) :: .blk 2 :: .blk 1 :: .c (f86_p 935) 0 :: .j (fun σ => G_l0 (cut f86_A.loops 0 σ)) :: .blk 0 :: .c (f86_p 15) 0 :: []) .nx σ) :: .blk 1 :: .c (f86_p 935) 0 :: .j (fun σ => G_l0 (cut f86_A.loops 0 σ)) :: .blk 0 :: .c (f86_p 15) 0 :: []) .nx σ) :: .c (f86_p 935) 0 :: .j (fun σ => G_l0 (cut f86_A.loops 0 σ)) :: .blk 0 :: .c (f86_p 15) 0 :: []
theorem f86_f_l0 (k : Nat) (R_l0 : f86_S) : f86_a k (f86_Q_l0 k R_l0) = f86_a k (f86_F_l0 k R_l0 (f86_C_l2 k R_l0 k)) := (Eq.trans ap_sq (ap_cons _ (Eq.trans ap_sq (ap_cons _ (Eq.trans ap_sq (Eq.trans (ap_bl 1) (Eq.trans (ap_j (Eq.trans ap_sq (ap_cons _ (Eq.trans ap_sq (ap_cons _ (Eq.trans (ap_bl 2) (Eq.trans (ap_j (Eq.trans (ap_lp (C := (f86_C_l2 k R_l0)) (fun _ _ => rfl)) (ap_cons _ (ap_cons _ (ap_cons _ (ap_cons _ (ap_cons _ (ap_cons _ (ap_cons _ rfl))))))))) (ap_cons _ (ap_cons _ (ap_cons _ (ap_cons _ (ap_cons _ (ap_cons _ rfl))))))))))))) (ap_cons _ (ap_cons _ (ap_cons _ (ap_cons _ (ap_cons _ rfl))))))))))))
def f86_F_l2 (k : Nat) (G_l0 G_l2 : f86_S) : f86_L := .c (f86_p 29900) 2 :: .j (fun σ => G_l2 (cut f86_A.loops 2 σ)) :: .blk 2 :: .blk 1 :: .c (f86_p 935) 0 :: .j (fun σ => G_l0 (cut f86_A.loops 0 σ)) :: .blk 0 :: .c (f86_p 15) 0 :: []
theorem f86_f_l2 (k : Nat) (R_l0 R_l2 : f86_S) : f86_a k (f86_Q_l2 k R_l0 R_l2) = f86_a k (f86_F_l2 k R_l0 R_l2) := (ap_cons _ (ap_cons _ (ap_cons _ (ap_cons _ (ap_cons _ (ap_cons _ (ap_cons _ (ap_cons _ rfl))))))))
def f86_entry_B (k : Nat) (g_l0 : f86_t_l0) (a0 : (List Td7)) : Option ((Td9 × Unit) × Unit) := (g_l0 ([] : (List ((Int × Int) × Int))) 0 a0 (a0.length : Int))
def f86_l0_B (k : Nat) (g_l2 : f86_t_l2) (y7 : (List ((Int × Int) × Int))) (x10 : Int) (x8 : (List (Int × (Int × Int)))) (x9 : Int) : Option ((Td9 × Unit) × Unit) := (if x10 < x9 then (if 0 ≤ x10 then (if x10 < (x8.length : Int) then (g_l2 ((x8.getD (x10).toNat (0, (0, 0))).1) (((x8.getD (x10).toNat (0, (0, 0))).2).1) (((x8.getD (x10).toNat (0, (0, 0))).2).2) y7 x10 0 x8 x9) else none) else none) else some ((y7, ()), ()))
def f86_l2_B (k : Nat) (g_l0 : f86_t_l0) (g_l2 : f86_t_l2) (y5_0 y5_1 y5_2 : Int) (y7 : (List ((Int × Int) × Int))) (x10 x14 : Int) (x8 : (List (Int × (Int × Int)))) (x9 : Int) : Option ((Td9 × Unit) × Unit) := (if x14 < 3 then (if 0 ≤ x14 then (if x14 < (3 : Int) then (if 0 ≤ ((w64 (x14 + 1)).tmod 3) then (if ((w64 (x14 + 1)).tmod 3) < (3 : Int) then (if 0 ≤ ((w64 (x14 + 2)).tmod 3) then (if ((w64 (x14 + 2)).tmod 3) < (3 : Int) then (g_l2 y5_0 y5_1 y5_2 (msetB (kB (.pair (.int .i64) (.int .i64))) y7 ((([y5_0, y5_1, y5_2] : List Int).getD ((x14).toNat) 0), (([y5_0, y5_1, y5_2] : List Int).getD ((((w64 (x14 + 1)).tmod 3)).toNat) 0)) (([y5_0, y5_1, y5_2] : List Int).getD ((((w64 (x14 + 2)).tmod 3)).toNat) 0)) x10 (w64 (x14 + 1)) x8 x9) else none) else none) else none) else none) else none) else none) else (g_l0 y7 (w64 (x10 + 1)) x8 x9))
theorem f86_l2_P (k : Nat) (G_l0 G_l2 : f86_S) : f86_o_l2 (fun σ => f86_a k (f86_F_l2 k G_l0 G_l2) .nx σ) = f86_l2_B k (f86_o_l0 G_l0) (f86_o_l2 G_l2) := by kernel_rfl
def f86_l2 (k : Nat) (r_l0 : f86_t_l0) : Nat → f86_t_l2
 | 0 => fun _ _ _ _ _ _ _ _ => none
 | n + 1 => f86_l2_B k r_l0 (f86_l2 k r_l0 n)
theorem f86_l2_E (k : Nat) (R_l0 : f86_S) : ∀ n, f86_o_l2 (f86_C_l2 k R_l0 n) = f86_l2 k (f86_o_l0 R_l0) n
 | 0 => rfl
 | n + 1 =>
   Eq.trans (congrArg f86_o_l2 (Eq.trans (b := fun σ => f86_a k (f86_Q_l2 k R_l0 (f86_C_l2 k R_l0 n)) .nx σ) lp_step (ap_fn (f86_f_l2 k R_l0 (f86_C_l2 k R_l0 n))))) ((f86_l2_P k R_l0 (f86_C_l2 k R_l0 n)).trans (by rw [f86_l2_E k R_l0 n] <;> rfl))
theorem f86_l0_P (k : Nat) (G_l0 G_l2 : f86_S) : f86_o_l0 (fun σ => f86_a k (f86_F_l0 k G_l0 G_l2) .nx σ) = f86_l0_B k (f86_o_l2 G_l2) := by kernel_rfl
def f86_l0 (k : Nat) : Nat → f86_t_l0
 | 0 => fun _ _ _ _ => none
 | n + 1 => f86_l0_B k (f86_l2 k (f86_l0 k n) k)
theorem f86_l0_E (k : Nat) : ∀ n, f86_o_l0 (f86_C_l0 k n) = f86_l0 k n
 | 0 => rfl
 | n + 1 =>
   Eq.trans (congrArg f86_o_l0 (Eq.trans (b := fun σ => f86_a k (f86_Q_l0 k (f86_C_l0 k n)) .nx σ) lp_step (ap_fn (f86_f_l0 k (f86_C_l0 k n))))) ((f86_l0_P k (f86_C_l0 k n) (f86_C_l2 k (f86_C_l0 k n) k)).trans (by rw [f86_l2_E k (f86_C_l0 k n) k, f86_l0_E k n] <;> rfl))
theorem f86_entry_P (k : Nat) (G_l0 : f86_S) (xs : DL f86_sig) : f86_a k (.c (f86_p 2) 0 :: .c (f86_p 6) 0 :: .c (f86_p 28) 0 :: .j (fun σ => f86_a k (.j (fun σ => G_l0 (cut f86_A.loops 0 σ)) :: .blk 0 :: .c (f86_p 15) 0 :: []) .nx σ) :: .c (f86_p 15) 0 :: []) .nx (σ0 35 112 f86_sig xs) = f86_entry_B k (f86_o_l0 G_l0) xs.1 := by kernel_rfl
def f86 (k : Nat) (a0 : (List Td7)) : Option ((Td9 × Unit) × Unit) := f86_entry_B k (f86_l0 k k) a0
theorem f86_fe (k : Nat) : f86_a k [.c (f86_p 1) 0] = f86_a k (.c (f86_p 2) 0 :: .c (f86_p 6) 0 :: .c (f86_p 28) 0 :: .j (fun σ => f86_a k (.j (fun σ => (f86_C_l0 k k) (cut f86_A.loops 0 σ)) :: .blk 0 :: .c (f86_p 15) 0 :: []) .nx σ) :: .c (f86_p 15) 0 :: []) := (Eq.trans ap_sq (ap_cons _ (Eq.trans ap_sq (ap_cons _ (Eq.trans ap_sq (Eq.trans ap_sq (ap_cons _ (Eq.trans (ap_bl 0) (Eq.trans (ap_j (Eq.trans (ap_lp (C := (f86_C_l0 k)) (fun _ _ => rfl)) (ap_cons _ (ap_cons _ (ap_cons _ rfl))))) (ap_cons _ (ap_cons _ rfl)))))))))))
theorem f86_eq (k : Nat) (xs : DL f86_sig) : den T f86_Y (f86_E k) f86_A k f86_c 0 (σ0 35 112 f86_sig xs) (Kfin T f86_rs f86_ts) = f86 k xs.1 :=
 Eq.trans (Eq.trans den_sb (ap_at (f86_fe k) _)) ((f86_entry_P k (f86_C_l0 k k) xs).trans (by rw [f86_l0_E k k] <;> rfl))
def f86_con (k : Nat) : Con := ⟨f86_sig, f86_rs, fun xs => f86 k xs.1⟩
theorem f86_ok (k : Nat) : PureOK Try.prog 86 f86_sig f86_rs (fun xs => f86 k xs.1) :=
 (pure_of_den (k := k) (A := f86_A) (T := T) (Y := f86_Y) (E := f86_E k) (M := 112) (ts := f86_ts) T_ok trivial trivial mixed (f := 86) (fn := Try.f86) (c := f86_c) (by kernel_rfl) (by kernel_rfl) (by kernel_rfl) (by decide) (by kernel_rfl)).congr fun xs => (f86_eq k xs).symm
theorem f86_ent : Ent Try.prog 86 := fun args w => by kernel_rfl
def f87_c : Code := Try.f87.body.getD .skip
abbrev f87_p (n : Nat) : Code := sb f87_c n
abbrev f87_sig : List PT := [(false, Tq2)]
abbrev f87_rs : List RT := [.obj (.map Tq1 .bool) []]
abbrev f87_ts : List RV := [.tmp 2]
abbrev f87_S := St → Option (RDL f87_rs)
abbrev f87_L := List (Fr (RDL f87_rs))
def f87_Y : Tys := [(3, (.int .i64)), (122, Tq12), (1000056, (.int .i64))]
def f87_E (k : Nat) : Env := [(55, .c (f55_con k))]
def f87_A : Ann := { loops := [(0, { slots := [(0, .val false Tq1), (3, .id), (10, .id), (11, .id), (12, .id)], keys := [(9, []), (10, [])] }), (2, { mat := [(6, 60, (.int .i64))], slots := [(0, .val false Tq1), (3, .id), (5, .id), (6, .id), (10, .id), (11, .id), (12, .id), (17, .id), (18, .id)], keys := [(9, []), (10, []), (60, [])] }), (4, { mat := [(6, 60, (.int .i64))], slots := [(0, .val false Tq1), (3, .id), (5, .id), (6, .id), (7, .id), (10, .id), (11, .id), (12, .id), (17, .id), (18, .id)], keys := [(9, []), (10, []), (60, [])] }), (6, { mat := [(6, 60, (.int .i64))], slots := [(0, .val false Tq1), (3, .id), (5, .id), (6, .id), (8, .id), (10, .id), (11, .id), (12, .id)], keys := [(9, []), (10, []), (60, [])] })], regs := [(9, { mat := [(6, 60, (.int .i64))], slots := [(0, .val false Tq1), (3, .id), (5, .id), (6, .id), (7, .id), (10, .id), (11, .id), (12, .id), (17, .id), (18, .id), (51, .bool)], keys := [(9, []), (10, []), (60, [])] })], conds := [(17, { slots := [(0, .val false Tq1), (3, .id), (5, .id), (6, .id), (8, .id), (10, .id), (11, .id), (12, .id)], keys := [(9, []), (10, []), (60, [])] })] }
abbrev f87_a (k : Nat) (F : f87_L) : Kont (RDL f87_rs) := ap T f87_Y (f87_E k) f87_A k (Kfin T f87_rs f87_ts) F
def f87_s_l0 (y10 : (List Int)) (y9 : (List ((Int × Int) × Bool))) (x0 : (List (Int × Int))) (x11 x12 : Int) : St := mkS 94 288 [(0, aV Tq1 x0), (3, .cp (.one (.mp 9))), (10, aO 10), (11, aI x11), (12, aI x12)] [(9, .map Tq1 .bool y9 none), (10, .vec (.int .i64) y10)]
abbrev f87_t_l0 := (List Int) → (List ((Int × Int) × Bool)) → (List (Int × Int)) → Int → Int → Option ((Td11 × Unit) × Unit)
abbrev f87_o_l0 (R : f87_S) : f87_t_l0 := (fun y10 y9 x0 x11 x12 => R (f87_s_l0 y10 y9 x0 x11 x12))
def f87_Q_l0 (k : Nat) (R_l0 : f87_S) : f87_L := [.c (f87_p 116) 0, .j (fun σ => R_l0 (cut f87_A.loops 0 σ)), .blk 0, .c (f87_p 15) 0]
def f87_C_l0 (k n : Nat) (σ : St) : Option (RDL f87_rs) := loopK (fun σ K => den T f87_Y (f87_E k) f87_A k (f87_p 116) 0 σ K) (cut f87_A.loops 0) (f87_a k [.blk 0, .c (f87_p 15) 0]) n σ
def f87_s_l2 (y10 y60 : (List Int)) (y9 : (List ((Int × Int) × Bool))) (x0 : (List (Int × Int))) (x11 x12 x17 x18 x5 : Int) : St := mkS 94 288 [(0, aV Tq1 x0), (3, .cp (.one (.mp 9))), (5, aI x5), (6, aO 60), (10, aO 10), (11, aI x11), (12, aI x12), (17, aI x17), (18, aI x18)] [(9, .map Tq1 .bool y9 none), (10, .vec (.int .i64) y10), (60, .vec (.int .i64) y60)]
abbrev f87_t_l2 := (List Int) → (List Int) → (List ((Int × Int) × Bool)) → (List (Int × Int)) → Int → Int → Int → Int → Int → Option ((Td11 × Unit) × Unit)
abbrev f87_o_l2 (R : f87_S) : f87_t_l2 := (fun y10 y60 y9 x0 x11 x12 x17 x18 x5 => R (f87_s_l2 y10 y60 y9 x0 x11 x12 x17 x18 x5))
def f87_Q_l2 (k : Nat) (R_l0 R_l2 : f87_S) : f87_L := [.c (f87_p 119604) 2, .j (fun σ => R_l2 (cut f87_A.loops 2 σ)), .blk 2, .c (f87_p 14951) 1, .blk 1, .c (f87_p 935) 0, .j (fun σ => R_l0 (cut f87_A.loops 0 σ)), .blk 0, .c (f87_p 15) 0]
def f87_C_l2 (k : Nat) (R_l0 : f87_S) (n : Nat) (σ : St) : Option (RDL f87_rs) := loopK (fun σ K => den T f87_Y (f87_E k) f87_A k (f87_p 119604) 2 σ K) (cut f87_A.loops 2) (f87_a k [.blk 2, .c (f87_p 14951) 1, .blk 1, .c (f87_p 935) 0, .j (fun σ => R_l0 (cut f87_A.loops 0 σ)), .blk 0, .c (f87_p 15) 0]) n σ
def f87_s_l4 (y10 y60 : (List Int)) (y9 : (List ((Int × Int) × Bool))) (x0 : (List (Int × Int))) (x11 x12 x17 x18 x5 : Int) : St := mkS 94 288 [(0, aV Tq1 x0), (3, .cp (.one (.mp 9))), (5, aI x5), (6, aO 60), (7, aI x18), (10, aO 10), (11, aI x11), (12, aI x12), (17, aI x17), (18, aI x18)] [(9, .map Tq1 .bool y9 none), (10, .vec (.int .i64) y10), (60, .vec (.int .i64) y60)]
abbrev f87_t_l4 := (List Int) → (List Int) → (List ((Int × Int) × Bool)) → (List (Int × Int)) → Int → Int → Int → Int → Int → Option ((Td11 × Unit) × Unit)
abbrev f87_o_l4 (R : f87_S) : f87_t_l4 := (fun y10 y60 y9 x0 x11 x12 x17 x18 x5 => R (f87_s_l4 y10 y60 y9 x0 x11 x12 x17 x18 x5))
def f87_Q_l4 (k : Nat) (R_l2 R_l0 R_l4 : f87_S) : f87_L := [.c (f87_p 30618824) 4, .j (fun σ => R_l4 (cut f87_A.loops 4 σ)), .blk 4, .c (f87_p 7654707) 3, .blk 3, .c (f87_p 956839) 2, .j (fun σ => R_l2 (cut f87_A.loops 2 σ)), .blk 2, .c (f87_p 14951) 1, .blk 1, .c (f87_p 935) 0, .j (fun σ => R_l0 (cut f87_A.loops 0 σ)), .blk 0, .c (f87_p 15) 0]
def f87_C_l4 (k : Nat) (R_l2 R_l0 : f87_S) (n : Nat) (σ : St) : Option (RDL f87_rs) := loopK (fun σ K => den T f87_Y (f87_E k) f87_A k (f87_p 30618824) 4 σ K) (cut f87_A.loops 4) (f87_a k [.blk 4, .c (f87_p 7654707) 3, .blk 3, .c (f87_p 956839) 2, .j (fun σ => R_l2 (cut f87_A.loops 2 σ)), .blk 2, .c (f87_p 14951) 1, .blk 1, .c (f87_p 935) 0, .j (fun σ => R_l0 (cut f87_A.loops 0 σ)), .blk 0, .c (f87_p 15) 0]) n σ
def f87_s_l6 (y10 y60 : (List Int)) (y9 : (List ((Int × Int) × Bool))) (x0 : (List (Int × Int))) (x11 x12 x5 x8 : Int) : St := mkS 94 288 [(0, aV Tq1 x0), (3, .cp (.one (.mp 9))), (5, aI x5), (6, aO 60), (8, aI x8), (10, aO 10), (11, aI x11), (12, aI x12)] [(9, .map Tq1 .bool y9 none), (10, .vec (.int .i64) y10), (60, .vec (.int .i64) y60)]
abbrev f87_t_l6 := (List Int) → (List Int) → (List ((Int × Int) × Bool)) → (List (Int × Int)) → Int → Int → Int → Int → Option ((Td11 × Unit) × Unit)
abbrev f87_o_l6 (R : f87_S) : f87_t_l6 := (fun y10 y60 y9 x0 x11 x12 x5 x8 => R (f87_s_l6 y10 y60 y9 x0 x11 x12 x5 x8))
def f87_Q_l6 (k : Nat) (R_l0 R_l6 : f87_S) : f87_L := [.c (f87_p 119612) 6, .j (fun σ => R_l6 (cut f87_A.loops 6 σ)), .blk 6, .blk 1, .c (f87_p 935) 0, .j (fun σ => R_l0 (cut f87_A.loops 0 σ)), .blk 0, .c (f87_p 15) 0]
def f87_C_l6 (k : Nat) (R_l0 : f87_S) (n : Nat) (σ : St) : Option (RDL f87_rs) := loopK (fun σ K => den T f87_Y (f87_E k) f87_A k (f87_p 119612) 6 σ K) (cut f87_A.loops 6) (f87_a k [.blk 6, .blk 1, .c (f87_p 935) 0, .j (fun σ => R_l0 (cut f87_A.loops 0 σ)), .blk 0, .c (f87_p 15) 0]) n σ
def f87_s_r9 (y10 y60 : (List Int)) (y9 : (List ((Int × Int) × Bool))) (x0 : (List (Int × Int))) (x11 x12 x17 x18 x5 : Int) (x51 : Bool) : St := mkS 94 288 [(0, aV Tq1 x0), (3, .cp (.one (.mp 9))), (5, aI x5), (6, aO 60), (7, aI x18), (10, aO 10), (11, aI x11), (12, aI x12), (17, aI x17), (18, aI x18), (51, aB x51)] [(9, .map Tq1 .bool y9 none), (10, .vec (.int .i64) y10), (60, .vec (.int .i64) y60)]
abbrev f87_t_r9 := (List Int) → (List Int) → (List ((Int × Int) × Bool)) → (List (Int × Int)) → Int → Int → Int → Int → Int → Bool → Option ((Td11 × Unit) × Unit)
abbrev f87_o_r9 (R : f87_S) : f87_t_r9 := (fun y10 y60 y9 x0 x11 x12 x17 x18 x5 x51 => R (f87_s_r9 y10 y60 y9 x0 x11 x12 x17 x18 x5 x51))
def f87_Q_r9 (k : Nat) (R_l4 R_l2 R_l0 : f87_S) : f87_L := [.c (f87_p 122475297) 4, .c (f87_p 61237649) 4, .j (fun σ => R_l4 (cut f87_A.loops 4 σ)), .blk 4, .c (f87_p 7654707) 3, .blk 3, .c (f87_p 956839) 2, .j (fun σ => R_l2 (cut f87_A.loops 2 σ)), .blk 2, .c (f87_p 14951) 1, .blk 1, .c (f87_p 935) 0, .j (fun σ => R_l0 (cut f87_A.loops 0 σ)), .blk 0, .c (f87_p 15) 0]
def f87_C_r9 (k : Nat) (R_l4 R_l2 R_l0 : f87_S) : f87_S := fun σ => f87_a k (f87_Q_r9 k R_l4 R_l2 R_l0) .nx σ
def f87_s_c17 (y10 y60 : (List Int)) (y9 : (List ((Int × Int) × Bool))) (x0 : (List (Int × Int))) (x11 x12 x5 x8 : Int) : St := mkS 94 288 [(0, aV Tq1 x0), (3, .cp (.one (.mp 9))), (5, aI x5), (6, aO 60), (8, aI x8), (10, aO 10), (11, aI x11), (12, aI x12)] [(9, .map Tq1 .bool y9 none), (10, .vec (.int .i64) y10), (60, .vec (.int .i64) y60)]
abbrev f87_t_c17 := (List Int) → (List Int) → (List ((Int × Int) × Bool)) → (List (Int × Int)) → Int → Int → Int → Int → Option ((Td11 × Unit) × Unit)
abbrev f87_o_c17 (R : f87_S) : f87_t_c17 := (fun y10 y60 y9 x0 x11 x12 x5 x8 => R (f87_s_c17 y10 y60 y9 x0 x11 x12 x5 x8))
def f87_Q_c17 (k : Nat) (R_l6 R_l0 : f87_S) : f87_L := [.blk 7, .c (f87_p 478451) 6, .j (fun σ => R_l6 (cut f87_A.loops 6 σ)), .blk 6, .blk 1, .c (f87_p 935) 0, .j (fun σ => R_l0 (cut f87_A.loops 0 σ)), .blk 0, .c (f87_p 15) 0]
def f87_C_c17 (k : Nat) (R_l6 R_l0 : f87_S) : f87_S := fun σ => f87_a k (f87_Q_c17 k R_l6 R_l0) .nx σ
def f87_F_l0 (k : Nat) (G_l0 G_l2 G_l6 : f87_S) : f87_L := .c (f87_p 232) 0 :: .c (f87_p 466) 0 :: .j (fun σ => f87_a k (.c (f87_p 3736) 1 :: .c (f87_p 7474) 1 :: .c (f87_p 29900) 1 :: .j (fun σ => f87_a k (.j (fun σ => G_l2 (cut f87_A.loops 2 σ)) :: .blk 2 :: .c (f87_p 29902) 1 :: .j (fun σ => f87_a k (.j (fun σ => G_l6 (cut f87_A.loops 6 σ)) :: .blk 6 :: .blk 1 :: .c (f87_p 935) 0 :: .j (fun σ => G_l0 (cut f87_A.loops 0 σ)) :: .blk 0 :: .c (f87_p 15) 0 :: []) .nx σ) :: .blk 1 :: .c (f87_p 935) 0 :: .j (fun σ => G_l0 (cut f87_A.loops 0 σ)) :: .blk 0 :: .c (f87_p 15) 0 :: []) .nx σ) :: .c (f87_p 29902) 1 :: .j (fun σ => f87_a k (.j (fun σ => G_l6 (cut f87_A.loops 6 σ)) :: .blk 6 :: .blk 1 :: .c (f87_p 935) 0 :: .j (fun σ => G_l0 (cut f87_A.loops 0 σ)) :: .blk 0 :: .c (f87_p 15) 0 :: []) .nx σ) :: .blk 1 :: .c (f87_p 935) 0 :: .j (fun σ => G_l0 (cut f87_A.loops 0 σ)) :: .blk 0 :: .c (f87_p 15) 0 :: []) .nx σ) :: .c (f87_p 935) 0 :: .j (fun σ => G_l0 (cut f87_A.loops 0 σ)) :: .blk 0 :: .c (f87_p 15) 0 :: []
theorem f87_f_l0 (k : Nat) (R_l0 : f87_S) : f87_a k (f87_Q_l0 k R_l0) = f87_a k (f87_F_l0 k R_l0 (f87_C_l2 k R_l0 k) (f87_C_l6 k R_l0 k)) := (Eq.trans ap_sq (ap_cons _ (Eq.trans ap_sq (ap_cons _ (Eq.trans ap_sq (Eq.trans (ap_bl 1) (Eq.trans (ap_j (Eq.trans ap_sq (ap_cons _ (Eq.trans ap_sq (ap_cons _ (Eq.trans ap_sq (Eq.trans ap_sq (ap_cons _ (Eq.trans (ap_bl 2) (Eq.trans (ap_j (Eq.trans (ap_lp (C := (f87_C_l2 k R_l0)) (fun _ _ => rfl)) (ap_cons _ (ap_cons _ (Eq.trans ap_sq (ap_cons _ (Eq.trans (ap_bl 6) (Eq.trans (ap_j (Eq.trans (ap_lp (C := (f87_C_l6 k R_l0)) (fun _ _ => rfl)) (ap_cons _ (ap_cons _ (ap_cons _ (ap_cons _ (ap_cons _ (ap_cons _ (ap_cons _ rfl))))))))) (ap_cons _ (ap_cons _ (ap_cons _ (ap_cons _ (ap_cons _ (ap_cons _ rfl)))))))))))))) (ap_cons _ (Eq.trans ap_sq (ap_cons _ (Eq.trans (ap_bl 6) (Eq.trans (ap_j (Eq.trans (ap_lp (C := (f87_C_l6 k R_l0)) (fun _ _ => rfl)) (ap_cons _ (ap_cons _ (ap_cons _ (ap_cons _ (ap_cons _ (ap_cons _ (ap_cons _ rfl))))))))) (ap_cons _ (ap_cons _ (ap_cons _ (ap_cons _ (ap_cons _ (ap_cons _ rfl))))))))))))))))))))) (ap_cons _ (ap_cons _ (ap_cons _ (ap_cons _ (ap_cons _ rfl))))))))))))
def f87_F_l2 (k : Nat) (G_l0 G_l2 G_l4 G_l6 : f87_S) : f87_L := .c (f87_p 239208) 2 :: .c (f87_p 478418) 2 :: .j (fun σ => f87_a k (.c (f87_p 3827352) 3 :: .j (fun σ => f87_a k (.j (fun σ => G_l4 (cut f87_A.loops 4 σ)) :: .blk 4 :: .c (f87_p 7654707) 3 :: .blk 3 :: .c (f87_p 956839) 2 :: .j (fun σ => G_l2 (cut f87_A.loops 2 σ)) :: .blk 2 :: .c (f87_p 29902) 1 :: .j (fun σ => f87_a k (.j (fun σ => G_l6 (cut f87_A.loops 6 σ)) :: .blk 6 :: .blk 1 :: .c (f87_p 935) 0 :: .j (fun σ => G_l0 (cut f87_A.loops 0 σ)) :: .blk 0 :: .c (f87_p 15) 0 :: []) .nx σ) :: .blk 1 :: .c (f87_p 935) 0 :: .j (fun σ => G_l0 (cut f87_A.loops 0 σ)) :: .blk 0 :: .c (f87_p 15) 0 :: []) .nx σ) :: .c (f87_p 7654707) 3 :: .blk 3 :: .c (f87_p 956839) 2 :: .j (fun σ => G_l2 (cut f87_A.loops 2 σ)) :: .blk 2 :: .c (f87_p 29902) 1 :: .j (fun σ => f87_a k (.j (fun σ => G_l6 (cut f87_A.loops 6 σ)) :: .blk 6 :: .blk 1 :: .c (f87_p 935) 0 :: .j (fun σ => G_l0 (cut f87_A.loops 0 σ)) :: .blk 0 :: .c (f87_p 15) 0 :: []) .nx σ) :: .blk 1 :: .c (f87_p 935) 0 :: .j (fun σ => G_l0 (cut f87_A.loops 0 σ)) :: .blk 0 :: .c (f87_p 15) 0 :: []) .nx σ) :: .c (f87_p 956839) 2 :: .j (fun σ => G_l2 (cut f87_A.loops 2 σ)) :: .blk 2 :: .c (f87_p 29902) 1 :: .j (fun σ => f87_a k (.j (fun σ => G_l6 (cut f87_A.loops 6 σ)) :: .blk 6 :: .blk 1 :: .c (f87_p 935) 0 :: .j (fun σ => G_l0 (cut f87_A.loops 0 σ)) :: .blk 0 :: .c (f87_p 15) 0 :: []) .nx σ) :: .blk 1 :: .c (f87_p 935) 0 :: .j (fun σ => G_l0 (cut f87_A.loops 0 σ)) :: .blk 0 :: .c (f87_p 15) 0 :: []
theorem f87_f_l2 (k : Nat) (R_l0 R_l2 : f87_S) : f87_a k (f87_Q_l2 k R_l0 R_l2) = f87_a k (f87_F_l2 k R_l0 R_l2 (f87_C_l4 k R_l2 R_l0 k) (f87_C_l6 k R_l0 k)) := (Eq.trans ap_sq (ap_cons _ (Eq.trans ap_sq (ap_cons _ (Eq.trans ap_sq (Eq.trans (ap_bl 3) (Eq.trans (ap_j (Eq.trans ap_sq (ap_cons _ (Eq.trans ap_sq (Eq.trans (ap_bl 4) (Eq.trans (ap_j (Eq.trans (ap_lp (C := (f87_C_l4 k R_l2 R_l0)) (fun _ _ => rfl)) (ap_cons _ (ap_cons _ (ap_cons _ (ap_cons _ (ap_cons _ (ap_cons _ (ap_cons _ (Eq.trans ap_sq (ap_cons _ (Eq.trans (ap_bl 6) (Eq.trans (ap_j (Eq.trans (ap_lp (C := (f87_C_l6 k R_l0)) (fun _ _ => rfl)) (ap_cons _ (ap_cons _ (ap_cons _ (ap_cons _ (ap_cons _ (ap_cons _ (ap_cons _ rfl))))))))) (ap_cons _ (ap_cons _ (ap_cons _ (ap_cons _ (ap_cons _ (ap_cons _ rfl))))))))))))))))))) (ap_cons _ (ap_cons _ (ap_cons _ (ap_cons _ (ap_cons _ (ap_cons _ (Eq.trans ap_sq (ap_cons _ (Eq.trans (ap_bl 6) (Eq.trans (ap_j (Eq.trans (ap_lp (C := (f87_C_l6 k R_l0)) (fun _ _ => rfl)) (ap_cons _ (ap_cons _ (ap_cons _ (ap_cons _ (ap_cons _ (ap_cons _ (ap_cons _ rfl))))))))) (ap_cons _ (ap_cons _ (ap_cons _ (ap_cons _ (ap_cons _ (ap_cons _ rfl)))))))))))))))))))))) (ap_cons _ (ap_cons _ (ap_cons _ (ap_cons _ (Eq.trans ap_sq (ap_cons _ (Eq.trans (ap_bl 6) (Eq.trans (ap_j (Eq.trans (ap_lp (C := (f87_C_l6 k R_l0)) (fun _ _ => rfl)) (ap_cons _ (ap_cons _ (ap_cons _ (ap_cons _ (ap_cons _ (ap_cons _ (ap_cons _ rfl))))))))) (ap_cons _ (ap_cons _ (ap_cons _ (ap_cons _ (ap_cons _ (ap_cons _ rfl)))))))))))))))))))))
def f87_F_r9 (k : Nat) (G_l0 G_l2 G_l4 G_l6 : f87_S) : f87_L := .c (f87_p 122475297) 4 :: .c (f87_p 61237649) 4 :: .j (fun σ => G_l4 (cut f87_A.loops 4 σ)) :: .blk 4 :: .c (f87_p 7654707) 3 :: .blk 3 :: .c (f87_p 956839) 2 :: .j (fun σ => G_l2 (cut f87_A.loops 2 σ)) :: .blk 2 :: .c (f87_p 29902) 1 :: .j (fun σ => f87_a k (.j (fun σ => G_l6 (cut f87_A.loops 6 σ)) :: .blk 6 :: .blk 1 :: .c (f87_p 935) 0 :: .j (fun σ => G_l0 (cut f87_A.loops 0 σ)) :: .blk 0 :: .c (f87_p 15) 0 :: []) .nx σ) :: .blk 1 :: .c (f87_p 935) 0 :: .j (fun σ => G_l0 (cut f87_A.loops 0 σ)) :: .blk 0 :: .c (f87_p 15) 0 :: []
theorem f87_f_r9 (k : Nat) (R_l4 R_l2 R_l0 : f87_S) : f87_a k (f87_Q_r9 k R_l4 R_l2 R_l0) = f87_a k (f87_F_r9 k R_l0 R_l2 R_l4 (f87_C_l6 k R_l0 k)) := (ap_cons _ (ap_cons _ (ap_cons _ (ap_cons _ (ap_cons _ (ap_cons _ (ap_cons _ (ap_cons _ (ap_cons _ (Eq.trans ap_sq (ap_cons _ (Eq.trans (ap_bl 6) (Eq.trans (ap_j (Eq.trans (ap_lp (C := (f87_C_l6 k R_l0)) (fun _ _ => rfl)) (ap_cons _ (ap_cons _ (ap_cons _ (ap_cons _ (ap_cons _ (ap_cons _ (ap_cons _ rfl))))))))) (ap_cons _ (ap_cons _ (ap_cons _ (ap_cons _ (ap_cons _ (ap_cons _ rfl)))))))))))))))))))
def f87_F_l4 (k : Nat) (G_l0 G_l2 G_l4 G_l6 G_r9 : f87_S) : f87_L := .c (f87_p 122475296) 4 :: .j G_r9 :: f87_F_r9 k G_l0 G_l2 G_l4 G_l6
theorem f87_f_l4 (k : Nat) (R_l2 R_l0 R_l4 : f87_S) : f87_a k (f87_Q_l4 k R_l2 R_l0 R_l4) = f87_a k (f87_F_l4 k R_l0 R_l2 R_l4 (f87_C_l6 k R_l0 k) (f87_C_r9 k R_l4 R_l2 R_l0)) := (Eq.trans ap_sq (Eq.trans ap_sq (ap_cons _ (Eq.trans (ap_pass (C := (f87_C_r9 k R_l4 R_l2 R_l0)) (fun _ => rfl)) (ap_cons _ (f87_f_r9 k R_l4 R_l2 R_l0))))))
def f87_F_c17 (k : Nat) (G_l0 G_l6 : f87_S) : f87_L := .blk 7 :: .c (f87_p 478451) 6 :: .j (fun σ => G_l6 (cut f87_A.loops 6 σ)) :: .blk 6 :: .blk 1 :: .c (f87_p 935) 0 :: .j (fun σ => G_l0 (cut f87_A.loops 0 σ)) :: .blk 0 :: .c (f87_p 15) 0 :: []
theorem f87_f_c17 (k : Nat) (R_l6 R_l0 : f87_S) : f87_a k (f87_Q_c17 k R_l6 R_l0) = f87_a k (f87_F_c17 k R_l0 R_l6) := (ap_cons _ (ap_cons _ (ap_cons _ (ap_cons _ (ap_cons _ (ap_cons _ (ap_cons _ (ap_cons _ (ap_cons _ rfl)))))))))
def f87_F_l6 (k : Nat) (G_l0 G_l6 G_c17 : f87_S) : f87_L := .c (f87_p 239224) 6 :: .j (fun σ => f87_a k (.c (f87_p 1913800) 7 :: .c (f87_p 1913801) 7 :: .j G_c17 :: f87_F_c17 k G_l0 G_l6) .nx σ) :: .c (f87_p 478451) 6 :: .j (fun σ => G_l6 (cut f87_A.loops 6 σ)) :: .blk 6 :: .blk 1 :: .c (f87_p 935) 0 :: .j (fun σ => G_l0 (cut f87_A.loops 0 σ)) :: .blk 0 :: .c (f87_p 15) 0 :: []
theorem f87_f_l6 (k : Nat) (R_l0 R_l6 : f87_S) : f87_a k (f87_Q_l6 k R_l0 R_l6) = f87_a k (f87_F_l6 k R_l0 R_l6 (f87_C_c17 k R_l6 R_l0)) := (Eq.trans ap_sq (ap_cons _ (Eq.trans ap_sq (Eq.trans (ap_bl 7) (Eq.trans (ap_j (Eq.trans ap_sq (ap_cons _ (ap_cons _ (Eq.trans (ap_pass (C := (f87_C_c17 k R_l6 R_l0)) (fun _ => rfl)) (ap_cons _ (f87_f_c17 k R_l6 R_l0))))))) (ap_cons _ (ap_cons _ (ap_cons _ (ap_cons _ (ap_cons _ (ap_cons _ (ap_cons _ (ap_cons _ (ap_cons _ rfl))))))))))))))
def f87_entry_B (k : Nat) (g_l0 : f87_t_l0) (a0 : Td6) : Option ((Td11 × Unit) × Unit) := (g_l0 ([1, (-1)]) ([] : (List ((Int × Int) × Bool))) a0 (([1, (-1)]).length : Int) 0)
def f87_l0_B (k : Nat) (g_l2 : f87_t_l2) (y10 : (List Int)) (y9 : (List ((Int × Int) × Bool))) (x0 : (List (Int × Int))) (x11 x12 : Int) : Option ((Td11 × Unit) × Unit) := (if x12 < x11 then (if 0 ≤ x12 then (if x12 < (y10.length : Int) then (g_l2 y10 ([] : List Int) y9 x0 x11 x12 (x0.length : Int) 0 (y10.getD ((x12).toNat) 0)) else none) else none) else some ((y9, ()), ()))
def f87_l2_B (k : Nat) (g_l4 : f87_t_l4) (g_l6 : f87_t_l6) (y10 y60 : (List Int)) (y9 : (List ((Int × Int) × Bool))) (x0 : (List (Int × Int))) (x11 x12 x17 x18 x5 : Int) : Option ((Td11 × Unit) × Unit) := (if x18 < x17 then (g_l4 y10 y60 y9 x0 x11 x12 x17 x18 x5) else (g_l6 y10 y60 y9 x0 x11 x12 x5 1))
def f87_l4_B (k : Nat) (g_r9 : f87_t_r9) (y10 y60 : (List Int)) (y9 : (List ((Int × Int) × Bool))) (x0 : (List (Int × Int))) (x11 x12 x17 x18 x5 : Int) : Option ((Td11 × Unit) × Unit) := (if 1 < (y60.length : Int) then (if 0 ≤ (w64 ((y60.length : Int) - 2)) then (if (w64 ((y60.length : Int) - 2)) < (y60.length : Int) then (if 0 ≤ (y60.getD ((w64 ((y60.length : Int) - 2)).toNat) 0) then (if (y60.getD ((w64 ((y60.length : Int) - 2)).toNat) 0) < (x0.length : Int) then (if 0 ≤ (w64 ((y60.length : Int) - 1)) then (if (w64 ((y60.length : Int) - 1)) < (y60.length : Int) then (if 0 ≤ (y60.getD ((w64 ((y60.length : Int) - 1)).toNat) 0) then (if (y60.getD ((w64 ((y60.length : Int) - 1)).toNat) 0) < (x0.length : Int) then (if 0 ≤ x18 then (if x18 < (x0.length : Int) then ((f55 k ((x0.getD ((y60.getD ((w64 ((y60.length : Int) - 2)).toNat) 0)).toNat (0, 0)).1, (x0.getD ((y60.getD ((w64 ((y60.length : Int) - 2)).toNat) 0)).toNat (0, 0)).2) ((x0.getD ((y60.getD ((w64 ((y60.length : Int) - 1)).toNat) 0)).toNat (0, 0)).1, (x0.getD ((y60.getD ((w64 ((y60.length : Int) - 1)).toNat) 0)).toNat (0, 0)).2) ((x0.getD (x18).toNat (0, 0)).1, (x0.getD (x18).toNat (0, 0)).2)).bind fun r1 => (g_r9 y10 y60 y9 x0 x11 x12 x17 x18 x5 (decide ((w64 (x5 * r1.1)) < 0)))) else none) else none) else none) else none) else none) else none) else none) else none) else none) else none) else (g_r9 y10 y60 y9 x0 x11 x12 x17 x18 x5 false))
def f87_l6_B (k : Nat) (g_l0 : f87_t_l0) (g_c17 : f87_t_c17) (y10 y60 : (List Int)) (y9 : (List ((Int × Int) × Bool))) (x0 : (List (Int × Int))) (x11 x12 x5 x8 : Int) : Option ((Td11 × Unit) × Unit) := (if x8 < (y60.length : Int) then (if 0 < x5 then (if 0 ≤ (w64 (x8 - 1)) then (if (w64 (x8 - 1)) < (y60.length : Int) then (if 0 ≤ x8 then (if x8 < (y60.length : Int) then (g_c17 y10 y60 (msetB (kB (.pair (.int .i64) (.int .i64))) y9 ((y60.getD ((w64 (x8 - 1)).toNat) 0), (y60.getD ((x8).toNat) 0)) true) x0 x11 x12 x5 x8) else none) else none) else none) else none) else (if 0 ≤ x8 then (if x8 < (y60.length : Int) then (if 0 ≤ (w64 (x8 - 1)) then (if (w64 (x8 - 1)) < (y60.length : Int) then (g_c17 y10 y60 (msetB (kB (.pair (.int .i64) (.int .i64))) y9 ((y60.getD ((x8).toNat) 0), (y60.getD ((w64 (x8 - 1)).toNat) 0)) true) x0 x11 x12 x5 x8) else none) else none) else none) else none)) else (g_l0 y10 y9 x0 x11 (w64 (x12 + 1))))
def f87_r9_B (k : Nat) (g_l2 : f87_t_l2) (g_l4 : f87_t_l4) (y10 y60 : (List Int)) (y9 : (List ((Int × Int) × Bool))) (x0 : (List (Int × Int))) (x11 x12 x17 x18 x5 : Int) (x51 : Bool) : Option ((Td11 × Unit) × Unit) := (if x51 = true then (if 0 ≤ (w64 ((y60.length : Int) - 1)) then (if (w64 ((y60.length : Int) - 1)) ≤ (y60.length : Int) then (g_l4 y10 (y60.take (w64 ((y60.length : Int) - 1)).toNat) y9 x0 x11 x12 x17 x18 x5) else none) else none) else (if (y60.length + 1) * 8 ≤ 140737488355328 then (g_l2 y10 (y60 ++ [x18]) y9 x0 x11 x12 x17 (w64 (x18 + 1)) x5) else none))
def f87_c17_B (k : Nat) (g_l6 : f87_t_l6) (y10 y60 : (List Int)) (y9 : (List ((Int × Int) × Bool))) (x0 : (List (Int × Int))) (x11 x12 x5 x8 : Int) : Option ((Td11 × Unit) × Unit) := (g_l6 y10 y60 y9 x0 x11 x12 x5 (w64 (x8 + 1)))
theorem f87_r9_P (k : Nat) (G_l0 G_l2 G_l4 G_l6 : f87_S) : f87_o_r9 (fun σ => f87_a k (f87_F_r9 k G_l0 G_l2 G_l4 G_l6) .nx σ) = f87_r9_B k (f87_o_l2 G_l2) (f87_o_l4 G_l4) := by kernel_rfl
def f87_r9 (k : Nat) (r_l4 : f87_t_l4) (r_l2 : f87_t_l2) (r_l0 : f87_t_l0) : f87_t_r9 := f87_r9_B k r_l2 r_l4
theorem f87_r9_E (k : Nat) (R_l4 R_l2 R_l0 : f87_S) : f87_o_r9 (f87_C_r9 k R_l4 R_l2 R_l0) = f87_r9 k (f87_o_l4 R_l4) (f87_o_l2 R_l2) (f87_o_l0 R_l0) :=
 Eq.trans (congrArg f87_o_r9 (ap_fn (f87_f_r9 k R_l4 R_l2 R_l0))) ((f87_r9_P k R_l0 R_l2 R_l4 (f87_C_l6 k R_l0 k)).trans (by rfl))
theorem f87_l4_P (k : Nat) (G_l0 G_l2 G_l4 G_l6 G_r9 : f87_S) : f87_o_l4 (fun σ => f87_a k (f87_F_l4 k G_l0 G_l2 G_l4 G_l6 G_r9) .nx σ) = f87_l4_B k (f87_o_r9 G_r9) := by kernel_rfl
def f87_l4 (k : Nat) (r_l2 : f87_t_l2) (r_l0 : f87_t_l0) : Nat → f87_t_l4
 | 0 => fun _ _ _ _ _ _ _ _ _ => none
 | n + 1 => f87_l4_B k (f87_r9 k (f87_l4 k r_l2 r_l0 n) r_l2 r_l0)
theorem f87_l4_E (k : Nat) (R_l2 R_l0 : f87_S) : ∀ n, f87_o_l4 (f87_C_l4 k R_l2 R_l0 n) = f87_l4 k (f87_o_l2 R_l2) (f87_o_l0 R_l0) n
 | 0 => rfl
 | n + 1 =>
   Eq.trans (congrArg f87_o_l4 (Eq.trans (b := fun σ => f87_a k (f87_Q_l4 k R_l2 R_l0 (f87_C_l4 k R_l2 R_l0 n)) .nx σ) lp_step (ap_fn (f87_f_l4 k R_l2 R_l0 (f87_C_l4 k R_l2 R_l0 n))))) ((f87_l4_P k R_l0 R_l2 (f87_C_l4 k R_l2 R_l0 n) (f87_C_l6 k R_l0 k) (f87_C_r9 k (f87_C_l4 k R_l2 R_l0 n) R_l2 R_l0)).trans (by rw [f87_r9_E k (f87_C_l4 k R_l2 R_l0 n) R_l2 R_l0, f87_l4_E k R_l2 R_l0 n] <;> rfl))
theorem f87_c17_P (k : Nat) (G_l0 G_l6 : f87_S) : f87_o_c17 (fun σ => f87_a k (f87_F_c17 k G_l0 G_l6) .nx σ) = f87_c17_B k (f87_o_l6 G_l6) := by kernel_rfl
def f87_c17 (k : Nat) (r_l6 : f87_t_l6) (r_l0 : f87_t_l0) : f87_t_c17 := f87_c17_B k r_l6
theorem f87_c17_E (k : Nat) (R_l6 R_l0 : f87_S) : f87_o_c17 (f87_C_c17 k R_l6 R_l0) = f87_c17 k (f87_o_l6 R_l6) (f87_o_l0 R_l0) :=
 Eq.trans (congrArg f87_o_c17 (ap_fn (f87_f_c17 k R_l6 R_l0))) ((f87_c17_P k R_l0 R_l6).trans (by rfl))
theorem f87_l6_P (k : Nat) (G_l0 G_l6 G_c17 : f87_S) : f87_o_l6 (fun σ => f87_a k (f87_F_l6 k G_l0 G_l6 G_c17) .nx σ) = f87_l6_B k (f87_o_l0 G_l0) (f87_o_c17 G_c17) := by kernel_rfl
def f87_l6 (k : Nat) (r_l0 : f87_t_l0) : Nat → f87_t_l6
 | 0 => fun _ _ _ _ _ _ _ _ => none
 | n + 1 => f87_l6_B k r_l0 (f87_c17 k (f87_l6 k r_l0 n) r_l0)
theorem f87_l6_E (k : Nat) (R_l0 : f87_S) : ∀ n, f87_o_l6 (f87_C_l6 k R_l0 n) = f87_l6 k (f87_o_l0 R_l0) n
 | 0 => rfl
 | n + 1 =>
   Eq.trans (congrArg f87_o_l6 (Eq.trans (b := fun σ => f87_a k (f87_Q_l6 k R_l0 (f87_C_l6 k R_l0 n)) .nx σ) lp_step (ap_fn (f87_f_l6 k R_l0 (f87_C_l6 k R_l0 n))))) ((f87_l6_P k R_l0 (f87_C_l6 k R_l0 n) (f87_C_c17 k (f87_C_l6 k R_l0 n) R_l0)).trans (by rw [f87_c17_E k (f87_C_l6 k R_l0 n) R_l0, f87_l6_E k R_l0 n] <;> rfl))
theorem f87_l2_P (k : Nat) (G_l0 G_l2 G_l4 G_l6 : f87_S) : f87_o_l2 (fun σ => f87_a k (f87_F_l2 k G_l0 G_l2 G_l4 G_l6) .nx σ) = f87_l2_B k (f87_o_l4 G_l4) (f87_o_l6 G_l6) := by kernel_rfl
def f87_l2 (k : Nat) (r_l0 : f87_t_l0) : Nat → f87_t_l2
 | 0 => fun _ _ _ _ _ _ _ _ _ => none
 | n + 1 => f87_l2_B k (f87_l4 k (f87_l2 k r_l0 n) r_l0 k) (f87_l6 k r_l0 k)
theorem f87_l2_E (k : Nat) (R_l0 : f87_S) : ∀ n, f87_o_l2 (f87_C_l2 k R_l0 n) = f87_l2 k (f87_o_l0 R_l0) n
 | 0 => rfl
 | n + 1 =>
   Eq.trans (congrArg f87_o_l2 (Eq.trans (b := fun σ => f87_a k (f87_Q_l2 k R_l0 (f87_C_l2 k R_l0 n)) .nx σ) lp_step (ap_fn (f87_f_l2 k R_l0 (f87_C_l2 k R_l0 n))))) ((f87_l2_P k R_l0 (f87_C_l2 k R_l0 n) (f87_C_l4 k (f87_C_l2 k R_l0 n) R_l0 k) (f87_C_l6 k R_l0 k)).trans (by rw [f87_l4_E k (f87_C_l2 k R_l0 n) R_l0 k, f87_l6_E k R_l0 k, f87_l2_E k R_l0 n] <;> rfl))
theorem f87_l0_P (k : Nat) (G_l0 G_l2 G_l6 : f87_S) : f87_o_l0 (fun σ => f87_a k (f87_F_l0 k G_l0 G_l2 G_l6) .nx σ) = f87_l0_B k (f87_o_l2 G_l2) := by kernel_rfl
def f87_l0 (k : Nat) : Nat → f87_t_l0
 | 0 => fun _ _ _ _ _ => none
 | n + 1 => f87_l0_B k (f87_l2 k (f87_l0 k n) k)
theorem f87_l0_E (k : Nat) : ∀ n, f87_o_l0 (f87_C_l0 k n) = f87_l0 k n
 | 0 => rfl
 | n + 1 =>
   Eq.trans (congrArg f87_o_l0 (Eq.trans (b := fun σ => f87_a k (f87_Q_l0 k (f87_C_l0 k n)) .nx σ) lp_step (ap_fn (f87_f_l0 k (f87_C_l0 k n))))) ((f87_l0_P k (f87_C_l0 k n) (f87_C_l2 k (f87_C_l0 k n) k) (f87_C_l6 k (f87_C_l0 k n) k)).trans (by rw [f87_l2_E k (f87_C_l0 k n) k, f87_l0_E k n] <;> rfl))
theorem f87_entry_P (k : Nat) (G_l0 : f87_S) (xs : DL f87_sig) : f87_a k (.c (f87_p 2) 0 :: .c (f87_p 6) 0 :: .c (f87_p 28) 0 :: .j (fun σ => f87_a k (.j (fun σ => G_l0 (cut f87_A.loops 0 σ)) :: .blk 0 :: .c (f87_p 15) 0 :: []) .nx σ) :: .c (f87_p 15) 0 :: []) .nx (σ0 94 288 f87_sig xs) = f87_entry_B k (f87_o_l0 G_l0) xs.1 := by kernel_rfl
def f87 (k : Nat) (a0 : Td6) : Option ((Td11 × Unit) × Unit) := f87_entry_B k (f87_l0 k k) a0
theorem f87_fe (k : Nat) : f87_a k [.c (f87_p 1) 0] = f87_a k (.c (f87_p 2) 0 :: .c (f87_p 6) 0 :: .c (f87_p 28) 0 :: .j (fun σ => f87_a k (.j (fun σ => (f87_C_l0 k k) (cut f87_A.loops 0 σ)) :: .blk 0 :: .c (f87_p 15) 0 :: []) .nx σ) :: .c (f87_p 15) 0 :: []) := (Eq.trans ap_sq (ap_cons _ (Eq.trans ap_sq (ap_cons _ (Eq.trans ap_sq (Eq.trans ap_sq (ap_cons _ (Eq.trans (ap_bl 0) (Eq.trans (ap_j (Eq.trans (ap_lp (C := (f87_C_l0 k)) (fun _ _ => rfl)) (ap_cons _ (ap_cons _ (ap_cons _ rfl))))) (ap_cons _ (ap_cons _ rfl)))))))))))
theorem f87_eq (k : Nat) (xs : DL f87_sig) : den T f87_Y (f87_E k) f87_A k f87_c 0 (σ0 94 288 f87_sig xs) (Kfin T f87_rs f87_ts) = f87 k xs.1 :=
 Eq.trans (Eq.trans den_sb (ap_at (f87_fe k) _)) ((f87_entry_P k (f87_C_l0 k k) xs).trans (by rw [f87_l0_E k k] <;> rfl))
def f87_con (k : Nat) : Con := ⟨f87_sig, f87_rs, fun xs => f87 k xs.1⟩
theorem f87_ok (k : Nat) : PureOK Try.prog 87 f87_sig f87_rs (fun xs => f87 k xs.1) :=
 (pure_of_den (k := k) (A := f87_A) (T := T) (Y := f87_Y) (E := f87_E k) (M := 288) (ts := f87_ts) T_ok ⟨f55_ok k, trivial⟩ ⟨f55_ent, trivial⟩ mixed (f := 87) (fn := Try.f87) (c := f87_c) (by kernel_rfl) (by kernel_rfl) (by kernel_rfl) (by decide) (by kernel_rfl)).congr fun xs => (f87_eq k xs).symm
theorem f87_ent : Ent Try.prog 87 := fun args w => by kernel_rfl
def f108_c : Code := Try.f108.body.getD .skip
abbrev f108_p (n : Nat) : Code := sb f108_c n
abbrev f108_sig : List PT := [(false, Tq13), (false, .bool)]
abbrev f108_rs : List RT := [.d false (.int .i64)]
abbrev f108_ts : List RV := [.tmp 4]
abbrev f108_S := St → Option (RDL f108_rs)
abbrev f108_L := List (Fr (RDL f108_rs))
def f108_Y : Tys := []
def f108_E (k : Nat) : Env := []
def f108_A : Ann := { loops := [(0, { slots := [(0, .val false .bool), (1, .bool), (7, .id), (8, .id)] })] }
abbrev f108_a (k : Nat) (F : f108_L) : Kont (RDL f108_rs) := ap T f108_Y (f108_E k) f108_A k (Kfin T f108_rs f108_ts) F
def f108_s_l0 (x0 : (List Bool)) (x1 : Bool) (x7 x8 : Int) : St := mkS 19 64 [(0, aV .bool x0), (1, aB x1), (7, aI x7), (8, aI x8)] []
abbrev f108_t_l0 := (List Bool) → Bool → Int → Int → Option (Int × Unit)
abbrev f108_o_l0 (R : f108_S) : f108_t_l0 := (fun x0 x1 x7 x8 => R (f108_s_l0 x0 x1 x7 x8))
def f108_Q_l0 (k : Nat) (R_l0 : f108_S) : f108_L := [.c (f108_p 52) 0, .j (fun σ => R_l0 (cut f108_A.loops 0 σ)), .blk 0, .c (f108_p 7) 0]
def f108_C_l0 (k n : Nat) (σ : St) : Option (RDL f108_rs) := loopK (fun σ K => den T f108_Y (f108_E k) f108_A k (f108_p 52) 0 σ K) (cut f108_A.loops 0) (f108_a k [.blk 0, .c (f108_p 7) 0]) n σ
def f108_F_l0 (k : Nat) (G_l0 : f108_S) : f108_L := .c (f108_p 52) 0 :: .j (fun σ => G_l0 (cut f108_A.loops 0 σ)) :: .blk 0 :: .c (f108_p 7) 0 :: []
theorem f108_f_l0 (k : Nat) (R_l0 : f108_S) : f108_a k (f108_Q_l0 k R_l0) = f108_a k (f108_F_l0 k R_l0) := (ap_cons _ (ap_cons _ (ap_cons _ (ap_cons _ rfl))))
def f108_entry_B (k : Nat) (g_l0 : f108_t_l0) (a0 : (List Bool)) (a1 : Bool) : Option (Int × Unit) := (g_l0 a0 (decide (a1 = true)) (a0.length : Int) 0)
def f108_l0_B (k : Nat) (g_l0 : f108_t_l0) (x0 : (List Bool)) (x1 : Bool) (x7 x8 : Int) : Option (Int × Unit) := (if x8 < x7 then (if 0 ≤ x8 then (if x8 < (x0.length : Int) then (if decide (x1 = true) = decide ((x0.getD (x8).toNat false) = true) then some (x8, ()) else (g_l0 x0 (decide (x1 = true)) x7 (w64 (x8 + 1)))) else none) else none) else some ((-1), ()))
theorem f108_l0_P (k : Nat) (G_l0 : f108_S) : f108_o_l0 (fun σ => f108_a k (f108_F_l0 k G_l0) .nx σ) = f108_l0_B k (f108_o_l0 G_l0) := by kernel_rfl
def f108_l0 (k : Nat) : Nat → f108_t_l0
 | 0 => fun _ _ _ _ => none
 | n + 1 => f108_l0_B k (f108_l0 k n)
theorem f108_l0_E (k : Nat) : ∀ n, f108_o_l0 (f108_C_l0 k n) = f108_l0 k n
 | 0 => rfl
 | n + 1 =>
   Eq.trans (congrArg f108_o_l0 (Eq.trans (b := fun σ => f108_a k (f108_Q_l0 k (f108_C_l0 k n)) .nx σ) lp_step (ap_fn (f108_f_l0 k (f108_C_l0 k n))))) ((f108_l0_P k (f108_C_l0 k n)).trans (by rw [f108_l0_E k n] <;> rfl))
theorem f108_entry_P (k : Nat) (G_l0 : f108_S) (xs : DL f108_sig) : f108_a k (.c (f108_p 2) 0 :: .c (f108_p 12) 0 :: .j (fun σ => f108_a k (.j (fun σ => G_l0 (cut f108_A.loops 0 σ)) :: .blk 0 :: .c (f108_p 7) 0 :: []) .nx σ) :: .c (f108_p 7) 0 :: []) .nx (σ0 19 64 f108_sig xs) = f108_entry_B k (f108_o_l0 G_l0) xs.1 xs.2.1 := by kernel_rfl
def f108 (k : Nat) (a0 : (List Bool)) (a1 : Bool) : Option (Int × Unit) := f108_entry_B k (f108_l0 k k) a0 a1
theorem f108_fe (k : Nat) : f108_a k [.c (f108_p 1) 0] = f108_a k (.c (f108_p 2) 0 :: .c (f108_p 12) 0 :: .j (fun σ => f108_a k (.j (fun σ => (f108_C_l0 k k) (cut f108_A.loops 0 σ)) :: .blk 0 :: .c (f108_p 7) 0 :: []) .nx σ) :: .c (f108_p 7) 0 :: []) := (Eq.trans ap_sq (ap_cons _ (Eq.trans ap_sq (Eq.trans ap_sq (ap_cons _ (Eq.trans (ap_bl 0) (Eq.trans (ap_j (Eq.trans (ap_lp (C := (f108_C_l0 k)) (fun _ _ => rfl)) (ap_cons _ (ap_cons _ (ap_cons _ rfl))))) (ap_cons _ (ap_cons _ rfl)))))))))
theorem f108_eq (k : Nat) (xs : DL f108_sig) : den T f108_Y (f108_E k) f108_A k f108_c 0 (σ0 19 64 f108_sig xs) (Kfin T f108_rs f108_ts) = f108 k xs.1 xs.2.1 :=
 Eq.trans (Eq.trans den_sb (ap_at (f108_fe k) _)) ((f108_entry_P k (f108_C_l0 k k) xs).trans (by rw [f108_l0_E k k] <;> rfl))
def f108_con (k : Nat) : Con := ⟨f108_sig, f108_rs, fun xs => f108 k xs.1 xs.2.1⟩
theorem f108_ok (k : Nat) : PureOK Try.prog 108 f108_sig f108_rs (fun xs => f108 k xs.1 xs.2.1) :=
 (pure_of_den (k := k) (A := f108_A) (T := T) (Y := f108_Y) (E := f108_E k) (M := 64) (ts := f108_ts) T_ok trivial trivial mixed (f := 108) (fn := Try.f108) (c := f108_c) (by kernel_rfl) (by kernel_rfl) (by kernel_rfl) (by decide) (by kernel_rfl)).congr fun xs => (f108_eq k xs).symm
theorem f108_ent : Ent Try.prog 108 := fun args w => by kernel_rfl
def f88_c : Code := Try.f88.body.getD .skip
abbrev f88_p (n : Nat) : Code := sb f88_c n
abbrev f88_sig : List PT := [(false, Tq13), (false, .bool)]
abbrev f88_rs : List RT := [.d false .bool]
abbrev f88_ts : List RV := [.tmp 4]
abbrev f88_S := St → Option (RDL f88_rs)
abbrev f88_L := List (Fr (RDL f88_rs))
def f88_Y : Tys := []
def f88_E (k : Nat) : Env := [(108, .c (f108_con k))]
def f88_A : Ann := {}
abbrev f88_a (k : Nat) (F : f88_L) : Kont (RDL f88_rs) := ap T f88_Y (f88_E k) f88_A k (Kfin T f88_rs f88_ts) F
def f88_entry_B (k : Nat) (a0 : (List Bool)) (a1 : Bool) : Option (Bool × Unit) := ((f108 k a0 (decide (a1 = true))).bind fun r1 => some (decide (0 ≤ r1.1), ()))
theorem f88_entry_P (k : Nat) (xs : DL f88_sig) : f88_a k (.c (f88_p 1) 0 :: []) .nx (σ0 9 32 f88_sig xs) = f88_entry_B k xs.1 xs.2.1 := by kernel_rfl
def f88 (k : Nat) (a0 : (List Bool)) (a1 : Bool) : Option (Bool × Unit) := f88_entry_B k a0 a1
theorem f88_eq (k : Nat) (xs : DL f88_sig) : den T f88_Y (f88_E k) f88_A k f88_c 0 (σ0 9 32 f88_sig xs) (Kfin T f88_rs f88_ts) = f88 k xs.1 xs.2.1 :=
 Eq.trans (Eq.trans den_sb (ap_at (ap_cons _ rfl) _)) ((f88_entry_P k xs).trans (by rfl))
def f88_con (k : Nat) : Con := ⟨f88_sig, f88_rs, fun xs => f88 k xs.1 xs.2.1⟩
theorem f88_ok (k : Nat) : PureOK Try.prog 88 f88_sig f88_rs (fun xs => f88 k xs.1 xs.2.1) :=
 (pure_of_den (k := k) (A := f88_A) (T := T) (Y := f88_Y) (E := f88_E k) (M := 32) (ts := f88_ts) T_ok ⟨f108_ok k, trivial⟩ ⟨f108_ent, trivial⟩ mixed (f := 88) (fn := Try.f88) (c := f88_c) (by kernel_rfl) (by kernel_rfl) (by kernel_rfl) (by decide) (by kernel_rfl)).congr fun xs => (f88_eq k xs).symm
theorem f88_ent : Ent Try.prog 88 := fun args w => by kernel_rfl
def f52_c : Code := Try.f52.body.getD .skip
abbrev f52_p (n : Nat) : Code := sb f52_c n
abbrev f52_sig : List PT := [(true, Tq5)]
abbrev f52_rs : List RT := [.d false (.int .i64)]
abbrev f52_ts : List RV := [.tmp 2]
abbrev f52_S := St → Option (RDL f52_rs)
abbrev f52_L := List (Fr (RDL f52_rs))
def f52_Y : Tys := [(4, .bool)]
def f52_E (k : Nat) : Env := [(85, .c (f85_con k)), (86, .c (f86_con k)), (87, .c (f87_con k)), (88, .c (f88_con k))]
def f52_A : Ann := { loops := [(0, { slots := [(4, .id), (5, .id), (6, .id), (37, .id)], keys := [(22, []), (25, []), (35, []), (37, [])] })] }
abbrev f52_a (k : Nat) (F : f52_L) : Kont (RDL f52_rs) := ap T f52_Y (f52_E k) f52_A k (Kfin T f52_rs f52_ts) F
def f52_s_l0 (y22 : (List Bool)) (y25 : (List ((Int × Int) × Int))) (y25_cur : (Option ((Int × Int) × Int))) (y25_left : (List ((Int × Int) × Int))) (y35 : (List ((Int × Int) × Bool))) : St := mkS 63 192 [(4, aO 22), (5, .cp (.one (.mp 25))), (6, .cp (.one (.mp 35))), (37, aP 37)] [(22, .vec .bool y22), (25, .map Tq1 (.int .i64) y25 (some (37, y25_left, y25_cur))), (35, .map Tq1 .bool y35 none), (37, .tok 25)]
abbrev f52_t_l0 := (List Bool) → (List ((Int × Int) × Int)) → (Option ((Int × Int) × Int)) → (List ((Int × Int) × Int)) → (List ((Int × Int) × Bool)) → Option (Int × Unit)
abbrev f52_o_l0 (R : f52_S) : f52_t_l0 := (fun y22 y25 y25_cur y25_left y35 => R (f52_s_l0 y22 y25 y25_cur y25_left y35))
def f52_Q_l0 (k : Nat) (R_l0 : f52_S) : f52_L := [.c (f52_p 4084) 0, .j (fun σ => R_l0 (cut f52_A.loops 0 σ)), .blk 0, .c (f52_p 511) 0]
def f52_C_l0 (k n : Nat) (σ : St) : Option (RDL f52_rs) := loopK (fun σ K => den T f52_Y (f52_E k) f52_A k (f52_p 4084) 0 σ K) (cut f52_A.loops 0) (f52_a k [.blk 0, .c (f52_p 511) 0]) n σ
def f52_F_l0 (k : Nat) (G_l0 : f52_S) : f52_L := .c (f52_p 4084) 0 :: .j (fun σ => G_l0 (cut f52_A.loops 0 σ)) :: .blk 0 :: .c (f52_p 511) 0 :: []
theorem f52_f_l0 (k : Nat) (R_l0 : f52_S) : f52_a k (f52_Q_l0 k R_l0) = f52_a k (f52_F_l0 k R_l0) := (ap_cons _ (ap_cons _ (ap_cons _ (ap_cons _ rfl))))
def f52_entry_B (k : Nat) (g_l0 : f52_t_l0) (a0 : Td8) : Option (Int × Unit) := ((f85 k (a0.1, a0.2)).bind fun r1 => (if ¬ (r1.1 = 0) then some (r1.1, ()) else (if (a0.2.length : Int) = 0 then some (14, ()) else (if 0 ≤ (a0.1.length : Int) then (if (a0.1.length : Int) ≤ 1073741824 then ((f86 k a0.2).bind fun r2 => (if ¬ ((r2.1.1.length : Int) = (w64 (3 * (a0.2.length : Int)))) then some (3, ()) else ((f87 k a0.1).bind fun r3 => (g_l0 (List.replicate ((a0.1.length : Int)).toNat (false : Bool)) r2.1.1 none r2.1.1 r3.1.1)))) else none) else none))))
def f52_l0_B (k : Nat) (g_l0 : f52_t_l0) (y22 : (List Bool)) (y25 : (List ((Int × Int) × Int))) (y25_cur : (Option ((Int × Int) × Int))) (y25_left : (List ((Int × Int) × Int))) (y35 : (List ((Int × Int) × Bool))) : Option (Int × Unit) := (pickK y25_left ((f88 k y22 false).bind fun r2 => (if r2.1 = true then some (3, ()) else some (0, ()))) (fun kv1 rest1 => (if 0 ≤ kv1.1.1 then (if kv1.1.1 < (y22.length : Int) then (if decide ((mgetB (kB (.pair (.int .i64) (.int .i64))) y25 (kv1.1.2, kv1.1.1)).isSome = true) = decide (((mgetB (kB (.pair (.int .i64) (.int .i64))) y35 (kv1.1.1, kv1.1.2)).getD false) = true) then some (3, ()) else (g_l0 (y22.set ((kv1.1.1).toNat) true) y25 (some kv1) rest1 y35)) else none) else none)))
theorem f52_l0_P (k : Nat) (G_l0 : f52_S) : f52_o_l0 (fun σ => f52_a k (f52_F_l0 k G_l0) .nx σ) = f52_l0_B k (f52_o_l0 G_l0) := by kernel_rfl
def f52_l0 (k : Nat) : Nat → f52_t_l0
 | 0 => fun _ _ _ _ _ => none
 | n + 1 => f52_l0_B k (f52_l0 k n)
theorem f52_l0_E (k : Nat) : ∀ n, f52_o_l0 (f52_C_l0 k n) = f52_l0 k n
 | 0 => rfl
 | n + 1 =>
   Eq.trans (congrArg f52_o_l0 (Eq.trans (b := fun σ => f52_a k (f52_Q_l0 k (f52_C_l0 k n)) .nx σ) lp_step (ap_fn (f52_f_l0 k (f52_C_l0 k n))))) ((f52_l0_P k (f52_C_l0 k n)).trans (by rw [f52_l0_E k n] <;> rfl))
theorem f52_entry_P (k : Nat) (G_l0 : f52_S) (xs : DL f52_sig) : f52_a k (.c (f52_p 2) 0 :: .c (f52_p 6) 0 :: .c (f52_p 14) 0 :: .c (f52_p 30) 0 :: .c (f52_p 62) 0 :: .c (f52_p 126) 0 :: .c (f52_p 254) 0 :: .c (f52_p 1020) 0 :: .j (fun σ => f52_a k (.j (fun σ => G_l0 (cut f52_A.loops 0 σ)) :: .blk 0 :: .c (f52_p 511) 0 :: []) .nx σ) :: .c (f52_p 511) 0 :: []) .nx (σ0 63 192 f52_sig xs) = f52_entry_B k (f52_o_l0 G_l0) xs.1 := by kernel_rfl
def f52 (k : Nat) (a0 : Td8) : Option (Int × Unit) := f52_entry_B k (f52_l0 k k) a0
theorem f52_fe (k : Nat) : f52_a k [.c (f52_p 1) 0] = f52_a k (.c (f52_p 2) 0 :: .c (f52_p 6) 0 :: .c (f52_p 14) 0 :: .c (f52_p 30) 0 :: .c (f52_p 62) 0 :: .c (f52_p 126) 0 :: .c (f52_p 254) 0 :: .c (f52_p 1020) 0 :: .j (fun σ => f52_a k (.j (fun σ => (f52_C_l0 k k) (cut f52_A.loops 0 σ)) :: .blk 0 :: .c (f52_p 511) 0 :: []) .nx σ) :: .c (f52_p 511) 0 :: []) := (Eq.trans ap_sq (ap_cons _ (Eq.trans ap_sq (ap_cons _ (Eq.trans ap_sq (ap_cons _ (Eq.trans ap_sq (ap_cons _ (Eq.trans ap_sq (ap_cons _ (Eq.trans ap_sq (ap_cons _ (Eq.trans ap_sq (ap_cons _ (Eq.trans ap_sq (Eq.trans ap_sq (ap_cons _ (Eq.trans (ap_bl 0) (Eq.trans (ap_j (Eq.trans (ap_lp (C := (f52_C_l0 k)) (fun _ _ => rfl)) (ap_cons _ (ap_cons _ (ap_cons _ rfl))))) (ap_cons _ (ap_cons _ rfl)))))))))))))))))))))
theorem f52_eq (k : Nat) (xs : DL f52_sig) : den T f52_Y (f52_E k) f52_A k f52_c 0 (σ0 63 192 f52_sig xs) (Kfin T f52_rs f52_ts) = f52 k xs.1 :=
 Eq.trans (Eq.trans den_sb (ap_at (f52_fe k) _)) ((f52_entry_P k (f52_C_l0 k k) xs).trans (by rw [f52_l0_E k k] <;> rfl))
def f52_con (k : Nat) : Con := ⟨f52_sig, f52_rs, fun xs => f52 k xs.1⟩
theorem f52_ok (k : Nat) : PureOK Try.prog 52 f52_sig f52_rs (fun xs => f52 k xs.1) :=
 (pure_of_den (k := k) (A := f52_A) (T := T) (Y := f52_Y) (E := f52_E k) (M := 192) (ts := f52_ts) T_ok ⟨f85_ok k, f86_ok k, f87_ok k, f88_ok k, trivial⟩ ⟨f85_ent, f86_ent, f87_ent, f88_ent, trivial⟩ mixed (f := 52) (fn := Try.f52) (c := f52_c) (by kernel_rfl) (by kernel_rfl) (by kernel_rfl) (by decide) (by kernel_rfl)).congr fun xs => (f52_eq k xs).symm
theorem f52_ent : Ent Try.prog 52 := fun args w => by kernel_rfl
def f13_c : Code := Try.f13.body.getD .skip
abbrev f13_p (n : Nat) : Code := sb f13_c n
abbrev f13_sig : List PT := [(true, Tq5), (false, Tq0)]
abbrev f13_rs : List RT := [.d false (.int .i64)]
abbrev f13_ts : List RV := [.tmp 4]
abbrev f13_S := St → Option (RDL f13_rs)
abbrev f13_L := List (Fr (RDL f13_rs))
def f13_Y : Tys := []
def f13_E (k : Nat) : Env := [(52, .c (f52_con k))]
def f13_A : Ann := { loops := [(0, { slots := [(19, .val false (.int .i64)), (20, .id), (21, .id)] })], regs := [(9, { slots := [(19, .val false (.int .i64)), (20, .id), (21, .id), (30, .bool)] })] }
abbrev f13_a (k : Nat) (F : f13_L) : Kont (RDL f13_rs) := ap T f13_Y (f13_E k) f13_A k (Kfin T f13_rs f13_ts) F
def f13_s_l0 (x19 : (List Int)) (x20 x21 : Int) : St := mkS 32 96 [(19, aV (.int .i64) x19), (20, aI x20), (21, aI x21)] []
abbrev f13_t_l0 := (List Int) → Int → Int → Option (Int × Unit)
abbrev f13_o_l0 (R : f13_S) : f13_t_l0 := (fun x19 x20 x21 => R (f13_s_l0 x19 x20 x21))
def f13_Q_l0 (k : Nat) (R_l0 : f13_S) : f13_L := [.c (f13_p 244) 0, .j (fun σ => R_l0 (cut f13_A.loops 0 σ)), .blk 0, .c (f13_p 31) 0]
def f13_C_l0 (k n : Nat) (σ : St) : Option (RDL f13_rs) := loopK (fun σ K => den T f13_Y (f13_E k) f13_A k (f13_p 244) 0 σ K) (cut f13_A.loops 0) (f13_a k [.blk 0, .c (f13_p 31) 0]) n σ
def f13_s_r9 (x19 : (List Int)) (x20 x21 : Int) (x30 : Bool) : St := mkS 32 96 [(19, aV (.int .i64) x19), (20, aI x20), (21, aI x21), (30, aB x30)] []
abbrev f13_t_r9 := (List Int) → Int → Int → Bool → Option (Int × Unit)
abbrev f13_o_r9 (R : f13_S) : f13_t_r9 := (fun x19 x20 x21 x30 => R (f13_s_r9 x19 x20 x21 x30))
def f13_Q_r9 (k : Nat) (R_l0 : f13_S) : f13_L := [.c (f13_p 15667) 1, .blk 1, .c (f13_p 1959) 0, .j (fun σ => R_l0 (cut f13_A.loops 0 σ)), .blk 0, .c (f13_p 31) 0]
def f13_C_r9 (k : Nat) (R_l0 : f13_S) : f13_S := fun σ => f13_a k (f13_Q_r9 k R_l0) .nx σ
def f13_F_r9 (k : Nat) (G_l0 : f13_S) : f13_L := .c (f13_p 15667) 1 :: .blk 1 :: .c (f13_p 1959) 0 :: .j (fun σ => G_l0 (cut f13_A.loops 0 σ)) :: .blk 0 :: .c (f13_p 31) 0 :: []
theorem f13_f_r9 (k : Nat) (R_l0 : f13_S) : f13_a k (f13_Q_r9 k R_l0) = f13_a k (f13_F_r9 k R_l0) := (ap_cons _ (ap_cons _ (ap_cons _ (ap_cons _ (ap_cons _ (ap_cons _ rfl))))))
def f13_F_l0 (k : Nat) (G_l0 G_r9 : f13_S) : f13_L := .c (f13_p 488) 0 :: .c (f13_p 978) 0 :: .j (fun σ => f13_a k (.c (f13_p 7832) 1 :: .c (f13_p 15666) 1 :: .j G_r9 :: f13_F_r9 k G_l0) .nx σ) :: .c (f13_p 1959) 0 :: .j (fun σ => G_l0 (cut f13_A.loops 0 σ)) :: .blk 0 :: .c (f13_p 31) 0 :: []
theorem f13_f_l0 (k : Nat) (R_l0 : f13_S) : f13_a k (f13_Q_l0 k R_l0) = f13_a k (f13_F_l0 k R_l0 (f13_C_r9 k R_l0)) := (Eq.trans ap_sq (ap_cons _ (Eq.trans ap_sq (ap_cons _ (Eq.trans ap_sq (Eq.trans (ap_bl 1) (Eq.trans (ap_j (Eq.trans ap_sq (ap_cons _ (Eq.trans ap_sq (ap_cons _ (Eq.trans (ap_pass (C := (f13_C_r9 k R_l0)) (fun _ => rfl)) (ap_cons _ (f13_f_r9 k R_l0)))))))) (ap_cons _ (ap_cons _ (ap_cons _ (ap_cons _ (ap_cons _ rfl))))))))))))
def f13_entry_B (k : Nat) (g_l0 : f13_t_l0) (a0 : Td8) (a1 : (List Int)) : Option (Int × Unit) := ((f52 k (a0.1, a0.2)).bind fun r1 => (if ¬ (r1.1 = 0) then some (r1.1, ()) else (if ¬ ((a1.length : Int) = (a0.1.length : Int)) then some (3, ()) else (g_l0 a1 (a1.length : Int) 0))))
def f13_l0_B (k : Nat) (g_r9 : f13_t_r9) (x19 : (List Int)) (x20 x21 : Int) : Option (Int × Unit) := (if x21 < x20 then (if 0 ≤ x21 then (if x21 < (x19.length : Int) then (if (x19.getD (x21).toNat 0) < (-65536) then (g_r9 x19 x20 x21 true) else (g_r9 x19 x20 x21 (decide (65536 < (x19.getD (x21).toNat 0))))) else none) else none) else some (0, ()))
def f13_r9_B (k : Nat) (g_l0 : f13_t_l0) (x19 : (List Int)) (x20 x21 : Int) (x30 : Bool) : Option (Int × Unit) := (if x30 = true then some (1, ()) else (g_l0 x19 x20 (w64 (x21 + 1))))
theorem f13_r9_P (k : Nat) (G_l0 : f13_S) : f13_o_r9 (fun σ => f13_a k (f13_F_r9 k G_l0) .nx σ) = f13_r9_B k (f13_o_l0 G_l0) := by kernel_rfl
def f13_r9 (k : Nat) (r_l0 : f13_t_l0) : f13_t_r9 := f13_r9_B k r_l0
theorem f13_r9_E (k : Nat) (R_l0 : f13_S) : f13_o_r9 (f13_C_r9 k R_l0) = f13_r9 k (f13_o_l0 R_l0) :=
 Eq.trans (congrArg f13_o_r9 (ap_fn (f13_f_r9 k R_l0))) ((f13_r9_P k R_l0).trans (by rfl))
theorem f13_l0_P (k : Nat) (G_l0 G_r9 : f13_S) : f13_o_l0 (fun σ => f13_a k (f13_F_l0 k G_l0 G_r9) .nx σ) = f13_l0_B k (f13_o_r9 G_r9) := by kernel_rfl
def f13_l0 (k : Nat) : Nat → f13_t_l0
 | 0 => fun _ _ _ => none
 | n + 1 => f13_l0_B k (f13_r9 k (f13_l0 k n))
theorem f13_l0_E (k : Nat) : ∀ n, f13_o_l0 (f13_C_l0 k n) = f13_l0 k n
 | 0 => rfl
 | n + 1 =>
   Eq.trans (congrArg f13_o_l0 (Eq.trans (b := fun σ => f13_a k (f13_Q_l0 k (f13_C_l0 k n)) .nx σ) lp_step (ap_fn (f13_f_l0 k (f13_C_l0 k n))))) ((f13_l0_P k (f13_C_l0 k n) (f13_C_r9 k (f13_C_l0 k n))).trans (by rw [f13_r9_E k (f13_C_l0 k n), f13_l0_E k n] <;> rfl))
theorem f13_entry_P (k : Nat) (G_l0 : f13_S) (xs : DL f13_sig) : f13_a k (.c (f13_p 2) 0 :: .c (f13_p 6) 0 :: .c (f13_p 14) 0 :: .c (f13_p 60) 0 :: .j (fun σ => f13_a k (.j (fun σ => G_l0 (cut f13_A.loops 0 σ)) :: .blk 0 :: .c (f13_p 31) 0 :: []) .nx σ) :: .c (f13_p 31) 0 :: []) .nx (σ0 32 96 f13_sig xs) = f13_entry_B k (f13_o_l0 G_l0) xs.1 xs.2.1 := by kernel_rfl
def f13 (k : Nat) (a0 : Td8) (a1 : (List Int)) : Option (Int × Unit) := f13_entry_B k (f13_l0 k k) a0 a1
theorem f13_fe (k : Nat) : f13_a k [.c (f13_p 1) 0] = f13_a k (.c (f13_p 2) 0 :: .c (f13_p 6) 0 :: .c (f13_p 14) 0 :: .c (f13_p 60) 0 :: .j (fun σ => f13_a k (.j (fun σ => (f13_C_l0 k k) (cut f13_A.loops 0 σ)) :: .blk 0 :: .c (f13_p 31) 0 :: []) .nx σ) :: .c (f13_p 31) 0 :: []) := (Eq.trans ap_sq (ap_cons _ (Eq.trans ap_sq (ap_cons _ (Eq.trans ap_sq (ap_cons _ (Eq.trans ap_sq (Eq.trans ap_sq (ap_cons _ (Eq.trans (ap_bl 0) (Eq.trans (ap_j (Eq.trans (ap_lp (C := (f13_C_l0 k)) (fun _ _ => rfl)) (ap_cons _ (ap_cons _ (ap_cons _ rfl))))) (ap_cons _ (ap_cons _ rfl)))))))))))))
theorem f13_eq (k : Nat) (xs : DL f13_sig) : den T f13_Y (f13_E k) f13_A k f13_c 0 (σ0 32 96 f13_sig xs) (Kfin T f13_rs f13_ts) = f13 k xs.1 xs.2.1 :=
 Eq.trans (Eq.trans den_sb (ap_at (f13_fe k) _)) ((f13_entry_P k (f13_C_l0 k k) xs).trans (by rw [f13_l0_E k k] <;> rfl))
def f13_con (k : Nat) : Con := ⟨f13_sig, f13_rs, fun xs => f13 k xs.1 xs.2.1⟩
theorem f13_ok (k : Nat) : PureOK Try.prog 13 f13_sig f13_rs (fun xs => f13 k xs.1 xs.2.1) :=
 (pure_of_den (k := k) (A := f13_A) (T := T) (Y := f13_Y) (E := f13_E k) (M := 96) (ts := f13_ts) T_ok ⟨f52_ok k, trivial⟩ ⟨f52_ent, trivial⟩ mixed (f := 13) (fn := Try.f13) (c := f13_c) (by kernel_rfl) (by kernel_rfl) (by kernel_rfl) (by decide) (by kernel_rfl)).congr fun xs => (f13_eq k xs).symm
theorem f13_ent : Ent Try.prog 13 := fun args w => by kernel_rfl
def f54_c : Code := Try.f54.body.getD .skip
abbrev f54_p (n : Nat) : Code := sb f54_c n
abbrev f54_sig : List PT := [(true, Tq3), (false, (.ptr Tq5)), (false, (.ptr Tq1))]
abbrev f54_rs : List RT := [.d false .bool]
abbrev f54_ts : List RV := [.tmp 4]
abbrev f54_S := St → Option (RDL f54_rs)
abbrev f54_L := List (Fr (RDL f54_rs))
def f54_Y : Tys := []
def f54_E (k : Nat) : Env := [(49, .c (f49_con k)), (55, .c (f55_con k)), (56, .c (f56_con k))]
def f54_A : Ann := { loops := [(0, { slots := [(1, .id), (2, .id), (3, .id), (6, .id)], keys := [(3, [])] })] }
abbrev f54_a (k : Nat) (F : f54_L) : Kont (RDL f54_rs) := ap T f54_Y (f54_E k) f54_A k (Kfin T f54_rs f54_ts) F
def f54_s_l0 (y3_0 y3_1 y3_2 : Int) (x1 : ((List (Int × Int)) × (List (Int × (Int × Int))))) (x2 : (Int × Int)) (x6 : Int) : St := mkS 32 96 [(1, .cp (.one (.fptr Tq5 x1 0))), (2, .cp (.one (.fptr Tq1 x2 0))), (3, aP 3), (6, aI x6)] [(3, .box [cI y3_0, cI y3_1, cI y3_2])]
abbrev f54_t_l0 := Int → Int → Int → ((List (Int × Int)) × (List (Int × (Int × Int)))) → (Int × Int) → Int → Option (Bool × Unit)
abbrev f54_o_l0 (R : f54_S) : f54_t_l0 := (fun y3_0 y3_1 y3_2 x1 x2 x6 => R (f54_s_l0 y3_0 y3_1 y3_2 x1 x2 x6))
def f54_Q_l0 (k : Nat) (R_l0 : f54_S) : f54_L := [.c (f54_p 52) 0, .j (fun σ => R_l0 (cut f54_A.loops 0 σ)), .blk 0, .c (f54_p 7) 0]
def f54_C_l0 (k n : Nat) (σ : St) : Option (RDL f54_rs) := loopK (fun σ K => den T f54_Y (f54_E k) f54_A k (f54_p 52) 0 σ K) (cut f54_A.loops 0) (f54_a k [.blk 0, .c (f54_p 7) 0]) n σ
def f54_F_l0 (k : Nat) (G_l0 : f54_S) : f54_L := .c (f54_p 52) 0 :: .j (fun σ => G_l0 (cut f54_A.loops 0 σ)) :: .blk 0 :: .c (f54_p 7) 0 :: []
theorem f54_f_l0 (k : Nat) (R_l0 : f54_S) : f54_a k (f54_Q_l0 k R_l0) = f54_a k (f54_F_l0 k R_l0) := (ap_cons _ (ap_cons _ (ap_cons _ (ap_cons _ rfl))))
def f54_entry_B (k : Nat) (g_l0 : f54_t_l0) (a0 : Td7) (a1 : Td8) (a2 : (Int × Int)) : Option (Bool × Unit) := (g_l0 a0.1 a0.2.1 a0.2.2 a1 a2 0)
def f54_l0_B (k : Nat) (g_l0 : f54_t_l0) (y3_0 y3_1 y3_2 : Int) (x1 : ((List (Int × Int)) × (List (Int × (Int × Int))))) (x2 : (Int × Int)) (x6 : Int) : Option (Bool × Unit) := (if x6 < 3 then (if 0 ≤ x6 then (if x6 < (3 : Int) then (if 0 ≤ (([y3_0, y3_1, y3_2] : List Int).getD ((x6).toNat) 0) then (if (([y3_0, y3_1, y3_2] : List Int).getD ((x6).toNat) 0) < (x1.1.length : Int) then (if 0 ≤ ((w64 (x6 + 1)).tmod 3) then (if ((w64 (x6 + 1)).tmod 3) < (3 : Int) then (if 0 ≤ (([y3_0, y3_1, y3_2] : List Int).getD ((((w64 (x6 + 1)).tmod 3)).toNat) 0) then (if (([y3_0, y3_1, y3_2] : List Int).getD ((((w64 (x6 + 1)).tmod 3)).toNat) 0) < (x1.1.length : Int) then ((f56 k (x2.1, x2.2)).bind fun r1 => ((f55 k ((x1.1.getD ((([y3_0, y3_1, y3_2] : List Int).getD ((x6).toNat) 0)).toNat (0, 0)).1, (x1.1.getD ((([y3_0, y3_1, y3_2] : List Int).getD ((x6).toNat) 0)).toNat (0, 0)).2) ((x1.1.getD ((([y3_0, y3_1, y3_2] : List Int).getD ((((w64 (x6 + 1)).tmod 3)).toNat) 0)).toNat (0, 0)).1, (x1.1.getD ((([y3_0, y3_1, y3_2] : List Int).getD ((((w64 (x6 + 1)).tmod 3)).toNat) 0)).toNat (0, 0)).2) (r1.1.1, r1.1.2)).bind fun r2 => (if r2.1 < 0 then some (false, ()) else (g_l0 y3_0 y3_1 y3_2 x1 x2 (w64 (x6 + 1)))))) else none) else none) else none) else none) else none) else none) else none) else none) else ((f49 k (x2.1, x2.2)).bind fun r3 => some (decide (r3.1 = true), ())))
theorem f54_l0_P (k : Nat) (G_l0 : f54_S) : f54_o_l0 (fun σ => f54_a k (f54_F_l0 k G_l0) .nx σ) = f54_l0_B k (f54_o_l0 G_l0) := by kernel_rfl
def f54_l0 (k : Nat) : Nat → f54_t_l0
 | 0 => fun _ _ _ _ _ _ => none
 | n + 1 => f54_l0_B k (f54_l0 k n)
theorem f54_l0_E (k : Nat) : ∀ n, f54_o_l0 (f54_C_l0 k n) = f54_l0 k n
 | 0 => rfl
 | n + 1 =>
   Eq.trans (congrArg f54_o_l0 (Eq.trans (b := fun σ => f54_a k (f54_Q_l0 k (f54_C_l0 k n)) .nx σ) lp_step (ap_fn (f54_f_l0 k (f54_C_l0 k n))))) ((f54_l0_P k (f54_C_l0 k n)).trans (by rw [f54_l0_E k n] <;> rfl))
theorem f54_entry_P (k : Nat) (G_l0 : f54_S) (xs : DL f54_sig) : f54_a k (.c (f54_p 2) 0 :: .c (f54_p 12) 0 :: .j (fun σ => f54_a k (.j (fun σ => G_l0 (cut f54_A.loops 0 σ)) :: .blk 0 :: .c (f54_p 7) 0 :: []) .nx σ) :: .c (f54_p 7) 0 :: []) .nx (σ0 32 96 f54_sig xs) = f54_entry_B k (f54_o_l0 G_l0) xs.1 xs.2.1 xs.2.2.1 := by kernel_rfl
def f54 (k : Nat) (a0 : Td7) (a1 : Td8) (a2 : (Int × Int)) : Option (Bool × Unit) := f54_entry_B k (f54_l0 k k) a0 a1 a2
theorem f54_fe (k : Nat) : f54_a k [.c (f54_p 1) 0] = f54_a k (.c (f54_p 2) 0 :: .c (f54_p 12) 0 :: .j (fun σ => f54_a k (.j (fun σ => (f54_C_l0 k k) (cut f54_A.loops 0 σ)) :: .blk 0 :: .c (f54_p 7) 0 :: []) .nx σ) :: .c (f54_p 7) 0 :: []) := (Eq.trans ap_sq (ap_cons _ (Eq.trans ap_sq (Eq.trans ap_sq (ap_cons _ (Eq.trans (ap_bl 0) (Eq.trans (ap_j (Eq.trans (ap_lp (C := (f54_C_l0 k)) (fun _ _ => rfl)) (ap_cons _ (ap_cons _ (ap_cons _ rfl))))) (ap_cons _ (ap_cons _ rfl)))))))))
theorem f54_eq (k : Nat) (xs : DL f54_sig) : den T f54_Y (f54_E k) f54_A k f54_c 0 (σ0 32 96 f54_sig xs) (Kfin T f54_rs f54_ts) = f54 k xs.1 xs.2.1 xs.2.2.1 :=
 Eq.trans (Eq.trans den_sb (ap_at (f54_fe k) _)) ((f54_entry_P k (f54_C_l0 k k) xs).trans (by rw [f54_l0_E k k] <;> rfl))
def f54_con (k : Nat) : Con := ⟨f54_sig, f54_rs, fun xs => f54 k xs.1 xs.2.1 xs.2.2.1⟩
theorem f54_ok (k : Nat) : PureOK Try.prog 54 f54_sig f54_rs (fun xs => f54 k xs.1 xs.2.1 xs.2.2.1) :=
 (pure_of_den (k := k) (A := f54_A) (T := T) (Y := f54_Y) (E := f54_E k) (M := 96) (ts := f54_ts) T_ok ⟨f49_ok k, f55_ok k, f56_ok k, trivial⟩ ⟨f49_ent, f55_ent, f56_ent, trivial⟩ mixed (f := 54) (fn := Try.f54) (c := f54_c) (by kernel_rfl) (by kernel_rfl) (by kernel_rfl) (by decide) (by kernel_rfl)).congr fun xs => (f54_eq k xs).symm
theorem f54_ent : Ent Try.prog 54 := fun args w => by kernel_rfl
def f53_c : Code := Try.f53.body.getD .skip
abbrev f53_p (n : Nat) : Code := sb f53_c n
abbrev f53_sig : List PT := [(false, Tq4), (false, Tq15)]
abbrev f53_rs : List RT := [.d false (.int .i64)]
abbrev f53_ts : List RV := [.tmp 4]
abbrev f53_S := St → Option (RDL f53_rs)
abbrev f53_L := List (Fr (RDL f53_rs))
def f53_Y : Tys := []
def f53_E (k : Nat) : Env := [(54, .c (f54_con k))]
def f53_A : Ann := { loops := [(0, { slots := [(0, .val false Tq3), (1, .id), (7, .id), (8, .id)] })] }
abbrev f53_a (k : Nat) (F : f53_L) : Kont (RDL f53_rs) := ap T f53_Y (f53_E k) f53_A k (Kfin T f53_rs f53_ts) F
def f53_s_l0 (x0 : (List (Int × (Int × Int)))) (x1 : (((List (Int × Int)) × (List (Int × (Int × Int)))) × (Int × Int))) (x7 x8 : Int) : St := mkS 19 64 [(0, aV Tq3 x0), (1, .cp (.one (.dat Tq15 x1))), (7, aI x7), (8, aI x8)] []
abbrev f53_t_l0 := (List (Int × (Int × Int))) → (((List (Int × Int)) × (List (Int × (Int × Int)))) × (Int × Int)) → Int → Int → Option (Int × Unit)
abbrev f53_o_l0 (R : f53_S) : f53_t_l0 := (fun x0 x1 x7 x8 => R (f53_s_l0 x0 x1 x7 x8))
def f53_Q_l0 (k : Nat) (R_l0 : f53_S) : f53_L := [.c (f53_p 52) 0, .j (fun σ => R_l0 (cut f53_A.loops 0 σ)), .blk 0, .c (f53_p 7) 0]
def f53_C_l0 (k n : Nat) (σ : St) : Option (RDL f53_rs) := loopK (fun σ K => den T f53_Y (f53_E k) f53_A k (f53_p 52) 0 σ K) (cut f53_A.loops 0) (f53_a k [.blk 0, .c (f53_p 7) 0]) n σ
def f53_F_l0 (k : Nat) (G_l0 : f53_S) : f53_L := .c (f53_p 52) 0 :: .j (fun σ => G_l0 (cut f53_A.loops 0 σ)) :: .blk 0 :: .c (f53_p 7) 0 :: []
theorem f53_f_l0 (k : Nat) (R_l0 : f53_S) : f53_a k (f53_Q_l0 k R_l0) = f53_a k (f53_F_l0 k R_l0) := (ap_cons _ (ap_cons _ (ap_cons _ (ap_cons _ rfl))))
def f53_entry_B (k : Nat) (g_l0 : f53_t_l0) (a0 : (List Td7)) (a1 : Td16) : Option (Int × Unit) := (g_l0 a0 a1 (a0.length : Int) 0)
def f53_l0_B (k : Nat) (g_l0 : f53_t_l0) (x0 : (List (Int × (Int × Int)))) (x1 : (((List (Int × Int)) × (List (Int × (Int × Int)))) × (Int × Int))) (x7 x8 : Int) : Option (Int × Unit) := (if x8 < x7 then (if 0 ≤ x8 then (if x8 < (x0.length : Int) then ((f54 k ((x0.getD (x8).toNat (0, (0, 0))).1, (((x0.getD (x8).toNat (0, (0, 0))).2).1, ((x0.getD (x8).toNat (0, (0, 0))).2).2)) x1.1 x1.2).bind fun r1 => (if r1.1 = true then some (x8, ()) else (g_l0 x0 x1 x7 (w64 (x8 + 1))))) else none) else none) else some ((-1), ()))
theorem f53_l0_P (k : Nat) (G_l0 : f53_S) : f53_o_l0 (fun σ => f53_a k (f53_F_l0 k G_l0) .nx σ) = f53_l0_B k (f53_o_l0 G_l0) := by kernel_rfl
def f53_l0 (k : Nat) : Nat → f53_t_l0
 | 0 => fun _ _ _ _ => none
 | n + 1 => f53_l0_B k (f53_l0 k n)
theorem f53_l0_E (k : Nat) : ∀ n, f53_o_l0 (f53_C_l0 k n) = f53_l0 k n
 | 0 => rfl
 | n + 1 =>
   Eq.trans (congrArg f53_o_l0 (Eq.trans (b := fun σ => f53_a k (f53_Q_l0 k (f53_C_l0 k n)) .nx σ) lp_step (ap_fn (f53_f_l0 k (f53_C_l0 k n))))) ((f53_l0_P k (f53_C_l0 k n)).trans (by rw [f53_l0_E k n] <;> rfl))
theorem f53_entry_P (k : Nat) (G_l0 : f53_S) (xs : DL f53_sig) : f53_a k (.c (f53_p 2) 0 :: .c (f53_p 12) 0 :: .j (fun σ => f53_a k (.j (fun σ => G_l0 (cut f53_A.loops 0 σ)) :: .blk 0 :: .c (f53_p 7) 0 :: []) .nx σ) :: .c (f53_p 7) 0 :: []) .nx (σ0 19 64 f53_sig xs) = f53_entry_B k (f53_o_l0 G_l0) xs.1 xs.2.1 := by kernel_rfl
def f53 (k : Nat) (a0 : (List Td7)) (a1 : Td16) : Option (Int × Unit) := f53_entry_B k (f53_l0 k k) a0 a1
theorem f53_fe (k : Nat) : f53_a k [.c (f53_p 1) 0] = f53_a k (.c (f53_p 2) 0 :: .c (f53_p 12) 0 :: .j (fun σ => f53_a k (.j (fun σ => (f53_C_l0 k k) (cut f53_A.loops 0 σ)) :: .blk 0 :: .c (f53_p 7) 0 :: []) .nx σ) :: .c (f53_p 7) 0 :: []) := (Eq.trans ap_sq (ap_cons _ (Eq.trans ap_sq (Eq.trans ap_sq (ap_cons _ (Eq.trans (ap_bl 0) (Eq.trans (ap_j (Eq.trans (ap_lp (C := (f53_C_l0 k)) (fun _ _ => rfl)) (ap_cons _ (ap_cons _ (ap_cons _ rfl))))) (ap_cons _ (ap_cons _ rfl)))))))))
theorem f53_eq (k : Nat) (xs : DL f53_sig) : den T f53_Y (f53_E k) f53_A k f53_c 0 (σ0 19 64 f53_sig xs) (Kfin T f53_rs f53_ts) = f53 k xs.1 xs.2.1 :=
 Eq.trans (Eq.trans den_sb (ap_at (f53_fe k) _)) ((f53_entry_P k (f53_C_l0 k k) xs).trans (by rw [f53_l0_E k k] <;> rfl))
def f53_con (k : Nat) : Con := ⟨f53_sig, f53_rs, fun xs => f53 k xs.1 xs.2.1⟩
theorem f53_ok (k : Nat) : PureOK Try.prog 53 f53_sig f53_rs (fun xs => f53 k xs.1 xs.2.1) :=
 (pure_of_den (k := k) (A := f53_A) (T := T) (Y := f53_Y) (E := f53_E k) (M := 64) (ts := f53_ts) T_ok ⟨f54_ok k, trivial⟩ ⟨f54_ent, trivial⟩ mixed (f := 53) (fn := Try.f53) (c := f53_c) (by kernel_rfl) (by kernel_rfl) (by kernel_rfl) (by decide) (by kernel_rfl)).congr fun xs => (f53_eq k xs).symm
theorem f53_ent : Ent Try.prog 53 := fun args w => by kernel_rfl
def f15_c : Code := Try.f15.body.getD .skip
abbrev f15_p (n : Nat) : Code := sb f15_c n
abbrev f15_sig : List PT := [(true, Tq5), (true, Tq1)]
abbrev f15_rs : List RT := [.d false (.int .i64)]
abbrev f15_ts : List RV := [.tmp 4]
abbrev f15_S := St → Option (RDL f15_rs)
abbrev f15_L := List (Fr (RDL f15_rs))
def f15_Y : Tys := []
def f15_E (k : Nat) : Env := [(52, .c (f52_con k)), (53, .c (f53_con k))]
def f15_A : Ann := {}
abbrev f15_a (k : Nat) (F : f15_L) : Kont (RDL f15_rs) := ap T f15_Y (f15_E k) f15_A k (Kfin T f15_rs f15_ts) F
def f15_entry_B (k : Nat) (a0 : Td8) (a1 : (Int × Int)) : Option (Int × Unit) := ((f52 k (a0.1, a0.2)).bind fun r1 => (if ¬ (r1.1 = 0) then some ((-1), ()) else ((f53 k a0.2 ((a0.1, a0.2), (a1.1, a1.2))).bind fun r2 => some (r2.1, ()))))
theorem f15_entry_P (k : Nat) (xs : DL f15_sig) : f15_a k (.c (f15_p 1) 0 :: []) .nx (σ0 12 48 f15_sig xs) = f15_entry_B k xs.1 xs.2.1 := by kernel_rfl
def f15 (k : Nat) (a0 : Td8) (a1 : (Int × Int)) : Option (Int × Unit) := f15_entry_B k a0 a1
theorem f15_eq (k : Nat) (xs : DL f15_sig) : den T f15_Y (f15_E k) f15_A k f15_c 0 (σ0 12 48 f15_sig xs) (Kfin T f15_rs f15_ts) = f15 k xs.1 xs.2.1 :=
 Eq.trans (Eq.trans den_sb (ap_at (ap_cons _ rfl) _)) ((f15_entry_P k xs).trans (by rfl))
def f15_con (k : Nat) : Con := ⟨f15_sig, f15_rs, fun xs => f15 k xs.1 xs.2.1⟩
theorem f15_ok (k : Nat) : PureOK Try.prog 15 f15_sig f15_rs (fun xs => f15 k xs.1 xs.2.1) :=
 (pure_of_den (k := k) (A := f15_A) (T := T) (Y := f15_Y) (E := f15_E k) (M := 48) (ts := f15_ts) T_ok ⟨f52_ok k, f53_ok k, trivial⟩ ⟨f52_ent, f53_ent, trivial⟩ mixed (f := 15) (fn := Try.f15) (c := f15_c) (by kernel_rfl) (by kernel_rfl) (by kernel_rfl) (by decide) (by kernel_rfl)).congr fun xs => (f15_eq k xs).symm
theorem f15_ent : Ent Try.prog 15 := fun args w => by kernel_rfl
def f57_c : Code := Try.f57.body.getD .skip
abbrev f57_p (n : Nat) : Code := sb f57_c n
abbrev f57_sig : List PT := [(false, (.int .i64))]
abbrev f57_rs : List RT := [.d false (.int .u64)]
abbrev f57_ts : List RV := [.tmp 2]
abbrev f57_S := St → Option (RDL f57_rs)
abbrev f57_L := List (Fr (RDL f57_rs))
def f57_Y : Tys := []
def f57_E (k : Nat) : Env := []
def f57_A : Ann := {}
abbrev f57_a (k : Nat) (F : f57_L) : Kont (RDL f57_rs) := ap T f57_Y (f57_E k) f57_A k (Kfin T f57_rs f57_ts) F
def f57_entry_B (k : Nat) (a0 : Int) : Option (Int × Unit) := (if a0 < 0 then some (IntKind.u64.wrap (0 - (IntKind.u64.wrap (a0))), ()) else some (IntKind.u64.wrap (a0), ()))
theorem f57_entry_P (k : Nat) (xs : DL f57_sig) : f57_a k (.c (f57_p 1) 0 :: []) .nx (σ0 10 32 f57_sig xs) = f57_entry_B k xs.1 := by kernel_rfl
def f57 (k : Nat) (a0 : Int) : Option (Int × Unit) := f57_entry_B k a0
theorem f57_eq (k : Nat) (xs : DL f57_sig) : den T f57_Y (f57_E k) f57_A k f57_c 0 (σ0 10 32 f57_sig xs) (Kfin T f57_rs f57_ts) = f57 k xs.1 :=
 Eq.trans (Eq.trans den_sb (ap_at (ap_cons _ rfl) _)) ((f57_entry_P k xs).trans (by rfl))
def f57_con (k : Nat) : Con := ⟨f57_sig, f57_rs, fun xs => f57 k xs.1⟩
theorem f57_ok (k : Nat) : PureOK Try.prog 57 f57_sig f57_rs (fun xs => f57 k xs.1) :=
 (pure_of_den (k := k) (A := f57_A) (T := T) (Y := f57_Y) (E := f57_E k) (M := 32) (ts := f57_ts) T_ok trivial trivial mixed (f := 57) (fn := Try.f57) (c := f57_c) (by kernel_rfl) (by kernel_rfl) (by kernel_rfl) (by decide) (by kernel_rfl)).congr fun xs => (f57_eq k xs).symm
theorem f57_ent : Ent Try.prog 57 := fun args w => by kernel_rfl
def f58_c : Code := Try.f58.body.getD .skip
abbrev f58_p (n : Nat) : Code := sb f58_c n
abbrev f58_sig : List PT := [(false, (.int .u64)), (false, (.int .u64))]
abbrev f58_rs : List RT := [.d false (.int .u64)]
abbrev f58_ts : List RV := [.tmp 4]
abbrev f58_S := St → Option (RDL f58_rs)
abbrev f58_L := List (Fr (RDL f58_rs))
def f58_Y : Tys := []
def f58_E (k : Nat) : Env := []
def f58_A : Ann := { loops := [(0, { slots := [(0, .id), (1, .id)] })] }
abbrev f58_a (k : Nat) (F : f58_L) : Kont (RDL f58_rs) := ap T f58_Y (f58_E k) f58_A k (Kfin T f58_rs f58_ts) F
def f58_s_l0 (x0 x1 : Int) : St := mkS 12 48 [(0, .cp (.one (.int .u64 x0))), (1, .cp (.one (.int .u64 x1)))] []
abbrev f58_t_l0 := Int → Int → Option (Int × Unit)
abbrev f58_o_l0 (R : f58_S) : f58_t_l0 := (fun x0 x1 => R (f58_s_l0 x0 x1))
def f58_Q_l0 (k : Nat) (R_l0 : f58_S) : f58_L := [.c (f58_p 24) 0, .j (fun σ => R_l0 (cut f58_A.loops 0 σ)), .blk 0, .c (f58_p 7) 0]
def f58_C_l0 (k n : Nat) (σ : St) : Option (RDL f58_rs) := loopK (fun σ K => den T f58_Y (f58_E k) f58_A k (f58_p 24) 0 σ K) (cut f58_A.loops 0) (f58_a k [.blk 0, .c (f58_p 7) 0]) n σ
def f58_F_l0 (k : Nat) (G_l0 : f58_S) : f58_L := .c (f58_p 24) 0 :: .j (fun σ => G_l0 (cut f58_A.loops 0 σ)) :: .blk 0 :: .c (f58_p 7) 0 :: []
theorem f58_f_l0 (k : Nat) (R_l0 : f58_S) : f58_a k (f58_Q_l0 k R_l0) = f58_a k (f58_F_l0 k R_l0) := (ap_cons _ (ap_cons _ (ap_cons _ (ap_cons _ rfl))))
def f58_entry_B (k : Nat) (g_l0 : f58_t_l0) (a0 a1 : Int) : Option (Int × Unit) := (g_l0 a0 a1)
def f58_l0_B (k : Nat) (g_l0 : f58_t_l0) (x0 x1 : Int) : Option (Int × Unit) := (if 0 < x1 then (if ¬ x1 = 0 then (g_l0 x1 (x0.tmod x1)) else none) else some (x0, ()))
theorem f58_l0_P (k : Nat) (G_l0 : f58_S) : f58_o_l0 (fun σ => f58_a k (f58_F_l0 k G_l0) .nx σ) = f58_l0_B k (f58_o_l0 G_l0) := by kernel_rfl
def f58_l0 (k : Nat) : Nat → f58_t_l0
 | 0 => fun _ _ => none
 | n + 1 => f58_l0_B k (f58_l0 k n)
theorem f58_l0_E (k : Nat) : ∀ n, f58_o_l0 (f58_C_l0 k n) = f58_l0 k n
 | 0 => rfl
 | n + 1 =>
   Eq.trans (congrArg f58_o_l0 (Eq.trans (b := fun σ => f58_a k (f58_Q_l0 k (f58_C_l0 k n)) .nx σ) lp_step (ap_fn (f58_f_l0 k (f58_C_l0 k n))))) ((f58_l0_P k (f58_C_l0 k n)).trans (by rw [f58_l0_E k n] <;> rfl))
theorem f58_entry_P (k : Nat) (G_l0 : f58_S) (xs : DL f58_sig) : f58_a k (.c (f58_p 2) 0 :: .j (fun σ => f58_a k (.j (fun σ => G_l0 (cut f58_A.loops 0 σ)) :: .blk 0 :: .c (f58_p 7) 0 :: []) .nx σ) :: .c (f58_p 7) 0 :: []) .nx (σ0 12 48 f58_sig xs) = f58_entry_B k (f58_o_l0 G_l0) xs.1 xs.2.1 := by kernel_rfl
def f58 (k : Nat) (a0 a1 : Int) : Option (Int × Unit) := f58_entry_B k (f58_l0 k k) a0 a1
theorem f58_fe (k : Nat) : f58_a k [.c (f58_p 1) 0] = f58_a k (.c (f58_p 2) 0 :: .j (fun σ => f58_a k (.j (fun σ => (f58_C_l0 k k) (cut f58_A.loops 0 σ)) :: .blk 0 :: .c (f58_p 7) 0 :: []) .nx σ) :: .c (f58_p 7) 0 :: []) := (Eq.trans ap_sq (ap_cons _ (Eq.trans ap_sq (Eq.trans (ap_bl 0) (Eq.trans (ap_j (Eq.trans (ap_lp (C := (f58_C_l0 k)) (fun _ _ => rfl)) (ap_cons _ (ap_cons _ (ap_cons _ rfl))))) (ap_cons _ (ap_cons _ rfl)))))))
theorem f58_eq (k : Nat) (xs : DL f58_sig) : den T f58_Y (f58_E k) f58_A k f58_c 0 (σ0 12 48 f58_sig xs) (Kfin T f58_rs f58_ts) = f58 k xs.1 xs.2.1 :=
 Eq.trans (Eq.trans den_sb (ap_at (f58_fe k) _)) ((f58_entry_P k (f58_C_l0 k k) xs).trans (by rw [f58_l0_E k k] <;> rfl))
def f58_con (k : Nat) : Con := ⟨f58_sig, f58_rs, fun xs => f58 k xs.1 xs.2.1⟩
theorem f58_ok (k : Nat) : PureOK Try.prog 58 f58_sig f58_rs (fun xs => f58 k xs.1 xs.2.1) :=
 (pure_of_den (k := k) (A := f58_A) (T := T) (Y := f58_Y) (E := f58_E k) (M := 48) (ts := f58_ts) T_ok trivial trivial mixed (f := 58) (fn := Try.f58) (c := f58_c) (by kernel_rfl) (by kernel_rfl) (by kernel_rfl) (by decide) (by kernel_rfl)).congr fun xs => (f58_eq k xs).symm
theorem f58_ent : Ent Try.prog 58 := fun args w => by kernel_rfl
def f59_c : Code := Try.f59.body.getD .skip
abbrev f59_p (n : Nat) : Code := sb f59_c n
abbrev f59_sig : List PT := [(false, .bool), (false, (.int .u64)), (false, (.int .u64))]
abbrev f59_rs : List RT := [.d true Tq1, .d false (.int .i64)]
abbrev f59_ts : List RV := [.cell 6 32, .tmp 7]
abbrev f59_S := St → Option (RDL f59_rs)
abbrev f59_L := List (Fr (RDL f59_rs))
def f59_Y : Tys := []
def f59_E (k : Nat) : Env := []
def f59_A : Ann := { regs := [(1, { slots := [(0, .bool), (1, .id), (2, .id), (6, .id), (13, .bool)], keys := [(6, [])] })] }
abbrev f59_a (k : Nat) (F : f59_L) : Kont (RDL f59_rs) := ap T f59_Y (f59_E k) f59_A k (Kfin T f59_rs f59_ts) F
def f59_s_r1 (x0 : Bool) (x1 : Int) (x13 : Bool) (x2 : Int) : St := mkS 27 96 [(0, aB x0), (1, .cp (.one (.int .u64 x1))), (2, .cp (.one (.int .u64 x2))), (6, aP 6), (13, aB x13)] [(6, .box [cI 0, cI 0])]
abbrev f59_t_r1 := Bool → Int → Bool → Int → Option ((Int × Int) × Int × Unit)
abbrev f59_o_r1 (R : f59_S) : f59_t_r1 := (fun x0 x1 x13 x2 => R (f59_s_r1 x0 x1 x13 x2))
def f59_Q_r1 (k : Nat) : f59_L := [.c (f59_p 13) 0, .c (f59_p 7) 0]
def f59_C_r1 (k : Nat) : f59_S := fun σ => f59_a k (f59_Q_r1 k) .nx σ
def f59_F_r1 (k : Nat) : f59_L := .c (f59_p 13) 0 :: .c (f59_p 7) 0 :: []
theorem f59_f_r1 (k : Nat) : f59_a k (f59_Q_r1 k) = f59_a k (f59_F_r1 k) := (ap_cons _ (ap_cons _ rfl))
def f59_entry_B (k : Nat) (g_r1 : f59_t_r1) (a0 : Bool) (a1 a2 : Int) : Option ((Int × Int) × Int × Unit) := (if 9223372036854775807 < a1 then (g_r1 (decide (a0 = true)) a1 true a2) else (g_r1 (decide (a0 = true)) a1 (decide (9223372036854775807 < a2)) a2))
def f59_r1_B (k : Nat) (x0 : Bool) (x1 : Int) (x13 : Bool) (x2 : Int) : Option ((Int × Int) × Int × Unit) := (if x13 = true then some ((0, 0), 2, ()) else (if x0 = true then some ((w64 (0 - (w64 (x1))), w64 (x2)), 0, ()) else some ((w64 (x1), w64 (x2)), 0, ())))
theorem f59_r1_P (k : Nat) : f59_o_r1 (fun σ => f59_a k (f59_F_r1 k) .nx σ) = f59_r1_B k := by kernel_rfl
def f59_r1 (k : Nat) : f59_t_r1 := f59_r1_B k
theorem f59_r1_E (k : Nat) : f59_o_r1 (f59_C_r1 k) = f59_r1 k :=
 Eq.trans (congrArg f59_o_r1 (ap_fn (f59_f_r1 k))) ((f59_r1_P k).trans (by rfl))
theorem f59_entry_P (k : Nat) (G_r1 : f59_S) (xs : DL f59_sig) : f59_a k (.c (f59_p 2) 0 :: .c (f59_p 12) 0 :: .j G_r1 :: f59_F_r1 k) .nx (σ0 27 96 f59_sig xs) = f59_entry_B k (f59_o_r1 G_r1) xs.1 xs.2.1 xs.2.2.1 := by kernel_rfl
def f59 (k : Nat) (a0 : Bool) (a1 a2 : Int) : Option ((Int × Int) × Int × Unit) := f59_entry_B k (f59_r1 k) a0 a1 a2
theorem f59_fe (k : Nat) : f59_a k [.c (f59_p 1) 0] = f59_a k (.c (f59_p 2) 0 :: .c (f59_p 12) 0 :: .j (f59_C_r1 k) :: f59_F_r1 k) := (Eq.trans ap_sq (ap_cons _ (Eq.trans ap_sq (Eq.trans ap_sq (ap_cons _ (Eq.trans (ap_pass (C := (f59_C_r1 k)) (fun _ => rfl)) (ap_cons _ (f59_f_r1 k))))))))
theorem f59_eq (k : Nat) (xs : DL f59_sig) : den T f59_Y (f59_E k) f59_A k f59_c 0 (σ0 27 96 f59_sig xs) (Kfin T f59_rs f59_ts) = f59 k xs.1 xs.2.1 xs.2.2.1 :=
 Eq.trans (Eq.trans den_sb (ap_at (f59_fe k) _)) ((f59_entry_P k (f59_C_r1 k) xs).trans (by rw [f59_r1_E k] <;> rfl))
def f59_con (k : Nat) : Con := ⟨f59_sig, f59_rs, fun xs => f59 k xs.1 xs.2.1 xs.2.2.1⟩
theorem f59_ok (k : Nat) : PureOK Try.prog 59 f59_sig f59_rs (fun xs => f59 k xs.1 xs.2.1 xs.2.2.1) :=
 (pure_of_den (k := k) (A := f59_A) (T := T) (Y := f59_Y) (E := f59_E k) (M := 96) (ts := f59_ts) T_ok trivial trivial mixed (f := 59) (fn := Try.f59) (c := f59_c) (by kernel_rfl) (by kernel_rfl) (by kernel_rfl) (by decide) (by kernel_rfl)).congr fun xs => (f59_eq k xs).symm
theorem f59_ent : Ent Try.prog 59 := fun args w => by kernel_rfl
def f16_c : Code := Try.f16.body.getD .skip
abbrev f16_p (n : Nat) : Code := sb f16_c n
abbrev f16_sig : List PT := [(false, (.int .i64)), (false, (.int .i64))]
abbrev f16_rs : List RT := [.d true Tq1, .d false (.int .i64)]
abbrev f16_ts : List RV := [.cell 4 32, .tmp 5]
abbrev f16_S := St → Option (RDL f16_rs)
abbrev f16_L := List (Fr (RDL f16_rs))
def f16_Y : Tys := []
def f16_E (k : Nat) : Env := [(57, .c (f57_con k)), (58, .c (f58_con k)), (59, .c (f59_con k))]
def f16_A : Ann := { regs := [(5, { slots := [(4, .id), (5, .id)], keys := [(4, [])] })] }
abbrev f16_a (k : Nat) (F : f16_L) : Kont (RDL f16_rs) := ap T f16_Y (f16_E k) f16_A k (Kfin T f16_rs f16_ts) F
def f16_s_r5 (y4_0 y4_1 x5 : Int) : St := mkS 37 112 [(4, aP 4), (5, aI x5)] [(4, .box [cI y4_0, cI y4_1])]
abbrev f16_t_r5 := Int → Int → Int → Option ((Int × Int) × Int × Unit)
abbrev f16_o_r5 (R : f16_S) : f16_t_r5 := (fun y4_0 y4_1 x5 => R (f16_s_r5 y4_0 y4_1 x5))
def f16_Q_r5 (k : Nat) : f16_L := [.c (f16_p 63) 0]
def f16_C_r5 (k : Nat) : f16_S := fun σ => f16_a k (f16_Q_r5 k) .nx σ
def f16_F_r5 (k : Nat) : f16_L := .c (f16_p 63) 0 :: []
theorem f16_f_r5 (k : Nat) : f16_a k (f16_Q_r5 k) = f16_a k (f16_F_r5 k) := (ap_cons _ rfl)
def f16_entry_B (k : Nat) (g_r5 : f16_t_r5) (a0 a1 : Int) : Option ((Int × Int) × Int × Unit) := (if a1 = 0 then some ((0, 0), 12, ()) else ((f57 k a0).bind fun r1 => ((f57 k a1).bind fun r2 => ((f58 k r1.1 r2.1).bind fun r3 => (if ¬ (decide (a0 < 0) = decide (a1 < 0)) then (if ¬ r3.1 = 0 then (if ¬ r3.1 = 0 then ((f59 k (decide (¬ (a0 = 0))) (IntKind.u64.wrap (r1.1.tdiv r3.1)) (IntKind.u64.wrap (r2.1.tdiv r3.1))).bind fun r4 => (g_r5 r4.1.1 r4.1.2 r4.2.1)) else none) else none) else (if ¬ r3.1 = 0 then (if ¬ r3.1 = 0 then ((f59 k false (IntKind.u64.wrap (r1.1.tdiv r3.1)) (IntKind.u64.wrap (r2.1.tdiv r3.1))).bind fun r5 => (g_r5 r5.1.1 r5.1.2 r5.2.1)) else none) else none))))))
def f16_r5_B (k : Nat) (y4_0 y4_1 x5 : Int) : Option ((Int × Int) × Int × Unit) := some ((y4_0, y4_1), x5, ())
theorem f16_r5_P (k : Nat) : f16_o_r5 (fun σ => f16_a k (f16_F_r5 k) .nx σ) = f16_r5_B k := by kernel_rfl
def f16_r5 (k : Nat) : f16_t_r5 := f16_r5_B k
theorem f16_r5_E (k : Nat) : f16_o_r5 (f16_C_r5 k) = f16_r5 k :=
 Eq.trans (congrArg f16_o_r5 (ap_fn (f16_f_r5 k))) ((f16_r5_P k).trans (by rfl))
theorem f16_entry_P (k : Nat) (G_r5 : f16_S) (xs : DL f16_sig) : f16_a k (.c (f16_p 2) 0 :: .c (f16_p 6) 0 :: .c (f16_p 14) 0 :: .c (f16_p 30) 0 :: .c (f16_p 62) 0 :: .j G_r5 :: f16_F_r5 k) .nx (σ0 37 112 f16_sig xs) = f16_entry_B k (f16_o_r5 G_r5) xs.1 xs.2.1 := by kernel_rfl
def f16 (k : Nat) (a0 a1 : Int) : Option ((Int × Int) × Int × Unit) := f16_entry_B k (f16_r5 k) a0 a1
theorem f16_fe (k : Nat) : f16_a k [.c (f16_p 1) 0] = f16_a k (.c (f16_p 2) 0 :: .c (f16_p 6) 0 :: .c (f16_p 14) 0 :: .c (f16_p 30) 0 :: .c (f16_p 62) 0 :: .j (f16_C_r5 k) :: f16_F_r5 k) := (Eq.trans ap_sq (ap_cons _ (Eq.trans ap_sq (ap_cons _ (Eq.trans ap_sq (ap_cons _ (Eq.trans ap_sq (ap_cons _ (Eq.trans ap_sq (ap_cons _ (Eq.trans (ap_pass (C := (f16_C_r5 k)) (fun _ => rfl)) (ap_cons _ (f16_f_r5 k)))))))))))))
theorem f16_eq (k : Nat) (xs : DL f16_sig) : den T f16_Y (f16_E k) f16_A k f16_c 0 (σ0 37 112 f16_sig xs) (Kfin T f16_rs f16_ts) = f16 k xs.1 xs.2.1 :=
 Eq.trans (Eq.trans den_sb (ap_at (f16_fe k) _)) ((f16_entry_P k (f16_C_r5 k) xs).trans (by rw [f16_r5_E k] <;> rfl))
def f16_con (k : Nat) : Con := ⟨f16_sig, f16_rs, fun xs => f16 k xs.1 xs.2.1⟩
theorem f16_ok (k : Nat) : PureOK Try.prog 16 f16_sig f16_rs (fun xs => f16 k xs.1 xs.2.1) :=
 (pure_of_den (k := k) (A := f16_A) (T := T) (Y := f16_Y) (E := f16_E k) (M := 112) (ts := f16_ts) T_ok ⟨f57_ok k, f58_ok k, f59_ok k, trivial⟩ ⟨f57_ent, f58_ent, f59_ent, trivial⟩ mixed (f := 16) (fn := Try.f16) (c := f16_c) (by kernel_rfl) (by kernel_rfl) (by kernel_rfl) (by decide) (by kernel_rfl)).congr fun xs => (f16_eq k xs).symm
theorem f16_ent : Ent Try.prog 16 := fun args w => by kernel_rfl
def f11_c : Code := Try.f11.body.getD .skip
abbrev f11_p (n : Nat) : Code := sb f11_c n
abbrev f11_sig : List PT := [(true, Tq5), (false, Tq0), (true, Tq1)]
abbrev f11_rs : List RT := [.d true Tq1, .d false (.int .i64)]
abbrev f11_ts : List RV := [.cell 6 32, .tmp 7]
abbrev f11_S := St → Option (RDL f11_rs)
abbrev f11_L := List (Fr (RDL f11_rs))
def f11_Y : Tys := []
def f11_E (k : Nat) : Env := [(13, .c (f13_con k)), (15, .c (f15_con k)), (16, .c (f16_con k)), (49, .c (f49_con k)), (50, .c (f50_con k))]
def f11_A : Ann := { loops := [(0, { slots := [(1, .val false (.int .i64)), (3, .id), (5, .id), (6, .id), (10, .id), (11, .id), (12, .id), (37, .id)], keys := [(3, [.val false Tq1, .val false Tq3]), (5, []), (6, []), (10, [])] })] }
abbrev f11_a (k : Nat) (F : f11_L) : Kont (RDL f11_rs) := ap T f11_Y (f11_E k) f11_A k (Kfin T f11_rs f11_ts) F
def f11_s_l0 (y10_0 y10_1 y10_2 : Int) (y3_0 : (List (Int × Int))) (y3_1 : (List (Int × (Int × Int)))) (y5_0 y5_1 : Int) (x1 : (List Int)) (x11 x12 x37 : Int) : St := mkS 79 240 [(1, aV (.int .i64) x1), (3, aP 3), (5, aP 5), (6, aP 6), (10, aP 10), (11, aI x11), (12, aI x12), (37, aI x37)] [(3, .box [cV Tq1 y3_0, cV Tq3 y3_1]), (5, .box [cI y5_0, cI y5_1]), (6, .box [cI 0, cI 0]), (10, .box [cI y10_0, cI y10_1, cI y10_2])]
abbrev f11_t_l0 := Int → Int → Int → (List (Int × Int)) → (List (Int × (Int × Int))) → Int → Int → (List Int) → Int → Int → Int → Option ((Int × Int) × Int × Unit)
abbrev f11_o_l0 (R : f11_S) : f11_t_l0 := (fun y10_0 y10_1 y10_2 y3_0 y3_1 y5_0 y5_1 x1 x11 x12 x37 => R (f11_s_l0 y10_0 y10_1 y10_2 y3_0 y3_1 y5_0 y5_1 x1 x11 x12 x37))
def f11_Q_l0 (k : Nat) (R_l0 : f11_S) : f11_L := [.c (f11_p 4084) 0, .j (fun σ => R_l0 (cut f11_A.loops 0 σ)), .blk 0, .c (f11_p 511) 0]
def f11_C_l0 (k n : Nat) (σ : St) : Option (RDL f11_rs) := loopK (fun σ K => den T f11_Y (f11_E k) f11_A k (f11_p 4084) 0 σ K) (cut f11_A.loops 0) (f11_a k [.blk 0, .c (f11_p 511) 0]) n σ
def f11_F_l0 (k : Nat) (G_l0 : f11_S) : f11_L := .c (f11_p 4084) 0 :: .j (fun σ => G_l0 (cut f11_A.loops 0 σ)) :: .blk 0 :: .c (f11_p 511) 0 :: []
theorem f11_f_l0 (k : Nat) (R_l0 : f11_S) : f11_a k (f11_Q_l0 k R_l0) = f11_a k (f11_F_l0 k R_l0) := (ap_cons _ (ap_cons _ (ap_cons _ (ap_cons _ rfl))))
def f11_entry_B (k : Nat) (g_l0 : f11_t_l0) (a0 : Td8) (a1 : (List Int)) (a2 : (Int × Int)) : Option ((Int × Int) × Int × Unit) := ((f13 k (a0.1, a0.2) a1).bind fun r1 => (if ¬ (r1.1 = 0) then some ((0, 0), r1.1, ()) else ((f49 k (a2.1, a2.2)).bind fun r2 => (if ¬ (r2.1 = true) then some ((0, 0), 1, ()) else ((f15 k (a0.1, a0.2) (a2.1, a2.2)).bind fun r3 => (if r3.1 < 0 then some ((0, 0), 4, ()) else (if 0 ≤ r3.1 then (if r3.1 < (a0.2.length : Int) then (g_l0 ((a0.2.getD (r3.1).toNat (0, (0, 0))).1) (((a0.2.getD (r3.1).toNat (0, (0, 0))).2).1) (((a0.2.getD (r3.1).toNat (0, (0, 0))).2).2) a0.1 a0.2 a2.1 a2.2 a1 0 0 0) else none) else none)))))))
def f11_l0_B (k : Nat) (g_l0 : f11_t_l0) (y10_0 y10_1 y10_2 : Int) (y3_0 : (List (Int × Int))) (y3_1 : (List (Int × (Int × Int)))) (y5_0 y5_1 : Int) (x1 : (List Int)) (x11 x12 x37 : Int) : Option ((Int × Int) × Int × Unit) := (if x37 < 3 then (if 0 ≤ ((w64 (x37 + 1)).tmod 3) then (if ((w64 (x37 + 1)).tmod 3) < (3 : Int) then (if 0 ≤ (([y10_0, y10_1, y10_2] : List Int).getD ((((w64 (x37 + 1)).tmod 3)).toNat) 0) then (if (([y10_0, y10_1, y10_2] : List Int).getD ((((w64 (x37 + 1)).tmod 3)).toNat) 0) < (y3_0.length : Int) then (if 0 ≤ ((w64 (x37 + 2)).tmod 3) then (if ((w64 (x37 + 2)).tmod 3) < (3 : Int) then (if 0 ≤ (([y10_0, y10_1, y10_2] : List Int).getD ((((w64 (x37 + 2)).tmod 3)).toNat) 0) then (if (([y10_0, y10_1, y10_2] : List Int).getD ((((w64 (x37 + 2)).tmod 3)).toNat) 0) < (y3_0.length : Int) then ((f50 k ((y3_0.getD ((([y10_0, y10_1, y10_2] : List Int).getD ((((w64 (x37 + 1)).tmod 3)).toNat) 0)).toNat (0, 0)).1, (y3_0.getD ((([y10_0, y10_1, y10_2] : List Int).getD ((((w64 (x37 + 1)).tmod 3)).toNat) 0)).toNat (0, 0)).2) ((y3_0.getD ((([y10_0, y10_1, y10_2] : List Int).getD ((((w64 (x37 + 2)).tmod 3)).toNat) 0)).toNat (0, 0)).1, (y3_0.getD ((([y10_0, y10_1, y10_2] : List Int).getD ((((w64 (x37 + 2)).tmod 3)).toNat) 0)).toNat (0, 0)).2) (y5_0, y5_1)).bind fun r1 => (if 0 ≤ x37 then (if x37 < (3 : Int) then (if 0 ≤ (([y10_0, y10_1, y10_2] : List Int).getD ((x37).toNat) 0) then (if (([y10_0, y10_1, y10_2] : List Int).getD ((x37).toNat) 0) < (x1.length : Int) then (g_l0 y10_0 y10_1 y10_2 y3_0 y3_1 y5_0 y5_1 x1 (w64 (x11 + (w64 (r1.1 * (x1.getD ((([y10_0, y10_1, y10_2] : List Int).getD ((x37).toNat) 0)).toNat 0))))) (w64 (x12 + r1.1)) (w64 (x37 + 1))) else none) else none) else none) else none)) else none) else none) else none) else none) else none) else none) else none) else none) else ((f16 k x11 x12).bind fun r2 => some ((r2.1.1, r2.1.2), r2.2.1, ())))
theorem f11_l0_P (k : Nat) (G_l0 : f11_S) : f11_o_l0 (fun σ => f11_a k (f11_F_l0 k G_l0) .nx σ) = f11_l0_B k (f11_o_l0 G_l0) := by kernel_rfl
def f11_l0 (k : Nat) : Nat → f11_t_l0
 | 0 => fun _ _ _ _ _ _ _ _ _ _ _ => none
 | n + 1 => f11_l0_B k (f11_l0 k n)
theorem f11_l0_E (k : Nat) : ∀ n, f11_o_l0 (f11_C_l0 k n) = f11_l0 k n
 | 0 => rfl
 | n + 1 =>
   Eq.trans (congrArg f11_o_l0 (Eq.trans (b := fun σ => f11_a k (f11_Q_l0 k (f11_C_l0 k n)) .nx σ) lp_step (ap_fn (f11_f_l0 k (f11_C_l0 k n))))) ((f11_l0_P k (f11_C_l0 k n)).trans (by rw [f11_l0_E k n] <;> rfl))
theorem f11_entry_P (k : Nat) (G_l0 : f11_S) (xs : DL f11_sig) : f11_a k (.c (f11_p 2) 0 :: .c (f11_p 6) 0 :: .c (f11_p 14) 0 :: .c (f11_p 30) 0 :: .c (f11_p 62) 0 :: .c (f11_p 126) 0 :: .c (f11_p 254) 0 :: .c (f11_p 1020) 0 :: .j (fun σ => f11_a k (.j (fun σ => G_l0 (cut f11_A.loops 0 σ)) :: .blk 0 :: .c (f11_p 511) 0 :: []) .nx σ) :: .c (f11_p 511) 0 :: []) .nx (σ0 79 240 f11_sig xs) = f11_entry_B k (f11_o_l0 G_l0) xs.1 xs.2.1 xs.2.2.1 := by kernel_rfl
def f11 (k : Nat) (a0 : Td8) (a1 : (List Int)) (a2 : (Int × Int)) : Option ((Int × Int) × Int × Unit) := f11_entry_B k (f11_l0 k k) a0 a1 a2
theorem f11_fe (k : Nat) : f11_a k [.c (f11_p 1) 0] = f11_a k (.c (f11_p 2) 0 :: .c (f11_p 6) 0 :: .c (f11_p 14) 0 :: .c (f11_p 30) 0 :: .c (f11_p 62) 0 :: .c (f11_p 126) 0 :: .c (f11_p 254) 0 :: .c (f11_p 1020) 0 :: .j (fun σ => f11_a k (.j (fun σ => (f11_C_l0 k k) (cut f11_A.loops 0 σ)) :: .blk 0 :: .c (f11_p 511) 0 :: []) .nx σ) :: .c (f11_p 511) 0 :: []) := (Eq.trans ap_sq (ap_cons _ (Eq.trans ap_sq (ap_cons _ (Eq.trans ap_sq (ap_cons _ (Eq.trans ap_sq (ap_cons _ (Eq.trans ap_sq (ap_cons _ (Eq.trans ap_sq (ap_cons _ (Eq.trans ap_sq (ap_cons _ (Eq.trans ap_sq (Eq.trans ap_sq (ap_cons _ (Eq.trans (ap_bl 0) (Eq.trans (ap_j (Eq.trans (ap_lp (C := (f11_C_l0 k)) (fun _ _ => rfl)) (ap_cons _ (ap_cons _ (ap_cons _ rfl))))) (ap_cons _ (ap_cons _ rfl)))))))))))))))))))))
theorem f11_eq (k : Nat) (xs : DL f11_sig) : den T f11_Y (f11_E k) f11_A k f11_c 0 (σ0 79 240 f11_sig xs) (Kfin T f11_rs f11_ts) = f11 k xs.1 xs.2.1 xs.2.2.1 :=
 Eq.trans (Eq.trans den_sb (ap_at (f11_fe k) _)) ((f11_entry_P k (f11_C_l0 k k) xs).trans (by rw [f11_l0_E k k] <;> rfl))
def f11_con (k : Nat) : Con := ⟨f11_sig, f11_rs, fun xs => f11 k xs.1 xs.2.1 xs.2.2.1⟩
theorem f11_ok (k : Nat) : PureOK Try.prog 11 f11_sig f11_rs (fun xs => f11 k xs.1 xs.2.1 xs.2.2.1) :=
 (pure_of_den (k := k) (A := f11_A) (T := T) (Y := f11_Y) (E := f11_E k) (M := 240) (ts := f11_ts) T_ok ⟨f13_ok k, f15_ok k, f16_ok k, f49_ok k, f50_ok k, trivial⟩ ⟨f13_ent, f15_ent, f16_ent, f49_ent, f50_ent, trivial⟩ mixed (f := 11) (fn := Try.f11) (c := f11_c) (by kernel_rfl) (by kernel_rfl) (by kernel_rfl) (by decide) (by kernel_rfl)).congr fun xs => (f11_eq k xs).symm
theorem f11_ent : Ent Try.prog 11 := fun args w => by kernel_rfl
def f51_c : Code := Try.f51.body.getD .skip
abbrev f51_p (n : Nat) : Code := sb f51_c n
abbrev f51_sig : List PT := []
abbrev f51_rs : List RT := [.d true Tq5]
abbrev f51_ts : List RV := [.cell 0 25]
abbrev f51_S := St → Option (RDL f51_rs)
abbrev f51_L := List (Fr (RDL f51_rs))
def f51_Y : Tys := [(28, Tq1), (38, Tq3)]
def f51_E (k : Nat) : Env := []
def f51_A : Ann := {}
abbrev f51_a (k : Nat) (F : f51_L) : Kont (RDL f51_rs) := ap T f51_Y (f51_E k) f51_A k (Kfin T f51_rs f51_ts) F
def f51_entry_B (k : Nat)  : Option (Td8 × Unit) := some (([(0, 0), (0, 2), (2, 0)], [(0, (2, 1))]), ())
theorem f51_entry_P (k : Nat) (xs : DL f51_sig) : f51_a k (.c (f51_p 1) 0 :: []) .nx (σ0 8 32 f51_sig xs) = f51_entry_B k  := by kernel_rfl
def f51 (k : Nat)  : Option (Td8 × Unit) := f51_entry_B k
theorem f51_eq (k : Nat) (xs : DL f51_sig) : den T f51_Y (f51_E k) f51_A k f51_c 0 (σ0 8 32 f51_sig xs) (Kfin T f51_rs f51_ts) = f51 k  :=
 Eq.trans (Eq.trans den_sb (ap_at (ap_cons _ rfl) _)) ((f51_entry_P k xs).trans (by rfl))
def f51_con (k : Nat) : Con := ⟨f51_sig, f51_rs, fun xs => f51 k ⟩
theorem f51_ok (k : Nat) : PureOK Try.prog 51 f51_sig f51_rs (fun xs => f51 k ) :=
 (pure_of_den (k := k) (A := f51_A) (T := T) (Y := f51_Y) (E := f51_E k) (M := 32) (ts := f51_ts) T_ok trivial trivial mixed (f := 51) (fn := Try.f51) (c := f51_c) (by kernel_rfl) (by kernel_rfl) (by kernel_rfl) (by decide) (by kernel_rfl)).congr fun xs => (f51_eq k xs).symm
theorem f51_ent : Ent Try.prog 51 := fun args w => by kernel_rfl
def f12_c : Code := Try.f12.body.getD .skip
abbrev f12_p (n : Nat) : Code := sb f12_c n
abbrev f12_sig : List PT := []
abbrev f12_rs : List RT := [.d false .bool]
abbrev f12_ts : List RV := [.tmp 0]
abbrev f12_S := St → Option (RDL f12_rs)
abbrev f12_L := List (Fr (RDL f12_rs))
def f12_Y : Tys := [(3, (.int .i64))]
def f12_E (k : Nat) : Env := [(11, .c (f11_con k)), (51, .c (f51_con k))]
def f12_A : Ann := { regs := [(2, { slots := [(0, .bool)] })] }
abbrev f12_a (k : Nat) (F : f12_L) : Kont (RDL f12_rs) := ap T f12_Y (f12_E k) f12_A k (Kfin T f12_rs f12_ts) F
def f12_s_r2 (x0 : Bool) : St := mkS 17 64 [(0, aB x0)] []
abbrev f12_t_r2 := Bool → Option (Bool × Unit)
abbrev f12_o_r2 (R : f12_S) : f12_t_r2 := (fun x0 => R (f12_s_r2 x0))
def f12_Q_r2 (k : Nat) : f12_L := [.c (f12_p 15) 0]
def f12_C_r2 (k : Nat) : f12_S := fun σ => f12_a k (f12_Q_r2 k) .nx σ
def f12_F_r2 (k : Nat) : f12_L := .c (f12_p 15) 0 :: []
theorem f12_f_r2 (k : Nat) : f12_a k (f12_Q_r2 k) = f12_a k (f12_F_r2 k) := (ap_cons _ rfl)
def f12_entry_B (k : Nat) (g_r2 : f12_t_r2)  : Option (Bool × Unit) := ((f51 k ).bind fun r1 => ((f11 k (r1.1.1, r1.1.2) ([0, 0, 4]) (1, 0)).bind fun r2 => (if r2.2.1 = 0 then (g_r2 (decide ((r2.1.1 = 2) ∧ (r2.1.2 = 1)))) else (g_r2 false))))
def f12_r2_B (k : Nat) (x0 : Bool) : Option (Bool × Unit) := some (decide (x0 = true), ())
theorem f12_r2_P (k : Nat) : f12_o_r2 (fun σ => f12_a k (f12_F_r2 k) .nx σ) = f12_r2_B k := by kernel_rfl
def f12_r2 (k : Nat) : f12_t_r2 := f12_r2_B k
theorem f12_r2_E (k : Nat) : f12_o_r2 (f12_C_r2 k) = f12_r2 k :=
 Eq.trans (congrArg f12_o_r2 (ap_fn (f12_f_r2 k))) ((f12_r2_P k).trans (by rfl))
theorem f12_entry_P (k : Nat) (G_r2 : f12_S) (xs : DL f12_sig) : f12_a k (.c (f12_p 2) 0 :: .c (f12_p 6) 0 :: .c (f12_p 14) 0 :: .j G_r2 :: f12_F_r2 k) .nx (σ0 17 64 f12_sig xs) = f12_entry_B k (f12_o_r2 G_r2)  := by kernel_rfl
def f12 (k : Nat)  : Option (Bool × Unit) := f12_entry_B k (f12_r2 k)
theorem f12_fe (k : Nat) : f12_a k [.c (f12_p 1) 0] = f12_a k (.c (f12_p 2) 0 :: .c (f12_p 6) 0 :: .c (f12_p 14) 0 :: .j (f12_C_r2 k) :: f12_F_r2 k) := (Eq.trans ap_sq (ap_cons _ (Eq.trans ap_sq (ap_cons _ (Eq.trans ap_sq (ap_cons _ (Eq.trans (ap_pass (C := (f12_C_r2 k)) (fun _ => rfl)) (ap_cons _ (f12_f_r2 k)))))))))
theorem f12_eq (k : Nat) (xs : DL f12_sig) : den T f12_Y (f12_E k) f12_A k f12_c 0 (σ0 17 64 f12_sig xs) (Kfin T f12_rs f12_ts) = f12 k  :=
 Eq.trans (Eq.trans den_sb (ap_at (f12_fe k) _)) ((f12_entry_P k (f12_C_r2 k) xs).trans (by rw [f12_r2_E k] <;> rfl))
def f12_con (k : Nat) : Con := ⟨f12_sig, f12_rs, fun xs => f12 k ⟩
theorem f12_ok (k : Nat) : PureOK Try.prog 12 f12_sig f12_rs (fun xs => f12 k ) :=
 (pure_of_den (k := k) (A := f12_A) (T := T) (Y := f12_Y) (E := f12_E k) (M := 64) (ts := f12_ts) T_ok ⟨f11_ok k, f51_ok k, trivial⟩ ⟨f11_ent, f51_ent, trivial⟩ mixed (f := 12) (fn := Try.f12) (c := f12_c) (by kernel_rfl) (by kernel_rfl) (by kernel_rfl) (by decide) (by kernel_rfl)).congr fun xs => (f12_eq k xs).symm
theorem f12_ent : Ent Try.prog 12 := fun args w => by kernel_rfl
def f60_c : Code := Try.f60.body.getD .skip
abbrev f60_p (n : Nat) : Code := sb f60_c n
abbrev f60_sig : List PT := [(false, (.int .i64)), (false, (.int .i64))]
abbrev f60_rs : List RT := [.d false .bool]
abbrev f60_ts : List RV := [.tmp 4]
abbrev f60_S := St → Option (RDL f60_rs)
abbrev f60_L := List (Fr (RDL f60_rs))
def f60_Y : Tys := []
def f60_E (k : Nat) : Env := []
def f60_A : Ann := {}
abbrev f60_a (k : Nat) (F : f60_L) : Kont (RDL f60_rs) := ap T f60_Y (f60_E k) f60_A k (Kfin T f60_rs f60_ts) F
def f60_entry_B (k : Nat) (a0 a1 : Int) : Option (Bool × Unit) := some (decide (a1 < a0), ())
theorem f60_entry_P (k : Nat) (xs : DL f60_sig) : f60_a k (.c (f60_p 1) 0 :: []) .nx (σ0 8 32 f60_sig xs) = f60_entry_B k xs.1 xs.2.1 := by kernel_rfl
def f60 (k : Nat) (a0 a1 : Int) : Option (Bool × Unit) := f60_entry_B k a0 a1
theorem f60_eq (k : Nat) (xs : DL f60_sig) : den T f60_Y (f60_E k) f60_A k f60_c 0 (σ0 8 32 f60_sig xs) (Kfin T f60_rs f60_ts) = f60 k xs.1 xs.2.1 :=
 Eq.trans (Eq.trans den_sb (ap_at (ap_cons _ rfl) _)) ((f60_entry_P k xs).trans (by rfl))
def f60_con (k : Nat) : Con := ⟨f60_sig, f60_rs, fun xs => f60 k xs.1 xs.2.1⟩
theorem f60_ok (k : Nat) : PureOK Try.prog 60 f60_sig f60_rs (fun xs => f60 k xs.1 xs.2.1) :=
 (pure_of_den (k := k) (A := f60_A) (T := T) (Y := f60_Y) (E := f60_E k) (M := 32) (ts := f60_ts) T_ok trivial trivial mixed (f := 60) (fn := Try.f60) (c := f60_c) (by kernel_rfl) (by kernel_rfl) (by kernel_rfl) (by decide) (by kernel_rfl)).congr fun xs => (f60_eq k xs).symm
theorem f60_ent : Ent Try.prog 60 := fun args w => by kernel_rfl
def f61_c : Code := Try.f61.body.getD .skip
abbrev f61_p (n : Nat) : Code := sb f61_c n
abbrev f61_sig : List PT := [(false, (.int .i64)), (false, (.int .i64))]
abbrev f61_rs : List RT := [.d true Tq1]
abbrev f61_ts : List RV := [.cell 4 47]
abbrev f61_S := St → Option (RDL f61_rs)
abbrev f61_L := List (Fr (RDL f61_rs))
def f61_Y : Tys := []
def f61_E (k : Nat) : Env := []
def f61_A : Ann := {}
abbrev f61_a (k : Nat) (F : f61_L) : Kont (RDL f61_rs) := ap T f61_Y (f61_E k) f61_A k (Kfin T f61_rs f61_ts) F
def f61_entry_B (k : Nat) (a0 a1 : Int) : Option ((Int × Int) × Unit) := some (((mx2 false a0 a1), (mx2 true a0 a1)), ())
theorem f61_entry_P (k : Nat) (xs : DL f61_sig) : f61_a k (.c (f61_p 1) 0 :: []) .nx (σ0 12 48 f61_sig xs) = f61_entry_B k xs.1 xs.2.1 := by kernel_rfl
def f61 (k : Nat) (a0 a1 : Int) : Option ((Int × Int) × Unit) := f61_entry_B k a0 a1
theorem f61_eq (k : Nat) (xs : DL f61_sig) : den T f61_Y (f61_E k) f61_A k f61_c 0 (σ0 12 48 f61_sig xs) (Kfin T f61_rs f61_ts) = f61 k xs.1 xs.2.1 :=
 Eq.trans (Eq.trans den_sb (ap_at (ap_cons _ rfl) _)) ((f61_entry_P k xs).trans (by rfl))
def f61_con (k : Nat) : Con := ⟨f61_sig, f61_rs, fun xs => f61 k xs.1 xs.2.1⟩
theorem f61_ok (k : Nat) : PureOK Try.prog 61 f61_sig f61_rs (fun xs => f61 k xs.1 xs.2.1) :=
 (pure_of_den (k := k) (A := f61_A) (T := T) (Y := f61_Y) (E := f61_E k) (M := 48) (ts := f61_ts) T_ok trivial trivial mixed (f := 61) (fn := Try.f61) (c := f61_c) (by kernel_rfl) (by kernel_rfl) (by kernel_rfl) (by decide) (by kernel_rfl)).congr fun xs => (f61_eq k xs).symm
theorem f61_ent : Ent Try.prog 61 := fun args w => by kernel_rfl
def f17_c : Code := Try.f17.body.getD .skip
abbrev f17_p (n : Nat) : Code := sb f17_c n
abbrev f17_sig : List PT := [(true, Tq5), (false, Tq0), (false, (.int .i64))]
abbrev f17_rs : List RT := [.new Tq17, .d false (.int .i64)]
abbrev f17_ts : List RV := [.tmp 6, .tmp 7]
abbrev f17_S := St → Option (RDL f17_rs)
abbrev f17_L := List (Fr (RDL f17_rs))
def f17_Y : Tys := [(49, Tq17)]
def f17_E (k : Nat) : Env := [(13, .c (f13_con k)), (60, .c (f60_con k)), (61, .c (f61_con k))]
def f17_A : Ann := { regs := [(4, { slots := [(1, .val false (.int .i64)), (2, .id), (3, .id), (29, .bool)], keys := [(3, [.val false Tq1, .val false Tq3])] }), (16, { mat := [(9, 98, Tq17)], slots := [(1, .val false (.int .i64)), (2, .id), (9, .id), (11, .id), (12, .id), (13, .id), (14, .id), (16, .id), (17, .id), (31, .val false Tq3), (32, .id), (33, .id), (37, .id), (48, .bool)], keys := [(11, []), (12, []), (13, []), (98, [])] }), (19, { mat := [(9, 98, Tq17)], slots := [(1, .val false (.int .i64)), (2, .id), (9, .id), (11, .id), (12, .id), (13, .id), (14, .id), (16, .id), (17, .id), (31, .val false Tq3), (32, .id), (33, .id), (37, .id), (69, .bool)], keys := [(11, []), (12, []), (13, []), (98, [])] })], loops := [(0, { mat := [(9, 98, Tq17)], slots := [(1, .val false (.int .i64)), (2, .id), (9, .id), (31, .val false Tq3), (32, .id), (33, .id)], keys := [(98, [])] }), (2, { mat := [(9, 98, Tq17)], slots := [(1, .val false (.int .i64)), (2, .id), (9, .id), (11, .id), (12, .id), (13, .id), (14, .id), (31, .val false Tq3), (32, .id), (33, .id), (37, .id)], keys := [(11, []), (12, []), (13, []), (98, [])] })], conds := [(24, { mat := [(9, 98, Tq17)], slots := [(1, .val false (.int .i64)), (2, .id), (9, .id), (31, .val false Tq3), (32, .id), (33, .id)], keys := [(98, [])] }), (17, { mat := [(9, 98, Tq17)], slots := [(1, .val false (.int .i64)), (2, .id), (9, .id), (11, .id), (12, .id), (13, .id), (14, .id), (31, .val false Tq3), (32, .id), (33, .id), (37, .id)], keys := [(11, []), (12, []), (13, []), (98, [])] })] }
abbrev f17_a (k : Nat) (F : f17_L) : Kont (RDL f17_rs) := ap T f17_Y (f17_E k) f17_A k (Kfin T f17_rs f17_ts) F
def f17_s_r4 (y3_0 : (List (Int × Int))) (y3_1 : (List (Int × (Int × Int)))) (x1 : (List Int)) (x2 : Int) (x29 : Bool) : St := mkS 101 304 [(1, aV (.int .i64) x1), (2, aI x2), (3, aP 3), (29, aB x29)] [(3, .box [cV Tq1 y3_0, cV Tq3 y3_1])]
abbrev f17_t_r4 := (List (Int × Int)) → (List (Int × (Int × Int))) → (List Int) → Int → Bool → Option ((List Td18) × Int × Unit)
abbrev f17_o_r4 (R : f17_S) : f17_t_r4 := (fun y3_0 y3_1 x1 x2 x29 => R (f17_s_r4 y3_0 y3_1 x1 x2 x29))
def f17_Q_r4 (k : Nat) : f17_L := [.c (f17_p 29) 0, .c (f17_p 15) 0]
def f17_C_r4 (k : Nat) : f17_S := fun σ => f17_a k (f17_Q_r4 k) .nx σ
def f17_s_l0 (y98 : (List ((Int × Int) × (Int × Int)))) (x1 : (List Int)) (x2 : Int) (x31 : (List (Int × (Int × Int)))) (x32 x33 : Int) : St := mkS 101 304 [(1, aV (.int .i64) x1), (2, aI x2), (9, aO 98), (31, aV Tq3 x31), (32, aI x32), (33, aI x33)] [(98, .vec Tq17 y98)]
abbrev f17_t_l0 := (List ((Int × Int) × (Int × Int))) → (List Int) → Int → (List (Int × (Int × Int))) → Int → Int → Option ((List Td18) × Int × Unit)
abbrev f17_o_l0 (R : f17_S) : f17_t_l0 := (fun y98 x1 x2 x31 x32 x33 => R (f17_s_l0 y98 x1 x2 x31 x32 x33))
def f17_Q_l0 (k : Nat) (R_l0 : f17_S) : f17_L := [.c (f17_p 500) 0, .j (fun σ => R_l0 (cut f17_A.loops 0 σ)), .blk 0, .c (f17_p 63) 0]
def f17_C_l0 (k n : Nat) (σ : St) : Option (RDL f17_rs) := loopK (fun σ K => den T f17_Y (f17_E k) f17_A k (f17_p 500) 0 σ K) (cut f17_A.loops 0) (f17_a k [.blk 0, .c (f17_p 63) 0]) n σ
def f17_s_l2 (y11_0 y11_1 y11_2 y12_0 y12_1 y13_0 y13_1 : Int) (y98 : (List ((Int × Int) × (Int × Int)))) (x1 : (List Int)) (x14 x2 : Int) (x31 : (List (Int × (Int × Int)))) (x32 x33 x37 : Int) : St := mkS 101 304 [(1, aV (.int .i64) x1), (2, aI x2), (9, aO 98), (11, aP 11), (12, aP 12), (13, aP 13), (14, aI x14), (31, aV Tq3 x31), (32, aI x32), (33, aI x33), (37, aI x37)] [(11, .box [cI y11_0, cI y11_1, cI y11_2]), (12, .box [cI y12_0, cI y12_1]), (13, .box [cI y13_0, cI y13_1]), (98, .vec Tq17 y98)]
abbrev f17_t_l2 := Int → Int → Int → Int → Int → Int → Int → (List ((Int × Int) × (Int × Int))) → (List Int) → Int → Int → (List (Int × (Int × Int))) → Int → Int → Int → Option ((List Td18) × Int × Unit)
abbrev f17_o_l2 (R : f17_S) : f17_t_l2 := (fun y11_0 y11_1 y11_2 y12_0 y12_1 y13_0 y13_1 y98 x1 x14 x2 x31 x32 x33 x37 => R (f17_s_l2 y11_0 y11_1 y11_2 y12_0 y12_1 y13_0 y13_1 y98 x1 x14 x2 x31 x32 x33 x37))
def f17_Q_l2 (k : Nat) (R_l0 R_l2 : f17_S) : f17_L := [.c (f17_p 1025652) 2, .j (fun σ => R_l2 (cut f17_A.loops 2 σ)), .blk 2, .c (f17_p 128207) 1, .blk 1, .c (f17_p 4007) 0, .j (fun σ => R_l0 (cut f17_A.loops 0 σ)), .blk 0, .c (f17_p 63) 0]
def f17_C_l2 (k : Nat) (R_l0 : f17_S) (n : Nat) (σ : St) : Option (RDL f17_rs) := loopK (fun σ K => den T f17_Y (f17_E k) f17_A k (f17_p 1025652) 2 σ K) (cut f17_A.loops 2) (f17_a k [.blk 2, .c (f17_p 128207) 1, .blk 1, .c (f17_p 4007) 0, .j (fun σ => R_l0 (cut f17_A.loops 0 σ)), .blk 0, .c (f17_p 63) 0]) n σ
def f17_s_r16 (y11_0 y11_1 y11_2 y12_0 y12_1 y13_0 y13_1 : Int) (y98 : (List ((Int × Int) × (Int × Int)))) (x1 : (List Int)) (x14 x16 x17 x2 : Int) (x31 : (List (Int × (Int × Int)))) (x32 x33 x37 : Int) (x48 : Bool) : St := mkS 101 304 [(1, aV (.int .i64) x1), (2, aI x2), (9, aO 98), (11, aP 11), (12, aP 12), (13, aP 13), (14, aI x14), (16, aI x16), (17, aI x17), (31, aV Tq3 x31), (32, aI x32), (33, aI x33), (37, aI x37), (48, aB x48)] [(11, .box [cI y11_0, cI y11_1, cI y11_2]), (12, .box [cI y12_0, cI y12_1]), (13, .box [cI y13_0, cI y13_1]), (98, .vec Tq17 y98)]
abbrev f17_t_r16 := Int → Int → Int → Int → Int → Int → Int → (List ((Int × Int) × (Int × Int))) → (List Int) → Int → Int → Int → Int → (List (Int × (Int × Int))) → Int → Int → Int → Bool → Option ((List Td18) × Int × Unit)
abbrev f17_o_r16 (R : f17_S) : f17_t_r16 := (fun y11_0 y11_1 y11_2 y12_0 y12_1 y13_0 y13_1 y98 x1 x14 x16 x17 x2 x31 x32 x33 x37 x48 => R (f17_s_r16 y11_0 y11_1 y11_2 y12_0 y12_1 y13_0 y13_1 y98 x1 x14 x16 x17 x2 x31 x32 x33 x37 x48))
def f17_Q_r16 (k : Nat) (R_l2 R_l0 : f17_S) : f17_L := [.c (f17_p 262567117) 4, .blk 4, .blk 3, .c (f17_p 8205223) 2, .j (fun σ => R_l2 (cut f17_A.loops 2 σ)), .blk 2, .c (f17_p 128207) 1, .blk 1, .c (f17_p 4007) 0, .j (fun σ => R_l0 (cut f17_A.loops 0 σ)), .blk 0, .c (f17_p 63) 0]
def f17_C_r16 (k : Nat) (R_l2 R_l0 : f17_S) : f17_S := fun σ => f17_a k (f17_Q_r16 k R_l2 R_l0) .nx σ
def f17_s_c24 (y98 : (List ((Int × Int) × (Int × Int)))) (x1 : (List Int)) (x2 : Int) (x31 : (List (Int × (Int × Int)))) (x32 x33 : Int) : St := mkS 101 304 [(1, aV (.int .i64) x1), (2, aI x2), (9, aO 98), (31, aV Tq3 x31), (32, aI x32), (33, aI x33)] [(98, .vec Tq17 y98)]
abbrev f17_t_c24 := (List ((Int × Int) × (Int × Int))) → (List Int) → Int → (List (Int × (Int × Int))) → Int → Int → Option ((List Td18) × Int × Unit)
abbrev f17_o_c24 (R : f17_S) : f17_t_c24 := (fun y98 x1 x2 x31 x32 x33 => R (f17_s_c24 y98 x1 x2 x31 x32 x33))
def f17_Q_c24 (k : Nat) (R_l0 : f17_S) : f17_L := [.blk 1, .c (f17_p 4007) 0, .j (fun σ => R_l0 (cut f17_A.loops 0 σ)), .blk 0, .c (f17_p 63) 0]
def f17_C_c24 (k : Nat) (R_l0 : f17_S) : f17_S := fun σ => f17_a k (f17_Q_c24 k R_l0) .nx σ
def f17_s_c17 (y11_0 y11_1 y11_2 y12_0 y12_1 y13_0 y13_1 : Int) (y98 : (List ((Int × Int) × (Int × Int)))) (x1 : (List Int)) (x14 x2 : Int) (x31 : (List (Int × (Int × Int)))) (x32 x33 x37 : Int) : St := mkS 101 304 [(1, aV (.int .i64) x1), (2, aI x2), (9, aO 98), (11, aP 11), (12, aP 12), (13, aP 13), (14, aI x14), (31, aV Tq3 x31), (32, aI x32), (33, aI x33), (37, aI x37)] [(11, .box [cI y11_0, cI y11_1, cI y11_2]), (12, .box [cI y12_0, cI y12_1]), (13, .box [cI y13_0, cI y13_1]), (98, .vec Tq17 y98)]
abbrev f17_t_c17 := Int → Int → Int → Int → Int → Int → Int → (List ((Int × Int) × (Int × Int))) → (List Int) → Int → Int → (List (Int × (Int × Int))) → Int → Int → Int → Option ((List Td18) × Int × Unit)
abbrev f17_o_c17 (R : f17_S) : f17_t_c17 := (fun y11_0 y11_1 y11_2 y12_0 y12_1 y13_0 y13_1 y98 x1 x14 x2 x31 x32 x33 x37 => R (f17_s_c17 y11_0 y11_1 y11_2 y12_0 y12_1 y13_0 y13_1 y98 x1 x14 x2 x31 x32 x33 x37))
def f17_Q_c17 (k : Nat) (R_l2 R_l0 : f17_S) : f17_L := [.blk 4, .blk 3, .c (f17_p 8205223) 2, .j (fun σ => R_l2 (cut f17_A.loops 2 σ)), .blk 2, .c (f17_p 128207) 1, .blk 1, .c (f17_p 4007) 0, .j (fun σ => R_l0 (cut f17_A.loops 0 σ)), .blk 0, .c (f17_p 63) 0]
def f17_C_c17 (k : Nat) (R_l2 R_l0 : f17_S) : f17_S := fun σ => f17_a k (f17_Q_c17 k R_l2 R_l0) .nx σ
def f17_s_r19 (y11_0 y11_1 y11_2 y12_0 y12_1 y13_0 y13_1 : Int) (y98 : (List ((Int × Int) × (Int × Int)))) (x1 : (List Int)) (x14 x16 x17 x2 : Int) (x31 : (List (Int × (Int × Int)))) (x32 x33 x37 : Int) (x69 : Bool) : St := mkS 101 304 [(1, aV (.int .i64) x1), (2, aI x2), (9, aO 98), (11, aP 11), (12, aP 12), (13, aP 13), (14, aI x14), (16, aI x16), (17, aI x17), (31, aV Tq3 x31), (32, aI x32), (33, aI x33), (37, aI x37), (69, aB x69)] [(11, .box [cI y11_0, cI y11_1, cI y11_2]), (12, .box [cI y12_0, cI y12_1]), (13, .box [cI y13_0, cI y13_1]), (98, .vec Tq17 y98)]
abbrev f17_t_r19 := Int → Int → Int → Int → Int → Int → Int → (List ((Int × Int) × (Int × Int))) → (List Int) → Int → Int → Int → Int → (List (Int × (Int × Int))) → Int → Int → Int → Bool → Option ((List Td18) × Int × Unit)
abbrev f17_o_r19 (R : f17_S) : f17_t_r19 := (fun y11_0 y11_1 y11_2 y12_0 y12_1 y13_0 y13_1 y98 x1 x14 x16 x17 x2 x31 x32 x33 x37 x69 => R (f17_s_r19 y11_0 y11_1 y11_2 y12_0 y12_1 y13_0 y13_1 y98 x1 x14 x16 x17 x2 x31 x32 x33 x37 x69))
def f17_Q_r19 (k : Nat) (R_l2 R_l0 : f17_S) : f17_L := [.c (f17_p 1050268471) 4, .cond 17, .blk 4, .blk 3, .c (f17_p 8205223) 2, .j (fun σ => R_l2 (cut f17_A.loops 2 σ)), .blk 2, .c (f17_p 128207) 1, .blk 1, .c (f17_p 4007) 0, .j (fun σ => R_l0 (cut f17_A.loops 0 σ)), .blk 0, .c (f17_p 63) 0]
def f17_C_r19 (k : Nat) (R_l2 R_l0 : f17_S) : f17_S := fun σ => f17_a k (f17_Q_r19 k R_l2 R_l0) .nx σ
def f17_F_r4 (k : Nat) (G_l0 : f17_S) : f17_L := .c (f17_p 29) 0 :: .c (f17_p 30) 0 :: .c (f17_p 124) 0 :: .j (fun σ => f17_a k (.j (fun σ => G_l0 (cut f17_A.loops 0 σ)) :: .blk 0 :: .c (f17_p 63) 0 :: []) .nx σ) :: .c (f17_p 63) 0 :: []
theorem f17_f_r4 (k : Nat) : f17_a k (f17_Q_r4 k) = f17_a k (f17_F_r4 k (f17_C_l0 k k)) := (ap_cons _ (Eq.trans ap_sq (ap_cons _ (Eq.trans ap_sq (Eq.trans ap_sq (ap_cons _ (Eq.trans (ap_bl 0) (Eq.trans (ap_j (Eq.trans (ap_lp (C := (f17_C_l0 k)) (fun _ _ => rfl)) (ap_cons _ (ap_cons _ (ap_cons _ rfl))))) (ap_cons _ (ap_cons _ rfl))))))))))
def f17_F_c24 (k : Nat) (G_l0 : f17_S) : f17_L := .blk 1 :: .c (f17_p 4007) 0 :: .j (fun σ => G_l0 (cut f17_A.loops 0 σ)) :: .blk 0 :: .c (f17_p 63) 0 :: []
theorem f17_f_c24 (k : Nat) (R_l0 : f17_S) : f17_a k (f17_Q_c24 k R_l0) = f17_a k (f17_F_c24 k R_l0) := (ap_cons _ (ap_cons _ (ap_cons _ (ap_cons _ (ap_cons _ rfl)))))
def f17_F_l0 (k : Nat) (G_l0 G_l2 G_c24 : f17_S) : f17_L := .c (f17_p 1000) 0 :: .c (f17_p 2002) 0 :: .j (fun σ => f17_a k (.c (f17_p 16024) 1 :: .c (f17_p 32050) 1 :: .c (f17_p 64102) 1 :: .c (f17_p 256412) 1 :: .j (fun σ => f17_a k (.j (fun σ => G_l2 (cut f17_A.loops 2 σ)) :: .blk 2 :: .c (f17_p 256414) 1 :: .c (f17_p 256415) 1 :: .j G_c24 :: f17_F_c24 k G_l0) .nx σ) :: .c (f17_p 256414) 1 :: .c (f17_p 256415) 1 :: .j G_c24 :: f17_F_c24 k G_l0) .nx σ) :: .c (f17_p 4007) 0 :: .j (fun σ => G_l0 (cut f17_A.loops 0 σ)) :: .blk 0 :: .c (f17_p 63) 0 :: []
theorem f17_f_l0 (k : Nat) (R_l0 : f17_S) : f17_a k (f17_Q_l0 k R_l0) = f17_a k (f17_F_l0 k R_l0 (f17_C_l2 k R_l0 k) (f17_C_c24 k R_l0)) := (Eq.trans ap_sq (ap_cons _ (Eq.trans ap_sq (ap_cons _ (Eq.trans ap_sq (Eq.trans (ap_bl 1) (Eq.trans (ap_j (Eq.trans ap_sq (ap_cons _ (Eq.trans ap_sq (ap_cons _ (Eq.trans ap_sq (ap_cons _ (Eq.trans ap_sq (Eq.trans ap_sq (ap_cons _ (Eq.trans (ap_bl 2) (Eq.trans (ap_j (Eq.trans (ap_lp (C := (f17_C_l2 k R_l0)) (fun _ _ => rfl)) (ap_cons _ (ap_cons _ (Eq.trans ap_sq (ap_cons _ (ap_cons _ (Eq.trans (ap_pass (C := (f17_C_c24 k R_l0)) (fun _ => rfl)) (ap_cons _ (f17_f_c24 k R_l0)))))))))) (ap_cons _ (Eq.trans ap_sq (ap_cons _ (ap_cons _ (Eq.trans (ap_pass (C := (f17_C_c24 k R_l0)) (fun _ => rfl)) (ap_cons _ (f17_f_c24 k R_l0))))))))))))))))))) (ap_cons _ (ap_cons _ (ap_cons _ (ap_cons _ (ap_cons _ rfl))))))))))))
def f17_F_c17 (k : Nat) (G_l0 G_l2 G_c24 : f17_S) : f17_L := .blk 4 :: .blk 3 :: .c (f17_p 8205223) 2 :: .j (fun σ => G_l2 (cut f17_A.loops 2 σ)) :: .blk 2 :: .c (f17_p 256414) 1 :: .c (f17_p 256415) 1 :: .j G_c24 :: f17_F_c24 k G_l0
theorem f17_f_c17 (k : Nat) (R_l2 R_l0 : f17_S) : f17_a k (f17_Q_c17 k R_l2 R_l0) = f17_a k (f17_F_c17 k R_l0 R_l2 (f17_C_c24 k R_l0)) := (ap_cons _ (ap_cons _ (ap_cons _ (ap_cons _ (ap_cons _ (Eq.trans ap_sq (ap_cons _ (ap_cons _ (Eq.trans (ap_pass (C := (f17_C_c24 k R_l0)) (fun _ => rfl)) (ap_cons _ (f17_f_c24 k R_l0)))))))))))
def f17_F_r19 (k : Nat) (G_l0 G_l2 G_c24 G_c17 : f17_S) : f17_L := .c (f17_p 1050268471) 4 :: .j (fun σ => G_c17 (cut f17_A.conds 17 σ)) :: f17_F_c17 k G_l0 G_l2 G_c24
theorem f17_f_r19 (k : Nat) (R_l2 R_l0 : f17_S) : f17_a k (f17_Q_r19 k R_l2 R_l0) = f17_a k (f17_F_r19 k R_l0 R_l2 (f17_C_c24 k R_l0) (f17_C_c17 k R_l2 R_l0)) := (ap_cons _ (Eq.trans (ap_condj (C := (f17_C_c17 k R_l2 R_l0)) (fun _ => rfl)) (ap_cons _ (f17_f_c17 k R_l2 R_l0))))
def f17_F_r16 (k : Nat) (G_l0 G_l2 G_c24 G_c17 G_r19 : f17_S) : f17_L := .i (.tmp 48) (fun σ => f17_a k (.c (f17_p 525134234) 4 :: .j (fun σ => G_c17 (cut f17_A.conds 17 σ)) :: f17_F_c17 k G_l0 G_l2 G_c24) .nx σ) (fun σ => f17_a k (.c (f17_p 1050268470) 4 :: .j G_r19 :: f17_F_r19 k G_l0 G_l2 G_c24 G_c17) .nx σ) :: f17_F_c17 k G_l0 G_l2 G_c24
theorem f17_f_r16 (k : Nat) (R_l2 R_l0 : f17_S) : f17_a k (f17_Q_r16 k R_l2 R_l0) = f17_a k (f17_F_r16 k R_l0 R_l2 (f17_C_c24 k R_l0) (f17_C_c17 k R_l2 R_l0) (f17_C_r19 k R_l2 R_l0)) := (Eq.trans (ap_cn (.tmp 48) 17) (Eq.trans (ap_i (ap_cons _ (Eq.trans (ap_condj (C := (f17_C_c17 k R_l2 R_l0)) (fun _ => rfl)) (ap_cons _ (f17_f_c17 k R_l2 R_l0)))) (Eq.trans ap_sq (ap_cons _ (Eq.trans (ap_pass (C := (f17_C_r19 k R_l2 R_l0)) (fun _ => rfl)) (ap_cons _ (f17_f_r19 k R_l2 R_l0)))))) (ap_cons _ (f17_f_c17 k R_l2 R_l0))))
def f17_F_l2 (k : Nat) (G_l0 G_l2 G_r16 G_c24 G_c17 G_r19 : f17_S) : f17_L := .c (f17_p 2051304) 2 :: .c (f17_p 4102610) 2 :: .j (fun σ => f17_a k (.c (f17_p 32820888) 3 :: .c (f17_p 65641778) 3 :: .j (fun σ => f17_a k (.c (f17_p 262567116) 4 :: .j G_r16 :: f17_F_r16 k G_l0 G_l2 G_c24 G_c17 G_r19) .nx σ) :: .blk 3 :: .c (f17_p 8205223) 2 :: .j (fun σ => G_l2 (cut f17_A.loops 2 σ)) :: .blk 2 :: .c (f17_p 256414) 1 :: .c (f17_p 256415) 1 :: .j G_c24 :: f17_F_c24 k G_l0) .nx σ) :: .c (f17_p 8205223) 2 :: .j (fun σ => G_l2 (cut f17_A.loops 2 σ)) :: .blk 2 :: .c (f17_p 256414) 1 :: .c (f17_p 256415) 1 :: .j G_c24 :: f17_F_c24 k G_l0
theorem f17_f_l2 (k : Nat) (R_l0 R_l2 : f17_S) : f17_a k (f17_Q_l2 k R_l0 R_l2) = f17_a k (f17_F_l2 k R_l0 R_l2 (f17_C_r16 k R_l2 R_l0) (f17_C_c24 k R_l0) (f17_C_c17 k R_l2 R_l0) (f17_C_r19 k R_l2 R_l0)) := (Eq.trans ap_sq (ap_cons _ (Eq.trans ap_sq (ap_cons _ (Eq.trans ap_sq (Eq.trans (ap_bl 3) (Eq.trans (ap_j (Eq.trans ap_sq (ap_cons _ (Eq.trans ap_sq (ap_cons _ (Eq.trans (ap_bl 4) (Eq.trans (ap_j (Eq.trans ap_sq (ap_cons _ (Eq.trans (ap_pass (C := (f17_C_r16 k R_l2 R_l0)) (fun _ => rfl)) (ap_cons _ (f17_f_r16 k R_l2 R_l0)))))) (ap_cons _ (ap_cons _ (ap_cons _ (ap_cons _ (ap_cons _ (Eq.trans ap_sq (ap_cons _ (ap_cons _ (Eq.trans (ap_pass (C := (f17_C_c24 k R_l0)) (fun _ => rfl)) (ap_cons _ (f17_f_c24 k R_l0)))))))))))))))))) (ap_cons _ (ap_cons _ (ap_cons _ (ap_cons _ (Eq.trans ap_sq (ap_cons _ (ap_cons _ (Eq.trans (ap_pass (C := (f17_C_c24 k R_l0)) (fun _ => rfl)) (ap_cons _ (f17_f_c24 k R_l0)))))))))))))))))
def f17_entry_B (k : Nat) (g_r4 : f17_t_r4) (a0 : Td8) (a1 : (List Int)) (a2 : Int) : Option ((List Td18) × Int × Unit) := ((f13 k (a0.1, a0.2) a1).bind fun r1 => (if ¬ (r1.1 = 0) then some ([], r1.1, ()) else (if a2 < (-65536) then (g_r4 a0.1 a0.2 a1 a2 true) else (g_r4 a0.1 a0.2 a1 a2 (decide (65536 ≤ a2))))))
def f17_r4_B (k : Nat) (g_l0 : f17_t_l0) (y3_0 : (List (Int × Int))) (y3_1 : (List (Int × (Int × Int)))) (x1 : (List Int)) (x2 : Int) (x29 : Bool) : Option ((List Td18) × Int × Unit) := (if x29 = true then some ([], 1, ()) else (g_l0 ([] : List ((Int × Int) × (Int × Int))) x1 x2 y3_1 (y3_1.length : Int) 0))
def f17_l0_B (k : Nat) (g_l2 : f17_t_l2) (y98 : (List ((Int × Int) × (Int × Int)))) (x1 : (List Int)) (x2 : Int) (x31 : (List (Int × (Int × Int)))) (x32 x33 : Int) : Option ((List Td18) × Int × Unit) := (if x33 < x32 then (if 0 ≤ x33 then (if x33 < (x31.length : Int) then (g_l2 ((x31.getD (x33).toNat (0, (0, 0))).1) (((x31.getD (x33).toNat (0, (0, 0))).2).1) (((x31.getD (x33).toNat (0, (0, 0))).2).2) 0 0 0 0 y98 x1 0 x2 x31 x32 x33 0) else none) else none) else some (y98, 0, ()))
def f17_l2_B (k : Nat) (g_r16 : f17_t_r16) (g_c24 : f17_t_c24) (y11_0 y11_1 y11_2 y12_0 y12_1 y13_0 y13_1 : Int) (y98 : (List ((Int × Int) × (Int × Int)))) (x1 : (List Int)) (x14 x2 : Int) (x31 : (List (Int × (Int × Int)))) (x32 x33 x37 : Int) : Option ((List Td18) × Int × Unit) := (if x37 < 3 then (if 0 ≤ x37 then (if x37 < (3 : Int) then (if 0 ≤ ((w64 (x37 + 1)).tmod 3) then (if ((w64 (x37 + 1)).tmod 3) < (3 : Int) then (if 0 ≤ (([y11_0, y11_1, y11_2] : List Int).getD ((x37).toNat) 0) then (if (([y11_0, y11_1, y11_2] : List Int).getD ((x37).toNat) 0) < (x1.length : Int) then ((f60 k (x1.getD ((([y11_0, y11_1, y11_2] : List Int).getD ((x37).toNat) 0)).toNat 0) x2).bind fun r1 => (if ¬ (r1.1 = true) then (if 0 ≤ (([y11_0, y11_1, y11_2] : List Int).getD ((((w64 (x37 + 1)).tmod 3)).toNat) 0) then (if (([y11_0, y11_1, y11_2] : List Int).getD ((((w64 (x37 + 1)).tmod 3)).toNat) 0) < (x1.length : Int) then ((f60 k (x1.getD ((([y11_0, y11_1, y11_2] : List Int).getD ((((w64 (x37 + 1)).tmod 3)).toNat) 0)).toNat 0) x2).bind fun r2 => (g_r16 y11_0 y11_1 y11_2 y12_0 y12_1 y13_0 y13_1 y98 x1 x14 (([y11_0, y11_1, y11_2] : List Int).getD ((x37).toNat) 0) (([y11_0, y11_1, y11_2] : List Int).getD ((((w64 (x37 + 1)).tmod 3)).toNat) 0) x2 x31 x32 x33 x37 (decide (r2.1 = true)))) else none) else none) else (g_r16 y11_0 y11_1 y11_2 y12_0 y12_1 y13_0 y13_1 y98 x1 x14 (([y11_0, y11_1, y11_2] : List Int).getD ((x37).toNat) 0) (([y11_0, y11_1, y11_2] : List Int).getD ((((w64 (x37 + 1)).tmod 3)).toNat) 0) x2 x31 x32 x33 x37 false))) else none) else none) else none) else none) else none) else none) else (if x14 = 2 then (if (y98.length + 1) * 32 ≤ 140737488355328 then (g_c24 (y98 ++ [((y13_0, y13_1), (y12_0, y12_1))]) x1 x2 x31 x32 x33) else none) else (g_c24 y98 x1 x2 x31 x32 x33)))
def f17_r16_B (k : Nat) (g_c17 : f17_t_c17) (g_r19 : f17_t_r19) (y11_0 y11_1 y11_2 y12_0 y12_1 y13_0 y13_1 : Int) (y98 : (List ((Int × Int) × (Int × Int)))) (x1 : (List Int)) (x14 x16 x17 x2 : Int) (x31 : (List (Int × (Int × Int)))) (x32 x33 x37 : Int) (x48 : Bool) : Option ((List Td18) × Int × Unit) := (if x48 = true then ((f61 k x16 x17).bind fun r1 => (g_c17 y11_0 y11_1 y11_2 r1.1.1 r1.1.2 y13_0 y13_1 y98 x1 (w64 (x14 + 1)) x2 x31 x32 x33 x37)) else (if 0 ≤ x16 then (if x16 < (x1.length : Int) then ((f60 k (x1.getD (x16).toNat 0) x2).bind fun r2 => (if r2.1 = true then (if 0 ≤ x17 then (if x17 < (x1.length : Int) then ((f60 k (x1.getD (x17).toNat 0) x2).bind fun r3 => (g_r19 y11_0 y11_1 y11_2 y12_0 y12_1 y13_0 y13_1 y98 x1 x14 x16 x17 x2 x31 x32 x33 x37 (decide (¬ (r3.1 = true))))) else none) else none) else (g_r19 y11_0 y11_1 y11_2 y12_0 y12_1 y13_0 y13_1 y98 x1 x14 x16 x17 x2 x31 x32 x33 x37 false))) else none) else none))
def f17_c24_B (k : Nat) (g_l0 : f17_t_l0) (y98 : (List ((Int × Int) × (Int × Int)))) (x1 : (List Int)) (x2 : Int) (x31 : (List (Int × (Int × Int)))) (x32 x33 : Int) : Option ((List Td18) × Int × Unit) := (g_l0 y98 x1 x2 x31 x32 (w64 (x33 + 1)))
def f17_c17_B (k : Nat) (g_l2 : f17_t_l2) (y11_0 y11_1 y11_2 y12_0 y12_1 y13_0 y13_1 : Int) (y98 : (List ((Int × Int) × (Int × Int)))) (x1 : (List Int)) (x14 x2 : Int) (x31 : (List (Int × (Int × Int)))) (x32 x33 x37 : Int) : Option ((List Td18) × Int × Unit) := (g_l2 y11_0 y11_1 y11_2 y12_0 y12_1 y13_0 y13_1 y98 x1 x14 x2 x31 x32 x33 (w64 (x37 + 1)))
def f17_r19_B (k : Nat) (g_c17 : f17_t_c17) (y11_0 y11_1 y11_2 y12_0 y12_1 y13_0 y13_1 : Int) (y98 : (List ((Int × Int) × (Int × Int)))) (x1 : (List Int)) (x14 x16 x17 x2 : Int) (x31 : (List (Int × (Int × Int)))) (x32 x33 x37 : Int) (x69 : Bool) : Option ((List Td18) × Int × Unit) := (if x69 = true then ((f61 k x16 x17).bind fun r1 => (g_c17 y11_0 y11_1 y11_2 y12_0 y12_1 r1.1.1 r1.1.2 y98 x1 (w64 (x14 + 1)) x2 x31 x32 x33 x37)) else (g_c17 y11_0 y11_1 y11_2 y12_0 y12_1 y13_0 y13_1 y98 x1 x14 x2 x31 x32 x33 x37))
theorem f17_c17_P (k : Nat) (G_l0 G_l2 G_c24 : f17_S) : f17_o_c17 (fun σ => f17_a k (f17_F_c17 k G_l0 G_l2 G_c24) .nx σ) = f17_c17_B k (f17_o_l2 G_l2) := by kernel_rfl
def f17_c17 (k : Nat) (r_l2 : f17_t_l2) (r_l0 : f17_t_l0) : f17_t_c17 := f17_c17_B k r_l2
theorem f17_c17_E (k : Nat) (R_l2 R_l0 : f17_S) : f17_o_c17 (f17_C_c17 k R_l2 R_l0) = f17_c17 k (f17_o_l2 R_l2) (f17_o_l0 R_l0) :=
 Eq.trans (congrArg f17_o_c17 (ap_fn (f17_f_c17 k R_l2 R_l0))) ((f17_c17_P k R_l0 R_l2 (f17_C_c24 k R_l0)).trans (by rfl))
theorem f17_r19_P (k : Nat) (G_l0 G_l2 G_c24 G_c17 : f17_S) : f17_o_r19 (fun σ => f17_a k (f17_F_r19 k G_l0 G_l2 G_c24 G_c17) .nx σ) = f17_r19_B k (f17_o_c17 G_c17) := by kernel_rfl
def f17_r19 (k : Nat) (r_l2 : f17_t_l2) (r_l0 : f17_t_l0) : f17_t_r19 := f17_r19_B k (f17_c17 k r_l2 r_l0)
theorem f17_r19_E (k : Nat) (R_l2 R_l0 : f17_S) : f17_o_r19 (f17_C_r19 k R_l2 R_l0) = f17_r19 k (f17_o_l2 R_l2) (f17_o_l0 R_l0) :=
 Eq.trans (congrArg f17_o_r19 (ap_fn (f17_f_r19 k R_l2 R_l0))) ((f17_r19_P k R_l0 R_l2 (f17_C_c24 k R_l0) (f17_C_c17 k R_l2 R_l0)).trans (by rw [f17_c17_E k R_l2 R_l0] <;> rfl))
theorem f17_r16_P (k : Nat) (G_l0 G_l2 G_c24 G_c17 G_r19 : f17_S) : f17_o_r16 (fun σ => f17_a k (f17_F_r16 k G_l0 G_l2 G_c24 G_c17 G_r19) .nx σ) = f17_r16_B k (f17_o_c17 G_c17) (f17_o_r19 G_r19) := by kernel_rfl
def f17_r16 (k : Nat) (r_l2 : f17_t_l2) (r_l0 : f17_t_l0) : f17_t_r16 := f17_r16_B k (f17_c17 k r_l2 r_l0) (f17_r19 k r_l2 r_l0)
theorem f17_r16_E (k : Nat) (R_l2 R_l0 : f17_S) : f17_o_r16 (f17_C_r16 k R_l2 R_l0) = f17_r16 k (f17_o_l2 R_l2) (f17_o_l0 R_l0) :=
 Eq.trans (congrArg f17_o_r16 (ap_fn (f17_f_r16 k R_l2 R_l0))) ((f17_r16_P k R_l0 R_l2 (f17_C_c24 k R_l0) (f17_C_c17 k R_l2 R_l0) (f17_C_r19 k R_l2 R_l0)).trans (by rw [f17_c17_E k R_l2 R_l0, f17_r19_E k R_l2 R_l0] <;> rfl))
theorem f17_c24_P (k : Nat) (G_l0 : f17_S) : f17_o_c24 (fun σ => f17_a k (f17_F_c24 k G_l0) .nx σ) = f17_c24_B k (f17_o_l0 G_l0) := by kernel_rfl
def f17_c24 (k : Nat) (r_l0 : f17_t_l0) : f17_t_c24 := f17_c24_B k r_l0
theorem f17_c24_E (k : Nat) (R_l0 : f17_S) : f17_o_c24 (f17_C_c24 k R_l0) = f17_c24 k (f17_o_l0 R_l0) :=
 Eq.trans (congrArg f17_o_c24 (ap_fn (f17_f_c24 k R_l0))) ((f17_c24_P k R_l0).trans (by rfl))
theorem f17_l2_P (k : Nat) (G_l0 G_l2 G_r16 G_c24 G_c17 G_r19 : f17_S) : f17_o_l2 (fun σ => f17_a k (f17_F_l2 k G_l0 G_l2 G_r16 G_c24 G_c17 G_r19) .nx σ) = f17_l2_B k (f17_o_r16 G_r16) (f17_o_c24 G_c24) := by kernel_rfl
def f17_l2 (k : Nat) (r_l0 : f17_t_l0) : Nat → f17_t_l2
 | 0 => fun _ _ _ _ _ _ _ _ _ _ _ _ _ _ _ => none
 | n + 1 => f17_l2_B k (f17_r16 k (f17_l2 k r_l0 n) r_l0) (f17_c24 k r_l0)
theorem f17_l2_E (k : Nat) (R_l0 : f17_S) : ∀ n, f17_o_l2 (f17_C_l2 k R_l0 n) = f17_l2 k (f17_o_l0 R_l0) n
 | 0 => rfl
 | n + 1 =>
   Eq.trans (congrArg f17_o_l2 (Eq.trans (b := fun σ => f17_a k (f17_Q_l2 k R_l0 (f17_C_l2 k R_l0 n)) .nx σ) lp_step (ap_fn (f17_f_l2 k R_l0 (f17_C_l2 k R_l0 n))))) ((f17_l2_P k R_l0 (f17_C_l2 k R_l0 n) (f17_C_r16 k (f17_C_l2 k R_l0 n) R_l0) (f17_C_c24 k R_l0) (f17_C_c17 k (f17_C_l2 k R_l0 n) R_l0) (f17_C_r19 k (f17_C_l2 k R_l0 n) R_l0)).trans (by rw [f17_r16_E k (f17_C_l2 k R_l0 n) R_l0, f17_c24_E k R_l0, f17_l2_E k R_l0 n] <;> rfl))
theorem f17_l0_P (k : Nat) (G_l0 G_l2 G_c24 : f17_S) : f17_o_l0 (fun σ => f17_a k (f17_F_l0 k G_l0 G_l2 G_c24) .nx σ) = f17_l0_B k (f17_o_l2 G_l2) := by kernel_rfl
def f17_l0 (k : Nat) : Nat → f17_t_l0
 | 0 => fun _ _ _ _ _ _ => none
 | n + 1 => f17_l0_B k (f17_l2 k (f17_l0 k n) k)
theorem f17_l0_E (k : Nat) : ∀ n, f17_o_l0 (f17_C_l0 k n) = f17_l0 k n
 | 0 => rfl
 | n + 1 =>
   Eq.trans (congrArg f17_o_l0 (Eq.trans (b := fun σ => f17_a k (f17_Q_l0 k (f17_C_l0 k n)) .nx σ) lp_step (ap_fn (f17_f_l0 k (f17_C_l0 k n))))) ((f17_l0_P k (f17_C_l0 k n) (f17_C_l2 k (f17_C_l0 k n) k) (f17_C_c24 k (f17_C_l0 k n))).trans (by rw [f17_l2_E k (f17_C_l0 k n) k, f17_l0_E k n] <;> rfl))
theorem f17_r4_P (k : Nat) (G_l0 : f17_S) : f17_o_r4 (fun σ => f17_a k (f17_F_r4 k G_l0) .nx σ) = f17_r4_B k (f17_o_l0 G_l0) := by kernel_rfl
def f17_r4 (k : Nat) : f17_t_r4 := f17_r4_B k (f17_l0 k k)
theorem f17_r4_E (k : Nat) : f17_o_r4 (f17_C_r4 k) = f17_r4 k :=
 Eq.trans (congrArg f17_o_r4 (ap_fn (f17_f_r4 k))) ((f17_r4_P k (f17_C_l0 k k)).trans (by rw [f17_l0_E k k] <;> rfl))
theorem f17_entry_P (k : Nat) (G_r4 G_l0 : f17_S) (xs : DL f17_sig) : f17_a k (.c (f17_p 2) 0 :: .c (f17_p 6) 0 :: .c (f17_p 28) 0 :: .j G_r4 :: f17_F_r4 k G_l0) .nx (σ0 101 304 f17_sig xs) = f17_entry_B k (f17_o_r4 G_r4) xs.1 xs.2.1 xs.2.2.1 := by kernel_rfl
def f17 (k : Nat) (a0 : Td8) (a1 : (List Int)) (a2 : Int) : Option ((List Td18) × Int × Unit) := f17_entry_B k (f17_r4 k) a0 a1 a2
theorem f17_fe (k : Nat) : f17_a k [.c (f17_p 1) 0] = f17_a k (.c (f17_p 2) 0 :: .c (f17_p 6) 0 :: .c (f17_p 28) 0 :: .j (f17_C_r4 k) :: f17_F_r4 k (f17_C_l0 k k)) := (Eq.trans ap_sq (ap_cons _ (Eq.trans ap_sq (ap_cons _ (Eq.trans ap_sq (Eq.trans ap_sq (ap_cons _ (Eq.trans (ap_pass (C := (f17_C_r4 k)) (fun _ => rfl)) (ap_cons _ (f17_f_r4 k))))))))))
theorem f17_eq (k : Nat) (xs : DL f17_sig) : den T f17_Y (f17_E k) f17_A k f17_c 0 (σ0 101 304 f17_sig xs) (Kfin T f17_rs f17_ts) = f17 k xs.1 xs.2.1 xs.2.2.1 :=
 Eq.trans (Eq.trans den_sb (ap_at (f17_fe k) _)) ((f17_entry_P k (f17_C_r4 k) (f17_C_l0 k k) xs).trans (by rw [f17_r4_E k] <;> rfl))
def f17_con (k : Nat) : Con := ⟨f17_sig, f17_rs, fun xs => f17 k xs.1 xs.2.1 xs.2.2.1⟩
theorem f17_ok (k : Nat) : PureOK Try.prog 17 f17_sig f17_rs (fun xs => f17 k xs.1 xs.2.1 xs.2.2.1) :=
 (pure_of_den (k := k) (A := f17_A) (T := T) (Y := f17_Y) (E := f17_E k) (M := 304) (ts := f17_ts) T_ok ⟨f13_ok k, f60_ok k, f61_ok k, trivial⟩ ⟨f13_ent, f60_ent, f61_ent, trivial⟩ mixed (f := 17) (fn := Try.f17) (c := f17_c) (by kernel_rfl) (by kernel_rfl) (by kernel_rfl) (by decide) (by kernel_rfl)).congr fun xs => (f17_eq k xs).symm
theorem f17_ent : Ent Try.prog 17 := fun args w => by kernel_rfl
def f14_c : Code := Try.f14.body.getD .skip
abbrev f14_p (n : Nat) : Code := sb f14_c n
abbrev f14_sig : List PT := [(true, Tq1)]
abbrev f14_rs : List RT := [.d false .bool]
abbrev f14_ts : List RV := [.tmp 2]
abbrev f14_S := St → Option (RDL f14_rs)
abbrev f14_L := List (Fr (RDL f14_rs))
def f14_Y : Tys := []
def f14_E (k : Nat) : Env := []
def f14_A : Ann := { regs := [(1, { slots := [(2, .bool)] })] }
abbrev f14_a (k : Nat) (F : f14_L) : Kont (RDL f14_rs) := ap T f14_Y (f14_E k) f14_A k (Kfin T f14_rs f14_ts) F
def f14_s_r1 (x2 : Bool) : St := mkS 21 64 [(2, aB x2)] []
abbrev f14_t_r1 := Bool → Option (Bool × Unit)
abbrev f14_o_r1 (R : f14_S) : f14_t_r1 := (fun x2 => R (f14_s_r1 x2))
def f14_Q_r1 (k : Nat) : f14_L := [.c (f14_p 7) 0]
def f14_C_r1 (k : Nat) : f14_S := fun σ => f14_a k (f14_Q_r1 k) .nx σ
def f14_F_r1 (k : Nat) : f14_L := .c (f14_p 7) 0 :: []
theorem f14_f_r1 (k : Nat) : f14_a k (f14_Q_r1 k) = f14_a k (f14_F_r1 k) := (ap_cons _ rfl)
def f14_entry_B (k : Nat) (g_r1 : f14_t_r1) (a0 : (Int × Int)) : Option (Bool × Unit) := (if (-1048576) ≤ a0.1 then (if a0.1 ≤ 1048576 then (if (-1048576) ≤ a0.2 then (g_r1 (decide (a0.2 ≤ 1048576))) else (g_r1 false)) else (g_r1 false)) else (g_r1 false))
def f14_r1_B (k : Nat) (x2 : Bool) : Option (Bool × Unit) := some (decide (x2 = true), ())
theorem f14_r1_P (k : Nat) : f14_o_r1 (fun σ => f14_a k (f14_F_r1 k) .nx σ) = f14_r1_B k := by kernel_rfl
def f14_r1 (k : Nat) : f14_t_r1 := f14_r1_B k
theorem f14_r1_E (k : Nat) : f14_o_r1 (f14_C_r1 k) = f14_r1 k :=
 Eq.trans (congrArg f14_o_r1 (ap_fn (f14_f_r1 k))) ((f14_r1_P k).trans (by rfl))
theorem f14_entry_P (k : Nat) (G_r1 : f14_S) (xs : DL f14_sig) : f14_a k (.c (f14_p 2) 0 :: .c (f14_p 6) 0 :: .j G_r1 :: f14_F_r1 k) .nx (σ0 21 64 f14_sig xs) = f14_entry_B k (f14_o_r1 G_r1) xs.1 := by kernel_rfl
def f14 (k : Nat) (a0 : (Int × Int)) : Option (Bool × Unit) := f14_entry_B k (f14_r1 k) a0
theorem f14_fe (k : Nat) : f14_a k [.c (f14_p 1) 0] = f14_a k (.c (f14_p 2) 0 :: .c (f14_p 6) 0 :: .j (f14_C_r1 k) :: f14_F_r1 k) := (Eq.trans ap_sq (ap_cons _ (Eq.trans ap_sq (ap_cons _ (Eq.trans (ap_pass (C := (f14_C_r1 k)) (fun _ => rfl)) (ap_cons _ (f14_f_r1 k)))))))
theorem f14_eq (k : Nat) (xs : DL f14_sig) : den T f14_Y (f14_E k) f14_A k f14_c 0 (σ0 21 64 f14_sig xs) (Kfin T f14_rs f14_ts) = f14 k xs.1 :=
 Eq.trans (Eq.trans den_sb (ap_at (f14_fe k) _)) ((f14_entry_P k (f14_C_r1 k) xs).trans (by rw [f14_r1_E k] <;> rfl))
def f14_con (k : Nat) : Con := ⟨f14_sig, f14_rs, fun xs => f14 k xs.1⟩
theorem f14_ok (k : Nat) : PureOK Try.prog 14 f14_sig f14_rs (fun xs => f14 k xs.1) :=
 (pure_of_den (k := k) (A := f14_A) (T := T) (Y := f14_Y) (E := f14_E k) (M := 64) (ts := f14_ts) T_ok trivial trivial mixed (f := 14) (fn := Try.f14) (c := f14_c) (by kernel_rfl) (by kernel_rfl) (by kernel_rfl) (by decide) (by kernel_rfl)).congr fun xs => (f14_eq k xs).symm
theorem f14_ent : Ent Try.prog 14 := fun args w => by kernel_rfl
def f64_c : Code := Try.f64.body.getD .skip
abbrev f64_p (n : Nat) : Code := sb f64_c n
abbrev f64_sig : List PT := [(true, Tq1), (true, Tq1), (true, Tq1)]
abbrev f64_rs : List RT := [.d false (.int .i64)]
abbrev f64_ts : List RV := [.tmp 6]
abbrev f64_S := St → Option (RDL f64_rs)
abbrev f64_L := List (Fr (RDL f64_rs))
def f64_Y : Tys := []
def f64_E (k : Nat) : Env := []
def f64_A : Ann := {}
abbrev f64_a (k : Nat) (F : f64_L) : Kont (RDL f64_rs) := ap T f64_Y (f64_E k) f64_A k (Kfin T f64_rs f64_ts) F
def f64_entry_B (k : Nat) (a0 a1 a2 : (Int × Int)) : Option (Int × Unit) := (if 0 < (w64 ((w64 ((w64 (a1.1 - a0.1)) * (w64 (a2.2 - a0.2)))) - (w64 ((w64 (a2.1 - a0.1)) * (w64 (a1.2 - a0.2)))))) then some (1, ()) else (if (w64 ((w64 ((w64 (a1.1 - a0.1)) * (w64 (a2.2 - a0.2)))) - (w64 ((w64 (a2.1 - a0.1)) * (w64 (a1.2 - a0.2)))))) < 0 then some ((-1), ()) else some (0, ())))
theorem f64_entry_P (k : Nat) (xs : DL f64_sig) : f64_a k (.c (f64_p 1) 0 :: []) .nx (σ0 37 112 f64_sig xs) = f64_entry_B k xs.1 xs.2.1 xs.2.2.1 := by kernel_rfl
def f64 (k : Nat) (a0 a1 a2 : (Int × Int)) : Option (Int × Unit) := f64_entry_B k a0 a1 a2
theorem f64_eq (k : Nat) (xs : DL f64_sig) : den T f64_Y (f64_E k) f64_A k f64_c 0 (σ0 37 112 f64_sig xs) (Kfin T f64_rs f64_ts) = f64 k xs.1 xs.2.1 xs.2.2.1 :=
 Eq.trans (Eq.trans den_sb (ap_at (ap_cons _ rfl) _)) ((f64_entry_P k xs).trans (by rfl))
def f64_con (k : Nat) : Con := ⟨f64_sig, f64_rs, fun xs => f64 k xs.1 xs.2.1 xs.2.2.1⟩
theorem f64_ok (k : Nat) : PureOK Try.prog 64 f64_sig f64_rs (fun xs => f64 k xs.1 xs.2.1 xs.2.2.1) :=
 (pure_of_den (k := k) (A := f64_A) (T := T) (Y := f64_Y) (E := f64_E k) (M := 112) (ts := f64_ts) T_ok trivial trivial mixed (f := 64) (fn := Try.f64) (c := f64_c) (by kernel_rfl) (by kernel_rfl) (by kernel_rfl) (by decide) (by kernel_rfl)).congr fun xs => (f64_eq k xs).symm
theorem f64_ent : Ent Try.prog 64 := fun args w => by kernel_rfl
def f81_c : Code := Try.f81.body.getD .skip
abbrev f81_p (n : Nat) : Code := sb f81_c n
abbrev f81_sig : List PT := [(true, Tq1), (true, Tq1)]
abbrev f81_rs : List RT := [.d false (.int .i64)]
abbrev f81_ts : List RV := [.tmp 4]
abbrev f81_S := St → Option (RDL f81_rs)
abbrev f81_L := List (Fr (RDL f81_rs))
def f81_Y : Tys := []
def f81_E (k : Nat) : Env := []
def f81_A : Ann := {}
abbrev f81_a (k : Nat) (F : f81_L) : Kont (RDL f81_rs) := ap T f81_Y (f81_E k) f81_A k (Kfin T f81_rs f81_ts) F
def f81_entry_B (k : Nat) (a0 a1 : (Int × Int)) : Option (Int × Unit) := (if ¬ (a0.1 = a1.1) then some (w64 (a0.1 - a1.1), ()) else some (w64 (a0.2 - a1.2), ()))
theorem f81_entry_P (k : Nat) (xs : DL f81_sig) : f81_a k (.c (f81_p 1) 0 :: []) .nx (σ0 20 64 f81_sig xs) = f81_entry_B k xs.1 xs.2.1 := by kernel_rfl
def f81 (k : Nat) (a0 a1 : (Int × Int)) : Option (Int × Unit) := f81_entry_B k a0 a1
theorem f81_eq (k : Nat) (xs : DL f81_sig) : den T f81_Y (f81_E k) f81_A k f81_c 0 (σ0 20 64 f81_sig xs) (Kfin T f81_rs f81_ts) = f81 k xs.1 xs.2.1 :=
 Eq.trans (Eq.trans den_sb (ap_at (ap_cons _ rfl) _)) ((f81_entry_P k xs).trans (by rfl))
def f81_con (k : Nat) : Con := ⟨f81_sig, f81_rs, fun xs => f81 k xs.1 xs.2.1⟩
theorem f81_ok (k : Nat) : PureOK Try.prog 81 f81_sig f81_rs (fun xs => f81 k xs.1 xs.2.1) :=
 (pure_of_den (k := k) (A := f81_A) (T := T) (Y := f81_Y) (E := f81_E k) (M := 64) (ts := f81_ts) T_ok trivial trivial mixed (f := 81) (fn := Try.f81) (c := f81_c) (by kernel_rfl) (by kernel_rfl) (by kernel_rfl) (by decide) (by kernel_rfl)).congr fun xs => (f81_eq k xs).symm
theorem f81_ent : Ent Try.prog 81 := fun args w => by kernel_rfl
def f102_c : Code := Try.f102.body.getD .skip
abbrev f102_p (n : Nat) : Code := sb f102_c n
abbrev f102_sig : List PT := [(false, Tq2), (true, Tq3)]
abbrev f102_rs : List RT := [.d false (.int .i64)]
abbrev f102_ts : List RV := [.tmp 4]
abbrev f102_S := St → Option (RDL f102_rs)
abbrev f102_L := List (Fr (RDL f102_rs))
def f102_Y : Tys := []
def f102_E (k : Nat) : Env := []
def f102_A : Ann := {}
abbrev f102_a (k : Nat) (F : f102_L) : Kont (RDL f102_rs) := ap T f102_Y (f102_E k) f102_A k (Kfin T f102_rs f102_ts) F
def f102_entry_B (k : Nat) (a0 : Td6) (a1 : Td7) : Option (Int × Unit) := (if 0 ≤ a1.1 then (if a1.1 < (a0.length : Int) then (if 0 ≤ a1.2.1 then (if a1.2.1 < (a0.length : Int) then (if 0 ≤ a1.2.2 then (if a1.2.2 < (a0.length : Int) then some (w64 ((w64 ((w64 (((a0.getD (a1.2.1).toNat (0, 0)).1) - ((a0.getD (a1.1).toNat (0, 0)).1))) * (w64 (((a0.getD (a1.2.2).toNat (0, 0)).2) - ((a0.getD (a1.1).toNat (0, 0)).2))))) - (w64 ((w64 (((a0.getD (a1.2.2).toNat (0, 0)).1) - ((a0.getD (a1.1).toNat (0, 0)).1))) * (w64 (((a0.getD (a1.2.1).toNat (0, 0)).2) - ((a0.getD (a1.1).toNat (0, 0)).2)))))), ()) else none) else none) else none) else none) else none) else none)
theorem f102_entry_P (k : Nat) (xs : DL f102_sig) : f102_a k (.c (f102_p 1) 0 :: []) .nx (σ0 46 144 f102_sig xs) = f102_entry_B k xs.1 xs.2.1 := by kernel_rfl
def f102 (k : Nat) (a0 : Td6) (a1 : Td7) : Option (Int × Unit) := f102_entry_B k a0 a1
theorem f102_eq (k : Nat) (xs : DL f102_sig) : den T f102_Y (f102_E k) f102_A k f102_c 0 (σ0 46 144 f102_sig xs) (Kfin T f102_rs f102_ts) = f102 k xs.1 xs.2.1 :=
 Eq.trans (Eq.trans den_sb (ap_at (ap_cons _ rfl) _)) ((f102_entry_P k xs).trans (by rfl))
def f102_con (k : Nat) : Con := ⟨f102_sig, f102_rs, fun xs => f102 k xs.1 xs.2.1⟩
theorem f102_ok (k : Nat) : PureOK Try.prog 102 f102_sig f102_rs (fun xs => f102 k xs.1 xs.2.1) :=
 (pure_of_den (k := k) (A := f102_A) (T := T) (Y := f102_Y) (E := f102_E k) (M := 144) (ts := f102_ts) T_ok trivial trivial mixed (f := 102) (fn := Try.f102) (c := f102_c) (by kernel_rfl) (by kernel_rfl) (by kernel_rfl) (by decide) (by kernel_rfl)).congr fun xs => (f102_eq k xs).symm
theorem f102_ent : Ent Try.prog 102 := fun args w => by kernel_rfl
def f103_c : Code := Try.f103.body.getD .skip
abbrev f103_p (n : Nat) : Code := sb f103_c n
abbrev f103_sig : List PT := [(false, Tq2), (true, Tq3), (true, Tq1)]
abbrev f103_rs : List RT := [.d false .bool]
abbrev f103_ts : List RV := [.tmp 6]
abbrev f103_S := St → Option (RDL f103_rs)
abbrev f103_L := List (Fr (RDL f103_rs))
def f103_Y : Tys := []
def f103_E (k : Nat) : Env := [(64, .c (f64_con k))]
def f103_A : Ann := { loops := [(0, { slots := [(0, .val false Tq1), (4, .id), (5, .id), (8, .id)], keys := [(4, []), (5, [])] })] }
abbrev f103_a (k : Nat) (F : f103_L) : Kont (RDL f103_rs) := ap T f103_Y (f103_E k) f103_A k (Kfin T f103_rs f103_ts) F
def f103_s_l0 (y4_0 y4_1 y4_2 y5_0 y5_1 : Int) (x0 : (List (Int × Int))) (x8 : Int) : St := mkS 29 96 [(0, aV Tq1 x0), (4, aP 4), (5, aP 5), (8, aI x8)] [(4, .box [cI y4_0, cI y4_1, cI y4_2]), (5, .box [cI y5_0, cI y5_1])]
abbrev f103_t_l0 := Int → Int → Int → Int → Int → (List (Int × Int)) → Int → Option (Bool × Unit)
abbrev f103_o_l0 (R : f103_S) : f103_t_l0 := (fun y4_0 y4_1 y4_2 y5_0 y5_1 x0 x8 => R (f103_s_l0 y4_0 y4_1 y4_2 y5_0 y5_1 x0 x8))
def f103_Q_l0 (k : Nat) (R_l0 : f103_S) : f103_L := [.c (f103_p 52) 0, .j (fun σ => R_l0 (cut f103_A.loops 0 σ)), .blk 0, .c (f103_p 7) 0]
def f103_C_l0 (k n : Nat) (σ : St) : Option (RDL f103_rs) := loopK (fun σ K => den T f103_Y (f103_E k) f103_A k (f103_p 52) 0 σ K) (cut f103_A.loops 0) (f103_a k [.blk 0, .c (f103_p 7) 0]) n σ
def f103_F_l0 (k : Nat) (G_l0 : f103_S) : f103_L := .c (f103_p 52) 0 :: .j (fun σ => G_l0 (cut f103_A.loops 0 σ)) :: .blk 0 :: .c (f103_p 7) 0 :: []
theorem f103_f_l0 (k : Nat) (R_l0 : f103_S) : f103_a k (f103_Q_l0 k R_l0) = f103_a k (f103_F_l0 k R_l0) := (ap_cons _ (ap_cons _ (ap_cons _ (ap_cons _ rfl))))
def f103_entry_B (k : Nat) (g_l0 : f103_t_l0) (a0 : Td6) (a1 : Td7) (a2 : (Int × Int)) : Option (Bool × Unit) := (g_l0 a1.1 a1.2.1 a1.2.2 a2.1 a2.2 a0 0)
def f103_l0_B (k : Nat) (g_l0 : f103_t_l0) (y4_0 y4_1 y4_2 y5_0 y5_1 : Int) (x0 : (List (Int × Int))) (x8 : Int) : Option (Bool × Unit) := (if x8 < 3 then (if 0 ≤ x8 then (if x8 < (3 : Int) then (if 0 ≤ (([y4_0, y4_1, y4_2] : List Int).getD ((x8).toNat) 0) then (if (([y4_0, y4_1, y4_2] : List Int).getD ((x8).toNat) 0) < (x0.length : Int) then (if 0 ≤ ((w64 (x8 + 1)).tmod 3) then (if ((w64 (x8 + 1)).tmod 3) < (3 : Int) then (if 0 ≤ (([y4_0, y4_1, y4_2] : List Int).getD ((((w64 (x8 + 1)).tmod 3)).toNat) 0) then (if (([y4_0, y4_1, y4_2] : List Int).getD ((((w64 (x8 + 1)).tmod 3)).toNat) 0) < (x0.length : Int) then ((f64 k ((x0.getD ((([y4_0, y4_1, y4_2] : List Int).getD ((x8).toNat) 0)).toNat (0, 0)).1, (x0.getD ((([y4_0, y4_1, y4_2] : List Int).getD ((x8).toNat) 0)).toNat (0, 0)).2) ((x0.getD ((([y4_0, y4_1, y4_2] : List Int).getD ((((w64 (x8 + 1)).tmod 3)).toNat) 0)).toNat (0, 0)).1, (x0.getD ((([y4_0, y4_1, y4_2] : List Int).getD ((((w64 (x8 + 1)).tmod 3)).toNat) 0)).toNat (0, 0)).2) (y5_0, y5_1)).bind fun r1 => (if r1.1 < 0 then some (false, ()) else (g_l0 y4_0 y4_1 y4_2 y5_0 y5_1 x0 (w64 (x8 + 1))))) else none) else none) else none) else none) else none) else none) else none) else none) else some (true, ()))
theorem f103_l0_P (k : Nat) (G_l0 : f103_S) : f103_o_l0 (fun σ => f103_a k (f103_F_l0 k G_l0) .nx σ) = f103_l0_B k (f103_o_l0 G_l0) := by kernel_rfl
def f103_l0 (k : Nat) : Nat → f103_t_l0
 | 0 => fun _ _ _ _ _ _ _ => none
 | n + 1 => f103_l0_B k (f103_l0 k n)
theorem f103_l0_E (k : Nat) : ∀ n, f103_o_l0 (f103_C_l0 k n) = f103_l0 k n
 | 0 => rfl
 | n + 1 =>
   Eq.trans (congrArg f103_o_l0 (Eq.trans (b := fun σ => f103_a k (f103_Q_l0 k (f103_C_l0 k n)) .nx σ) lp_step (ap_fn (f103_f_l0 k (f103_C_l0 k n))))) ((f103_l0_P k (f103_C_l0 k n)).trans (by rw [f103_l0_E k n] <;> rfl))
theorem f103_entry_P (k : Nat) (G_l0 : f103_S) (xs : DL f103_sig) : f103_a k (.c (f103_p 2) 0 :: .c (f103_p 12) 0 :: .j (fun σ => f103_a k (.j (fun σ => G_l0 (cut f103_A.loops 0 σ)) :: .blk 0 :: .c (f103_p 7) 0 :: []) .nx σ) :: .c (f103_p 7) 0 :: []) .nx (σ0 29 96 f103_sig xs) = f103_entry_B k (f103_o_l0 G_l0) xs.1 xs.2.1 xs.2.2.1 := by kernel_rfl
def f103 (k : Nat) (a0 : Td6) (a1 : Td7) (a2 : (Int × Int)) : Option (Bool × Unit) := f103_entry_B k (f103_l0 k k) a0 a1 a2
theorem f103_fe (k : Nat) : f103_a k [.c (f103_p 1) 0] = f103_a k (.c (f103_p 2) 0 :: .c (f103_p 12) 0 :: .j (fun σ => f103_a k (.j (fun σ => (f103_C_l0 k k) (cut f103_A.loops 0 σ)) :: .blk 0 :: .c (f103_p 7) 0 :: []) .nx σ) :: .c (f103_p 7) 0 :: []) := (Eq.trans ap_sq (ap_cons _ (Eq.trans ap_sq (Eq.trans ap_sq (ap_cons _ (Eq.trans (ap_bl 0) (Eq.trans (ap_j (Eq.trans (ap_lp (C := (f103_C_l0 k)) (fun _ _ => rfl)) (ap_cons _ (ap_cons _ (ap_cons _ rfl))))) (ap_cons _ (ap_cons _ rfl)))))))))
theorem f103_eq (k : Nat) (xs : DL f103_sig) : den T f103_Y (f103_E k) f103_A k f103_c 0 (σ0 29 96 f103_sig xs) (Kfin T f103_rs f103_ts) = f103 k xs.1 xs.2.1 xs.2.2.1 :=
 Eq.trans (Eq.trans den_sb (ap_at (f103_fe k) _)) ((f103_entry_P k (f103_C_l0 k k) xs).trans (by rw [f103_l0_E k k] <;> rfl))
def f103_con (k : Nat) : Con := ⟨f103_sig, f103_rs, fun xs => f103 k xs.1 xs.2.1 xs.2.2.1⟩
theorem f103_ok (k : Nat) : PureOK Try.prog 103 f103_sig f103_rs (fun xs => f103 k xs.1 xs.2.1 xs.2.2.1) :=
 (pure_of_den (k := k) (A := f103_A) (T := T) (Y := f103_Y) (E := f103_E k) (M := 96) (ts := f103_ts) T_ok ⟨f64_ok k, trivial⟩ ⟨f64_ent, trivial⟩ mixed (f := 103) (fn := Try.f103) (c := f103_c) (by kernel_rfl) (by kernel_rfl) (by kernel_rfl) (by decide) (by kernel_rfl)).congr fun xs => (f103_eq k xs).symm
theorem f103_ent : Ent Try.prog 103 := fun args w => by kernel_rfl
def f104_c : Code := Try.f104.body.getD .skip
abbrev f104_p (n : Nat) : Code := sb f104_c n
abbrev f104_sig : List PT := [(false, Tq2), (true, Tq3), (true, Tq3)]
abbrev f104_rs : List RT := [.d false .bool]
abbrev f104_ts : List RV := [.tmp 6]
abbrev f104_S := St → Option (RDL f104_rs)
abbrev f104_L := List (Fr (RDL f104_rs))
def f104_Y : Tys := []
def f104_E (k : Nat) : Env := [(64, .c (f64_con k))]
def f104_A : Ann := { loops := [(0, { slots := [(0, .val false Tq1), (4, .id), (5, .id), (11, .id)], keys := [(4, []), (5, [])] }), (2, { slots := [(0, .val false Tq1), (4, .id), (5, .id), (11, .id), (13, .id)], keys := [(4, []), (5, [])] }), (4, { slots := [(0, .val false Tq1), (4, .id), (5, .id), (7, .id), (8, .bool), (11, .id), (13, .id), (16, .id), (17, .id)], keys := [(4, []), (5, [])] })], regs := [(10, { slots := [(0, .val false Tq1), (4, .id), (5, .id), (7, .id), (8, .bool), (11, .id), (13, .id), (16, .id), (17, .id)], keys := [(4, []), (5, [])] })] }
abbrev f104_a (k : Nat) (F : f104_L) : Kont (RDL f104_rs) := ap T f104_Y (f104_E k) f104_A k (Kfin T f104_rs f104_ts) F
def f104_s_l0 (y4_0 y4_1 y4_2 y5_0 y5_1 y5_2 : Int) (x0 : (List (Int × Int))) (x11 : Int) : St := mkS 49 160 [(0, aV Tq1 x0), (4, aP 4), (5, aP 5), (11, aI x11)] [(4, .box [cI y4_0, cI y4_1, cI y4_2]), (5, .box [cI y5_0, cI y5_1, cI y5_2])]
abbrev f104_t_l0 := Int → Int → Int → Int → Int → Int → (List (Int × Int)) → Int → Option (Bool × Unit)
abbrev f104_o_l0 (R : f104_S) : f104_t_l0 := (fun y4_0 y4_1 y4_2 y5_0 y5_1 y5_2 x0 x11 => R (f104_s_l0 y4_0 y4_1 y4_2 y5_0 y5_1 y5_2 x0 x11))
def f104_Q_l0 (k : Nat) (R_l0 : f104_S) : f104_L := [.c (f104_p 52) 0, .j (fun σ => R_l0 (cut f104_A.loops 0 σ)), .blk 0, .c (f104_p 7) 0]
def f104_C_l0 (k n : Nat) (σ : St) : Option (RDL f104_rs) := loopK (fun σ K => den T f104_Y (f104_E k) f104_A k (f104_p 52) 0 σ K) (cut f104_A.loops 0) (f104_a k [.blk 0, .c (f104_p 7) 0]) n σ
def f104_s_l2 (y4_0 y4_1 y4_2 y5_0 y5_1 y5_2 : Int) (x0 : (List (Int × Int))) (x11 x13 : Int) : St := mkS 49 160 [(0, aV Tq1 x0), (4, aP 4), (5, aP 5), (11, aI x11), (13, aI x13)] [(4, .box [cI y4_0, cI y4_1, cI y4_2]), (5, .box [cI y5_0, cI y5_1, cI y5_2])]
abbrev f104_t_l2 := Int → Int → Int → Int → Int → Int → (List (Int × Int)) → Int → Int → Option (Bool × Unit)
abbrev f104_o_l2 (R : f104_S) : f104_t_l2 := (fun y4_0 y4_1 y4_2 y5_0 y5_1 y5_2 x0 x11 x13 => R (f104_s_l2 y4_0 y4_1 y4_2 y5_0 y5_1 y5_2 x0 x11 x13))
def f104_Q_l2 (k : Nat) (R_l0 R_l2 : f104_S) : f104_L := [.c (f104_p 13508) 2, .j (fun σ => R_l2 (cut f104_A.loops 2 σ)), .blk 2, .c (f104_p 1689) 1, .blk 1, .c (f104_p 423) 0, .j (fun σ => R_l0 (cut f104_A.loops 0 σ)), .blk 0, .c (f104_p 7) 0]
def f104_C_l2 (k : Nat) (R_l0 : f104_S) (n : Nat) (σ : St) : Option (RDL f104_rs) := loopK (fun σ K => den T f104_Y (f104_E k) f104_A k (f104_p 13508) 2 σ K) (cut f104_A.loops 2) (f104_a k [.blk 2, .c (f104_p 1689) 1, .blk 1, .c (f104_p 423) 0, .j (fun σ => R_l0 (cut f104_A.loops 0 σ)), .blk 0, .c (f104_p 7) 0]) n σ
def f104_s_l4 (y4_0 y4_1 y4_2 y5_0 y5_1 y5_2 : Int) (x0 : (List (Int × Int))) (x11 x13 x17 : Int) (x8 : Bool) : St := mkS 49 160 [(0, aV Tq1 x0), (4, aP 4), (5, aP 5), (7, aI x13), (8, aB x8), (11, aI x11), (13, aI x13), (16, .cp (.agg [cI y5_0, cI y5_1, cI y5_2])), (17, aI x17)] [(4, .box [cI y4_0, cI y4_1, cI y4_2]), (5, .box [cI y5_0, cI y5_1, cI y5_2])]
abbrev f104_t_l4 := Int → Int → Int → Int → Int → Int → (List (Int × Int)) → Int → Int → Int → Bool → Option (Bool × Unit)
abbrev f104_o_l4 (R : f104_S) : f104_t_l4 := (fun y4_0 y4_1 y4_2 y5_0 y5_1 y5_2 x0 x11 x13 x17 x8 => R (f104_s_l4 y4_0 y4_1 y4_2 y5_0 y5_1 y5_2 x0 x11 x13 x17 x8))
def f104_Q_l4 (k : Nat) (R_l2 R_l0 R_l4 : f104_S) : f104_L := [.c (f104_p 13833012) 4, .j (fun σ => R_l4 (cut f104_A.loops 4 σ)), .blk 4, .c (f104_p 1729127) 3, .blk 3, .c (f104_p 108071) 2, .j (fun σ => R_l2 (cut f104_A.loops 2 σ)), .blk 2, .c (f104_p 1689) 1, .blk 1, .c (f104_p 423) 0, .j (fun σ => R_l0 (cut f104_A.loops 0 σ)), .blk 0, .c (f104_p 7) 0]
def f104_C_l4 (k : Nat) (R_l2 R_l0 : f104_S) (n : Nat) (σ : St) : Option (RDL f104_rs) := loopK (fun σ K => den T f104_Y (f104_E k) f104_A k (f104_p 13833012) 4 σ K) (cut f104_A.loops 4) (f104_a k [.blk 4, .c (f104_p 1729127) 3, .blk 3, .c (f104_p 108071) 2, .j (fun σ => R_l2 (cut f104_A.loops 2 σ)), .blk 2, .c (f104_p 1689) 1, .blk 1, .c (f104_p 423) 0, .j (fun σ => R_l0 (cut f104_A.loops 0 σ)), .blk 0, .c (f104_p 7) 0]) n σ
def f104_s_r10 (y4_0 y4_1 y4_2 y5_0 y5_1 y5_2 : Int) (x0 : (List (Int × Int))) (x11 x13 x17 : Int) (x8 : Bool) : St := mkS 49 160 [(0, aV Tq1 x0), (4, aP 4), (5, aP 5), (7, aI x13), (8, aB x8), (11, aI x11), (13, aI x13), (16, .cp (.agg [cI y5_0, cI y5_1, cI y5_2])), (17, aI x17)] [(4, .box [cI y4_0, cI y4_1, cI y4_2]), (5, .box [cI y5_0, cI y5_1, cI y5_2])]
abbrev f104_t_r10 := Int → Int → Int → Int → Int → Int → (List (Int × Int)) → Int → Int → Int → Bool → Option (Bool × Unit)
abbrev f104_o_r10 (R : f104_S) : f104_t_r10 := (fun y4_0 y4_1 y4_2 y5_0 y5_1 y5_2 x0 x11 x13 x17 x8 => R (f104_s_r10 y4_0 y4_1 y4_2 y5_0 y5_1 y5_2 x0 x11 x13 x17 x8))
def f104_Q_r10 (k : Nat) (R_l4 R_l2 R_l0 : f104_S) : f104_L := [.blk 5, .c (f104_p 110664103) 4, .j (fun σ => R_l4 (cut f104_A.loops 4 σ)), .blk 4, .c (f104_p 1729127) 3, .blk 3, .c (f104_p 108071) 2, .j (fun σ => R_l2 (cut f104_A.loops 2 σ)), .blk 2, .c (f104_p 1689) 1, .blk 1, .c (f104_p 423) 0, .j (fun σ => R_l0 (cut f104_A.loops 0 σ)), .blk 0, .c (f104_p 7) 0]
def f104_C_r10 (k : Nat) (R_l4 R_l2 R_l0 : f104_S) : f104_S := fun σ => f104_a k (f104_Q_r10 k R_l4 R_l2 R_l0) .nx σ
def f104_F_l0 (k : Nat) (G_l0 G_l2 : f104_S) : f104_L := .c (f104_p 104) 0 :: .c (f104_p 210) 0 :: .j (fun σ => f104_a k (.c (f104_p 3376) 1 :: .j (fun σ => f104_a k (.j (fun σ => G_l2 (cut f104_A.loops 2 σ)) :: .blk 2 :: .c (f104_p 1689) 1 :: .blk 1 :: .c (f104_p 423) 0 :: .j (fun σ => G_l0 (cut f104_A.loops 0 σ)) :: .blk 0 :: .c (f104_p 7) 0 :: []) .nx σ) :: .c (f104_p 1689) 1 :: .blk 1 :: .c (f104_p 423) 0 :: .j (fun σ => G_l0 (cut f104_A.loops 0 σ)) :: .blk 0 :: .c (f104_p 7) 0 :: []) .nx σ) :: .c (f104_p 423) 0 :: .j (fun σ => G_l0 (cut f104_A.loops 0 σ)) :: .blk 0 :: .c (f104_p 7) 0 :: []
theorem f104_f_l0 (k : Nat) (R_l0 : f104_S) : f104_a k (f104_Q_l0 k R_l0) = f104_a k (f104_F_l0 k R_l0 (f104_C_l2 k R_l0 k)) := (Eq.trans ap_sq (ap_cons _ (Eq.trans ap_sq (ap_cons _ (Eq.trans ap_sq (Eq.trans (ap_bl 1) (Eq.trans (ap_j (Eq.trans ap_sq (Eq.trans ap_sq (ap_cons _ (Eq.trans (ap_bl 2) (Eq.trans (ap_j (Eq.trans (ap_lp (C := (f104_C_l2 k R_l0)) (fun _ _ => rfl)) (ap_cons _ (ap_cons _ (ap_cons _ (ap_cons _ (ap_cons _ (ap_cons _ (ap_cons _ (ap_cons _ rfl)))))))))) (ap_cons _ (ap_cons _ (ap_cons _ (ap_cons _ (ap_cons _ (ap_cons _ (ap_cons _ rfl))))))))))))) (ap_cons _ (ap_cons _ (ap_cons _ (ap_cons _ (ap_cons _ rfl))))))))))))
def f104_F_l2 (k : Nat) (G_l0 G_l2 G_l4 : f104_S) : f104_L := .c (f104_p 27016) 2 :: .c (f104_p 54034) 2 :: .j (fun σ => f104_a k (.c (f104_p 432280) 3 :: .c (f104_p 864562) 3 :: .c (f104_p 3458252) 3 :: .j (fun σ => f104_a k (.j (fun σ => G_l4 (cut f104_A.loops 4 σ)) :: .blk 4 :: .c (f104_p 1729127) 3 :: .blk 3 :: .c (f104_p 108071) 2 :: .j (fun σ => G_l2 (cut f104_A.loops 2 σ)) :: .blk 2 :: .c (f104_p 1689) 1 :: .blk 1 :: .c (f104_p 423) 0 :: .j (fun σ => G_l0 (cut f104_A.loops 0 σ)) :: .blk 0 :: .c (f104_p 7) 0 :: []) .nx σ) :: .c (f104_p 1729127) 3 :: .blk 3 :: .c (f104_p 108071) 2 :: .j (fun σ => G_l2 (cut f104_A.loops 2 σ)) :: .blk 2 :: .c (f104_p 1689) 1 :: .blk 1 :: .c (f104_p 423) 0 :: .j (fun σ => G_l0 (cut f104_A.loops 0 σ)) :: .blk 0 :: .c (f104_p 7) 0 :: []) .nx σ) :: .c (f104_p 108071) 2 :: .j (fun σ => G_l2 (cut f104_A.loops 2 σ)) :: .blk 2 :: .c (f104_p 1689) 1 :: .blk 1 :: .c (f104_p 423) 0 :: .j (fun σ => G_l0 (cut f104_A.loops 0 σ)) :: .blk 0 :: .c (f104_p 7) 0 :: []
theorem f104_f_l2 (k : Nat) (R_l0 R_l2 : f104_S) : f104_a k (f104_Q_l2 k R_l0 R_l2) = f104_a k (f104_F_l2 k R_l0 R_l2 (f104_C_l4 k R_l2 R_l0 k)) := (Eq.trans ap_sq (ap_cons _ (Eq.trans ap_sq (ap_cons _ (Eq.trans ap_sq (Eq.trans (ap_bl 3) (Eq.trans (ap_j (Eq.trans ap_sq (ap_cons _ (Eq.trans ap_sq (ap_cons _ (Eq.trans ap_sq (Eq.trans ap_sq (ap_cons _ (Eq.trans (ap_bl 4) (Eq.trans (ap_j (Eq.trans (ap_lp (C := (f104_C_l4 k R_l2 R_l0)) (fun _ _ => rfl)) (ap_cons _ (ap_cons _ (ap_cons _ (ap_cons _ (ap_cons _ (ap_cons _ (ap_cons _ (ap_cons _ (ap_cons _ (ap_cons _ (ap_cons _ (ap_cons _ (ap_cons _ rfl))))))))))))))) (ap_cons _ (ap_cons _ (ap_cons _ (ap_cons _ (ap_cons _ (ap_cons _ (ap_cons _ (ap_cons _ (ap_cons _ (ap_cons _ (ap_cons _ (ap_cons _ rfl)))))))))))))))))))))) (ap_cons _ (ap_cons _ (ap_cons _ (ap_cons _ (ap_cons _ (ap_cons _ (ap_cons _ (ap_cons _ (ap_cons _ (ap_cons _ rfl)))))))))))))))))
def f104_F_r10 (k : Nat) (G_l0 G_l2 G_l4 : f104_S) : f104_L := .blk 5 :: .c (f104_p 110664103) 4 :: .j (fun σ => G_l4 (cut f104_A.loops 4 σ)) :: .blk 4 :: .c (f104_p 1729127) 3 :: .blk 3 :: .c (f104_p 108071) 2 :: .j (fun σ => G_l2 (cut f104_A.loops 2 σ)) :: .blk 2 :: .c (f104_p 1689) 1 :: .blk 1 :: .c (f104_p 423) 0 :: .j (fun σ => G_l0 (cut f104_A.loops 0 σ)) :: .blk 0 :: .c (f104_p 7) 0 :: []
theorem f104_f_r10 (k : Nat) (R_l4 R_l2 R_l0 : f104_S) : f104_a k (f104_Q_r10 k R_l4 R_l2 R_l0) = f104_a k (f104_F_r10 k R_l0 R_l2 R_l4) := (ap_cons _ (ap_cons _ (ap_cons _ (ap_cons _ (ap_cons _ (ap_cons _ (ap_cons _ (ap_cons _ (ap_cons _ (ap_cons _ (ap_cons _ (ap_cons _ (ap_cons _ (ap_cons _ (ap_cons _ rfl)))))))))))))))
def f104_F_l4 (k : Nat) (G_l0 G_l2 G_l4 G_r10 : f104_S) : f104_L := .c (f104_p 27666024) 4 :: .c (f104_p 55332050) 4 :: .j (fun σ => f104_a k (.c (f104_p 442656408) 5 :: .c (f104_p 442656409) 5 :: .j G_r10 :: f104_F_r10 k G_l0 G_l2 G_l4) .nx σ) :: .c (f104_p 110664103) 4 :: .j (fun σ => G_l4 (cut f104_A.loops 4 σ)) :: .blk 4 :: .c (f104_p 1729127) 3 :: .blk 3 :: .c (f104_p 108071) 2 :: .j (fun σ => G_l2 (cut f104_A.loops 2 σ)) :: .blk 2 :: .c (f104_p 1689) 1 :: .blk 1 :: .c (f104_p 423) 0 :: .j (fun σ => G_l0 (cut f104_A.loops 0 σ)) :: .blk 0 :: .c (f104_p 7) 0 :: []
theorem f104_f_l4 (k : Nat) (R_l2 R_l0 R_l4 : f104_S) : f104_a k (f104_Q_l4 k R_l2 R_l0 R_l4) = f104_a k (f104_F_l4 k R_l0 R_l2 R_l4 (f104_C_r10 k R_l4 R_l2 R_l0)) := (Eq.trans ap_sq (ap_cons _ (Eq.trans ap_sq (ap_cons _ (Eq.trans ap_sq (Eq.trans (ap_bl 5) (Eq.trans (ap_j (Eq.trans ap_sq (ap_cons _ (ap_cons _ (Eq.trans (ap_pass (C := (f104_C_r10 k R_l4 R_l2 R_l0)) (fun _ => rfl)) (ap_cons _ (f104_f_r10 k R_l4 R_l2 R_l0))))))) (ap_cons _ (ap_cons _ (ap_cons _ (ap_cons _ (ap_cons _ (ap_cons _ (ap_cons _ (ap_cons _ (ap_cons _ (ap_cons _ (ap_cons _ (ap_cons _ (ap_cons _ (ap_cons _ (ap_cons _ rfl))))))))))))))))))))))
def f104_entry_B (k : Nat) (g_l0 : f104_t_l0) (a0 : Td6) (a1 a2 : Td7) : Option (Bool × Unit) := (g_l0 a1.1 a1.2.1 a1.2.2 a2.1 a2.2.1 a2.2.2 a0 0)
def f104_l0_B (k : Nat) (g_l2 : f104_t_l2) (y4_0 y4_1 y4_2 y5_0 y5_1 y5_2 : Int) (x0 : (List (Int × Int))) (x11 : Int) : Option (Bool × Unit) := (if x11 < 2 then (g_l2 y4_0 y4_1 y4_2 y5_0 y5_1 y5_2 x0 x11 0) else some (true, ()))
def f104_l2_B (k : Nat) (g_l0 : f104_t_l0) (g_l4 : f104_t_l4) (y4_0 y4_1 y4_2 y5_0 y5_1 y5_2 : Int) (x0 : (List (Int × Int))) (x11 x13 : Int) : Option (Bool × Unit) := (if x13 < 3 then (g_l4 y4_0 y4_1 y4_2 y5_0 y5_1 y5_2 x0 x11 x13 0 true) else (g_l0 y5_0 y5_1 y5_2 y4_0 y4_1 y4_2 x0 (w64 (x11 + 1))))
def f104_l4_B (k : Nat) (g_l2 : f104_t_l2) (g_r10 : f104_t_r10) (y4_0 y4_1 y4_2 y5_0 y5_1 y5_2 : Int) (x0 : (List (Int × Int))) (x11 x13 x17 : Int) (x8 : Bool) : Option (Bool × Unit) := (if x17 < 3 then (if 0 ≤ x17 then (if x17 < (3 : Int) then (if x8 = true then (if 0 ≤ x13 then (if x13 < (3 : Int) then (if 0 ≤ (([y4_0, y4_1, y4_2] : List Int).getD ((x13).toNat) 0) then (if (([y4_0, y4_1, y4_2] : List Int).getD ((x13).toNat) 0) < (x0.length : Int) then (if 0 ≤ ((w64 (x13 + 1)).tmod 3) then (if ((w64 (x13 + 1)).tmod 3) < (3 : Int) then (if 0 ≤ (([y4_0, y4_1, y4_2] : List Int).getD ((((w64 (x13 + 1)).tmod 3)).toNat) 0) then (if (([y4_0, y4_1, y4_2] : List Int).getD ((((w64 (x13 + 1)).tmod 3)).toNat) 0) < (x0.length : Int) then (if 0 ≤ (([y5_0, y5_1, y5_2] : List Int).getD ((x17).toNat) 0) then (if (([y5_0, y5_1, y5_2] : List Int).getD ((x17).toNat) 0) < (x0.length : Int) then ((f64 k ((x0.getD ((([y4_0, y4_1, y4_2] : List Int).getD ((x13).toNat) 0)).toNat (0, 0)).1, (x0.getD ((([y4_0, y4_1, y4_2] : List Int).getD ((x13).toNat) 0)).toNat (0, 0)).2) ((x0.getD ((([y4_0, y4_1, y4_2] : List Int).getD ((((w64 (x13 + 1)).tmod 3)).toNat) 0)).toNat (0, 0)).1, (x0.getD ((([y4_0, y4_1, y4_2] : List Int).getD ((((w64 (x13 + 1)).tmod 3)).toNat) 0)).toNat (0, 0)).2) ((x0.getD ((([y5_0, y5_1, y5_2] : List Int).getD ((x17).toNat) 0)).toNat (0, 0)).1, (x0.getD ((([y5_0, y5_1, y5_2] : List Int).getD ((x17).toNat) 0)).toNat (0, 0)).2)).bind fun r1 => (g_r10 y4_0 y4_1 y4_2 y5_0 y5_1 y5_2 x0 x11 x13 x17 (decide (r1.1 ≤ 0)))) else none) else none) else none) else none) else none) else none) else none) else none) else none) else none) else (g_r10 y4_0 y4_1 y4_2 y5_0 y5_1 y5_2 x0 x11 x13 x17 false)) else none) else none) else (if x8 = true then some (false, ()) else (g_l2 y4_0 y4_1 y4_2 y5_0 y5_1 y5_2 x0 x11 (w64 (x13 + 1)))))
def f104_r10_B (k : Nat) (g_l4 : f104_t_l4) (y4_0 y4_1 y4_2 y5_0 y5_1 y5_2 : Int) (x0 : (List (Int × Int))) (x11 x13 x17 : Int) (x8 : Bool) : Option (Bool × Unit) := (g_l4 y4_0 y4_1 y4_2 y5_0 y5_1 y5_2 x0 x11 x13 (w64 (x17 + 1)) (decide (x8 = true)))
theorem f104_r10_P (k : Nat) (G_l0 G_l2 G_l4 : f104_S) : f104_o_r10 (fun σ => f104_a k (f104_F_r10 k G_l0 G_l2 G_l4) .nx σ) = f104_r10_B k (f104_o_l4 G_l4) := by kernel_rfl
def f104_r10 (k : Nat) (r_l4 : f104_t_l4) (r_l2 : f104_t_l2) (r_l0 : f104_t_l0) : f104_t_r10 := f104_r10_B k r_l4
theorem f104_r10_E (k : Nat) (R_l4 R_l2 R_l0 : f104_S) : f104_o_r10 (f104_C_r10 k R_l4 R_l2 R_l0) = f104_r10 k (f104_o_l4 R_l4) (f104_o_l2 R_l2) (f104_o_l0 R_l0) :=
 Eq.trans (congrArg f104_o_r10 (ap_fn (f104_f_r10 k R_l4 R_l2 R_l0))) ((f104_r10_P k R_l0 R_l2 R_l4).trans (by rfl))
theorem f104_l4_P (k : Nat) (G_l0 G_l2 G_l4 G_r10 : f104_S) : f104_o_l4 (fun σ => f104_a k (f104_F_l4 k G_l0 G_l2 G_l4 G_r10) .nx σ) = f104_l4_B k (f104_o_l2 G_l2) (f104_o_r10 G_r10) := by kernel_rfl
def f104_l4 (k : Nat) (r_l2 : f104_t_l2) (r_l0 : f104_t_l0) : Nat → f104_t_l4
 | 0 => fun _ _ _ _ _ _ _ _ _ _ _ => none
 | n + 1 => f104_l4_B k r_l2 (f104_r10 k (f104_l4 k r_l2 r_l0 n) r_l2 r_l0)
theorem f104_l4_E (k : Nat) (R_l2 R_l0 : f104_S) : ∀ n, f104_o_l4 (f104_C_l4 k R_l2 R_l0 n) = f104_l4 k (f104_o_l2 R_l2) (f104_o_l0 R_l0) n
 | 0 => rfl
 | n + 1 =>
   Eq.trans (congrArg f104_o_l4 (Eq.trans (b := fun σ => f104_a k (f104_Q_l4 k R_l2 R_l0 (f104_C_l4 k R_l2 R_l0 n)) .nx σ) lp_step (ap_fn (f104_f_l4 k R_l2 R_l0 (f104_C_l4 k R_l2 R_l0 n))))) ((f104_l4_P k R_l0 R_l2 (f104_C_l4 k R_l2 R_l0 n) (f104_C_r10 k (f104_C_l4 k R_l2 R_l0 n) R_l2 R_l0)).trans (by rw [f104_r10_E k (f104_C_l4 k R_l2 R_l0 n) R_l2 R_l0, f104_l4_E k R_l2 R_l0 n] <;> rfl))
theorem f104_l2_P (k : Nat) (G_l0 G_l2 G_l4 : f104_S) : f104_o_l2 (fun σ => f104_a k (f104_F_l2 k G_l0 G_l2 G_l4) .nx σ) = f104_l2_B k (f104_o_l0 G_l0) (f104_o_l4 G_l4) := by kernel_rfl
def f104_l2 (k : Nat) (r_l0 : f104_t_l0) : Nat → f104_t_l2
 | 0 => fun _ _ _ _ _ _ _ _ _ => none
 | n + 1 => f104_l2_B k r_l0 (f104_l4 k (f104_l2 k r_l0 n) r_l0 k)
theorem f104_l2_E (k : Nat) (R_l0 : f104_S) : ∀ n, f104_o_l2 (f104_C_l2 k R_l0 n) = f104_l2 k (f104_o_l0 R_l0) n
 | 0 => rfl
 | n + 1 =>
   Eq.trans (congrArg f104_o_l2 (Eq.trans (b := fun σ => f104_a k (f104_Q_l2 k R_l0 (f104_C_l2 k R_l0 n)) .nx σ) lp_step (ap_fn (f104_f_l2 k R_l0 (f104_C_l2 k R_l0 n))))) ((f104_l2_P k R_l0 (f104_C_l2 k R_l0 n) (f104_C_l4 k (f104_C_l2 k R_l0 n) R_l0 k)).trans (by rw [f104_l4_E k (f104_C_l2 k R_l0 n) R_l0 k, f104_l2_E k R_l0 n] <;> rfl))
theorem f104_l0_P (k : Nat) (G_l0 G_l2 : f104_S) : f104_o_l0 (fun σ => f104_a k (f104_F_l0 k G_l0 G_l2) .nx σ) = f104_l0_B k (f104_o_l2 G_l2) := by kernel_rfl
def f104_l0 (k : Nat) : Nat → f104_t_l0
 | 0 => fun _ _ _ _ _ _ _ _ => none
 | n + 1 => f104_l0_B k (f104_l2 k (f104_l0 k n) k)
theorem f104_l0_E (k : Nat) : ∀ n, f104_o_l0 (f104_C_l0 k n) = f104_l0 k n
 | 0 => rfl
 | n + 1 =>
   Eq.trans (congrArg f104_o_l0 (Eq.trans (b := fun σ => f104_a k (f104_Q_l0 k (f104_C_l0 k n)) .nx σ) lp_step (ap_fn (f104_f_l0 k (f104_C_l0 k n))))) ((f104_l0_P k (f104_C_l0 k n) (f104_C_l2 k (f104_C_l0 k n) k)).trans (by rw [f104_l2_E k (f104_C_l0 k n) k, f104_l0_E k n] <;> rfl))
theorem f104_entry_P (k : Nat) (G_l0 : f104_S) (xs : DL f104_sig) : f104_a k (.c (f104_p 2) 0 :: .c (f104_p 12) 0 :: .j (fun σ => f104_a k (.j (fun σ => G_l0 (cut f104_A.loops 0 σ)) :: .blk 0 :: .c (f104_p 7) 0 :: []) .nx σ) :: .c (f104_p 7) 0 :: []) .nx (σ0 49 160 f104_sig xs) = f104_entry_B k (f104_o_l0 G_l0) xs.1 xs.2.1 xs.2.2.1 := by kernel_rfl
def f104 (k : Nat) (a0 : Td6) (a1 a2 : Td7) : Option (Bool × Unit) := f104_entry_B k (f104_l0 k k) a0 a1 a2
theorem f104_fe (k : Nat) : f104_a k [.c (f104_p 1) 0] = f104_a k (.c (f104_p 2) 0 :: .c (f104_p 12) 0 :: .j (fun σ => f104_a k (.j (fun σ => (f104_C_l0 k k) (cut f104_A.loops 0 σ)) :: .blk 0 :: .c (f104_p 7) 0 :: []) .nx σ) :: .c (f104_p 7) 0 :: []) := (Eq.trans ap_sq (ap_cons _ (Eq.trans ap_sq (Eq.trans ap_sq (ap_cons _ (Eq.trans (ap_bl 0) (Eq.trans (ap_j (Eq.trans (ap_lp (C := (f104_C_l0 k)) (fun _ _ => rfl)) (ap_cons _ (ap_cons _ (ap_cons _ rfl))))) (ap_cons _ (ap_cons _ rfl)))))))))
theorem f104_eq (k : Nat) (xs : DL f104_sig) : den T f104_Y (f104_E k) f104_A k f104_c 0 (σ0 49 160 f104_sig xs) (Kfin T f104_rs f104_ts) = f104 k xs.1 xs.2.1 xs.2.2.1 :=
 Eq.trans (Eq.trans den_sb (ap_at (f104_fe k) _)) ((f104_entry_P k (f104_C_l0 k k) xs).trans (by rw [f104_l0_E k k] <;> rfl))
def f104_con (k : Nat) : Con := ⟨f104_sig, f104_rs, fun xs => f104 k xs.1 xs.2.1 xs.2.2.1⟩
theorem f104_ok (k : Nat) : PureOK Try.prog 104 f104_sig f104_rs (fun xs => f104 k xs.1 xs.2.1 xs.2.2.1) :=
 (pure_of_den (k := k) (A := f104_A) (T := T) (Y := f104_Y) (E := f104_E k) (M := 160) (ts := f104_ts) T_ok ⟨f64_ok k, trivial⟩ ⟨f64_ent, trivial⟩ mixed (f := 104) (fn := Try.f104) (c := f104_c) (by kernel_rfl) (by kernel_rfl) (by kernel_rfl) (by decide) (by kernel_rfl)).congr fun xs => (f104_eq k xs).symm
theorem f104_ent : Ent Try.prog 104 := fun args w => by kernel_rfl
def f105_c : Code := Try.f105.body.getD .skip
abbrev f105_p (n : Nat) : Code := sb f105_c n
abbrev f105_sig : List PT := [(false, Tq2)]
abbrev f105_rs : List RT := [.d false (.int .i64)]
abbrev f105_ts : List RV := [.tmp 2]
abbrev f105_S := St → Option (RDL f105_rs)
abbrev f105_L := List (Fr (RDL f105_rs))
def f105_Y : Tys := []
def f105_E (k : Nat) : Env := [(64, .c (f64_con k)), (81, .c (f81_con k))]
def f105_A : Ann := { loops := [(0, { slots := [(0, .val false Tq1), (3, .id), (12, .val false Tq1), (13, .id), (14, .id)] }), (2, { slots := [(0, .val false Tq1), (3, .id), (4, .id), (5, .id), (12, .val false Tq1), (13, .id), (14, .id), (19, .val false Tq1), (20, .id), (21, .id)], keys := [(5, [])] }), (4, { slots := [(0, .val false Tq1), (3, .id), (4, .id), (5, .id), (6, .id), (7, .id), (8, .bool), (12, .val false Tq1), (13, .id), (14, .id), (19, .val false Tq1), (20, .id), (21, .id), (29, .val false Tq1), (30, .id), (31, .id)], keys := [(5, []), (7, [])] })], regs := [(13, { slots := [(0, .val false Tq1), (3, .id), (4, .id), (5, .id), (6, .id), (7, .id), (8, .bool), (12, .val false Tq1), (13, .id), (14, .id), (19, .val false Tq1), (20, .id), (21, .id), (29, .val false Tq1), (30, .id), (31, .id), (66, .bool)], keys := [(5, []), (7, [])] })], conds := [(17, { slots := [(0, .val false Tq1), (3, .id), (4, .id), (5, .id), (12, .val false Tq1), (13, .id), (14, .id), (19, .val false Tq1), (20, .id), (21, .id)], keys := [(5, [])] }), (14, { slots := [(0, .val false Tq1), (3, .id), (4, .id), (5, .id), (6, .id), (7, .id), (8, .bool), (12, .val false Tq1), (13, .id), (14, .id), (19, .val false Tq1), (20, .id), (21, .id), (29, .val false Tq1), (30, .id), (31, .id)], keys := [(5, []), (7, [])] })] }
abbrev f105_a (k : Nat) (F : f105_L) : Kont (RDL f105_rs) := ap T f105_Y (f105_E k) f105_A k (Kfin T f105_rs f105_ts) F
def f105_s_l0 (x0 : (List (Int × Int))) (x13 x14 x3 : Int) : St := mkS 85 256 [(0, aV Tq1 x0), (3, aI x3), (12, aV Tq1 x0), (13, aI x13), (14, aI x14)] []
abbrev f105_t_l0 := (List (Int × Int)) → Int → Int → Int → Option (Int × Unit)
abbrev f105_o_l0 (R : f105_S) : f105_t_l0 := (fun x0 x13 x14 x3 => R (f105_s_l0 x0 x13 x14 x3))
def f105_Q_l0 (k : Nat) (R_l0 : f105_S) : f105_L := [.c (f105_p 116) 0, .j (fun σ => R_l0 (cut f105_A.loops 0 σ)), .blk 0, .c (f105_p 15) 0]
def f105_C_l0 (k n : Nat) (σ : St) : Option (RDL f105_rs) := loopK (fun σ K => den T f105_Y (f105_E k) f105_A k (f105_p 116) 0 σ K) (cut f105_A.loops 0) (f105_a k [.blk 0, .c (f105_p 15) 0]) n σ
def f105_s_l2 (y5_0 y5_1 : Int) (x0 : (List (Int × Int))) (x13 x14 x20 x21 x3 : Int) : St := mkS 85 256 [(0, aV Tq1 x0), (3, aI x3), (4, aI x14), (5, aP 5), (12, aV Tq1 x0), (13, aI x13), (14, aI x14), (19, aV Tq1 x0), (20, aI x20), (21, aI x21)] [(5, .box [cI y5_0, cI y5_1])]
abbrev f105_t_l2 := Int → Int → (List (Int × Int)) → Int → Int → Int → Int → Int → Option (Int × Unit)
abbrev f105_o_l2 (R : f105_S) : f105_t_l2 := (fun y5_0 y5_1 x0 x13 x14 x20 x21 x3 => R (f105_s_l2 y5_0 y5_1 x0 x13 x14 x20 x21 x3))
def f105_Q_l2 (k : Nat) (R_l0 R_l2 : f105_S) : f105_L := [.c (f105_p 29900) 2, .j (fun σ => R_l2 (cut f105_A.loops 2 σ)), .blk 2, .blk 1, .c (f105_p 935) 0, .j (fun σ => R_l0 (cut f105_A.loops 0 σ)), .blk 0, .c (f105_p 15) 0]
def f105_C_l2 (k : Nat) (R_l0 : f105_S) (n : Nat) (σ : St) : Option (RDL f105_rs) := loopK (fun σ K => den T f105_Y (f105_E k) f105_A k (f105_p 29900) 2 σ K) (cut f105_A.loops 2) (f105_a k [.blk 2, .blk 1, .c (f105_p 935) 0, .j (fun σ => R_l0 (cut f105_A.loops 0 σ)), .blk 0, .c (f105_p 15) 0]) n σ
def f105_s_l4 (y5_0 y5_1 y7_0 y7_1 : Int) (x0 : (List (Int × Int))) (x13 x14 x20 x21 x3 x30 x31 : Int) (x8 : Bool) : St := mkS 85 256 [(0, aV Tq1 x0), (3, aI x3), (4, aI x14), (5, aP 5), (6, aI x21), (7, aP 7), (8, aB x8), (12, aV Tq1 x0), (13, aI x13), (14, aI x14), (19, aV Tq1 x0), (20, aI x20), (21, aI x21), (29, aV Tq1 x0), (30, aI x30), (31, aI x31)] [(5, .box [cI y5_0, cI y5_1]), (7, .box [cI y7_0, cI y7_1])]
abbrev f105_t_l4 := Int → Int → Int → Int → (List (Int × Int)) → Int → Int → Int → Int → Int → Int → Int → Bool → Option (Int × Unit)
abbrev f105_o_l4 (R : f105_S) : f105_t_l4 := (fun y5_0 y5_1 y7_0 y7_1 x0 x13 x14 x20 x21 x3 x30 x31 x8 => R (f105_s_l4 y5_0 y5_1 y7_0 y7_1 x0 x13 x14 x20 x21 x3 x30 x31 x8))
def f105_Q_l4 (k : Nat) (R_l2 R_l0 R_l4 : f105_S) : f105_L := [.c (f105_p 30618420) 4, .j (fun σ => R_l4 (cut f105_A.loops 4 σ)), .blk 4, .c (f105_p 3827303) 3, .blk 3, .c (f105_p 239207) 2, .j (fun σ => R_l2 (cut f105_A.loops 2 σ)), .blk 2, .blk 1, .c (f105_p 935) 0, .j (fun σ => R_l0 (cut f105_A.loops 0 σ)), .blk 0, .c (f105_p 15) 0]
def f105_C_l4 (k : Nat) (R_l2 R_l0 : f105_S) (n : Nat) (σ : St) : Option (RDL f105_rs) := loopK (fun σ K => den T f105_Y (f105_E k) f105_A k (f105_p 30618420) 4 σ K) (cut f105_A.loops 4) (f105_a k [.blk 4, .c (f105_p 3827303) 3, .blk 3, .c (f105_p 239207) 2, .j (fun σ => R_l2 (cut f105_A.loops 2 σ)), .blk 2, .blk 1, .c (f105_p 935) 0, .j (fun σ => R_l0 (cut f105_A.loops 0 σ)), .blk 0, .c (f105_p 15) 0]) n σ
def f105_s_r13 (y5_0 y5_1 y7_0 y7_1 : Int) (x0 : (List (Int × Int))) (x13 x14 x20 x21 x3 x30 x31 : Int) (x66 x8 : Bool) : St := mkS 85 256 [(0, aV Tq1 x0), (3, aI x3), (4, aI x14), (5, aP 5), (6, aI x21), (7, aP 7), (8, aB x8), (12, aV Tq1 x0), (13, aI x13), (14, aI x14), (19, aV Tq1 x0), (20, aI x20), (21, aI x21), (29, aV Tq1 x0), (30, aI x30), (31, aI x31), (66, aB x66)] [(5, .box [cI y5_0, cI y5_1]), (7, .box [cI y7_0, cI y7_1])]
abbrev f105_t_r13 := Int → Int → Int → Int → (List (Int × Int)) → Int → Int → Int → Int → Int → Int → Int → Bool → Bool → Option (Int × Unit)
abbrev f105_o_r13 (R : f105_S) : f105_t_r13 := (fun y5_0 y5_1 y7_0 y7_1 x0 x13 x14 x20 x21 x3 x30 x31 x66 x8 => R (f105_s_r13 y5_0 y5_1 y7_0 y7_1 x0 x13 x14 x20 x21 x3 x30 x31 x66 x8))
def f105_Q_r13 (k : Nat) (R_l4 R_l2 R_l0 : f105_S) : f105_L := [.c (f105_p 3919157863) 5, .blk 5, .c (f105_p 244947367) 4, .j (fun σ => R_l4 (cut f105_A.loops 4 σ)), .blk 4, .c (f105_p 3827303) 3, .blk 3, .c (f105_p 239207) 2, .j (fun σ => R_l2 (cut f105_A.loops 2 σ)), .blk 2, .blk 1, .c (f105_p 935) 0, .j (fun σ => R_l0 (cut f105_A.loops 0 σ)), .blk 0, .c (f105_p 15) 0]
def f105_C_r13 (k : Nat) (R_l4 R_l2 R_l0 : f105_S) : f105_S := fun σ => f105_a k (f105_Q_r13 k R_l4 R_l2 R_l0) .nx σ
def f105_s_c17 (y5_0 y5_1 : Int) (x0 : (List (Int × Int))) (x13 x14 x20 x21 x3 : Int) : St := mkS 85 256 [(0, aV Tq1 x0), (3, aI x3), (4, aI x14), (5, aP 5), (12, aV Tq1 x0), (13, aI x13), (14, aI x14), (19, aV Tq1 x0), (20, aI x20), (21, aI x21)] [(5, .box [cI y5_0, cI y5_1])]
abbrev f105_t_c17 := Int → Int → (List (Int × Int)) → Int → Int → Int → Int → Int → Option (Int × Unit)
abbrev f105_o_c17 (R : f105_S) : f105_t_c17 := (fun y5_0 y5_1 x0 x13 x14 x20 x21 x3 => R (f105_s_c17 y5_0 y5_1 x0 x13 x14 x20 x21 x3))
def f105_Q_c17 (k : Nat) (R_l2 R_l0 : f105_S) : f105_L := [.blk 3, .c (f105_p 239207) 2, .j (fun σ => R_l2 (cut f105_A.loops 2 σ)), .blk 2, .blk 1, .c (f105_p 935) 0, .j (fun σ => R_l0 (cut f105_A.loops 0 σ)), .blk 0, .c (f105_p 15) 0]
def f105_C_c17 (k : Nat) (R_l2 R_l0 : f105_S) : f105_S := fun σ => f105_a k (f105_Q_c17 k R_l2 R_l0) .nx σ
def f105_s_c14 (y5_0 y5_1 y7_0 y7_1 : Int) (x0 : (List (Int × Int))) (x13 x14 x20 x21 x3 x30 x31 : Int) (x8 : Bool) : St := mkS 85 256 [(0, aV Tq1 x0), (3, aI x3), (4, aI x14), (5, aP 5), (6, aI x21), (7, aP 7), (8, aB x8), (12, aV Tq1 x0), (13, aI x13), (14, aI x14), (19, aV Tq1 x0), (20, aI x20), (21, aI x21), (29, aV Tq1 x0), (30, aI x30), (31, aI x31)] [(5, .box [cI y5_0, cI y5_1]), (7, .box [cI y7_0, cI y7_1])]
abbrev f105_t_c14 := Int → Int → Int → Int → (List (Int × Int)) → Int → Int → Int → Int → Int → Int → Int → Bool → Option (Int × Unit)
abbrev f105_o_c14 (R : f105_S) : f105_t_c14 := (fun y5_0 y5_1 y7_0 y7_1 x0 x13 x14 x20 x21 x3 x30 x31 x8 => R (f105_s_c14 y5_0 y5_1 y7_0 y7_1 x0 x13 x14 x20 x21 x3 x30 x31 x8))
def f105_Q_c14 (k : Nat) (R_l4 R_l2 R_l0 : f105_S) : f105_L := [.blk 5, .c (f105_p 244947367) 4, .j (fun σ => R_l4 (cut f105_A.loops 4 σ)), .blk 4, .c (f105_p 3827303) 3, .blk 3, .c (f105_p 239207) 2, .j (fun σ => R_l2 (cut f105_A.loops 2 σ)), .blk 2, .blk 1, .c (f105_p 935) 0, .j (fun σ => R_l0 (cut f105_A.loops 0 σ)), .blk 0, .c (f105_p 15) 0]
def f105_C_c14 (k : Nat) (R_l4 R_l2 R_l0 : f105_S) : f105_S := fun σ => f105_a k (f105_Q_c14 k R_l4 R_l2 R_l0) .nx σ
def f105_F_l0 (k : Nat) (G_l0 G_l2 : f105_S) : f105_L := .c (f105_p 232) 0 :: .c (f105_p 466) 0 :: .j (fun σ => f105_a k (.c (f105_p 3736) 1 :: .c (f105_p 7474) 1 :: .j (fun σ => f105_a k (.j (fun σ => G_l2 (cut f105_A.loops 2 σ)) :: .blk 2 :: .blk 1 :: .c (f105_p 935) 0 :: .j (fun σ => G_l0 (cut f105_A.loops 0 σ)) :: .blk 0 :: .c (f105_p 15) 0 :: []) .nx σ) :: .blk 1 :: .c (f105_p 935) 0 :: .j (fun σ => G_l0 (cut f105_A.loops 0 σ)) :: .blk 0 :: .c (f105_p 15) 0 :: []) .nx σ) :: .c (f105_p 935) 0 :: .j (fun σ => G_l0 (cut f105_A.loops 0 σ)) :: .blk 0 :: .c (f105_p 15) 0 :: []
theorem f105_f_l0 (k : Nat) (R_l0 : f105_S) : f105_a k (f105_Q_l0 k R_l0) = f105_a k (f105_F_l0 k R_l0 (f105_C_l2 k R_l0 k)) := (Eq.trans ap_sq (ap_cons _ (Eq.trans ap_sq (ap_cons _ (Eq.trans ap_sq (Eq.trans (ap_bl 1) (Eq.trans (ap_j (Eq.trans ap_sq (ap_cons _ (Eq.trans ap_sq (ap_cons _ (Eq.trans (ap_bl 2) (Eq.trans (ap_j (Eq.trans (ap_lp (C := (f105_C_l2 k R_l0)) (fun _ _ => rfl)) (ap_cons _ (ap_cons _ (ap_cons _ (ap_cons _ (ap_cons _ (ap_cons _ (ap_cons _ rfl))))))))) (ap_cons _ (ap_cons _ (ap_cons _ (ap_cons _ (ap_cons _ (ap_cons _ rfl))))))))))))) (ap_cons _ (ap_cons _ (ap_cons _ (ap_cons _ (ap_cons _ rfl))))))))))))
def f105_F_c17 (k : Nat) (G_l0 G_l2 : f105_S) : f105_L := .blk 3 :: .c (f105_p 239207) 2 :: .j (fun σ => G_l2 (cut f105_A.loops 2 σ)) :: .blk 2 :: .blk 1 :: .c (f105_p 935) 0 :: .j (fun σ => G_l0 (cut f105_A.loops 0 σ)) :: .blk 0 :: .c (f105_p 15) 0 :: []
theorem f105_f_c17 (k : Nat) (R_l2 R_l0 : f105_S) : f105_a k (f105_Q_c17 k R_l2 R_l0) = f105_a k (f105_F_c17 k R_l0 R_l2) := (ap_cons _ (ap_cons _ (ap_cons _ (ap_cons _ (ap_cons _ (ap_cons _ (ap_cons _ (ap_cons _ (ap_cons _ rfl)))))))))
def f105_F_l2 (k : Nat) (G_l0 G_l2 G_l4 G_c17 : f105_S) : f105_L := .c (f105_p 59800) 2 :: .c (f105_p 119602) 2 :: .j (fun σ => f105_a k (.c (f105_p 956824) 3 :: .c (f105_p 1913650) 3 :: .c (f105_p 7654604) 3 :: .j (fun σ => f105_a k (.j (fun σ => G_l4 (cut f105_A.loops 4 σ)) :: .blk 4 :: .c (f105_p 7654606) 3 :: .c (f105_p 7654607) 3 :: .j G_c17 :: f105_F_c17 k G_l0 G_l2) .nx σ) :: .c (f105_p 7654606) 3 :: .c (f105_p 7654607) 3 :: .j G_c17 :: f105_F_c17 k G_l0 G_l2) .nx σ) :: .c (f105_p 239207) 2 :: .j (fun σ => G_l2 (cut f105_A.loops 2 σ)) :: .blk 2 :: .blk 1 :: .c (f105_p 935) 0 :: .j (fun σ => G_l0 (cut f105_A.loops 0 σ)) :: .blk 0 :: .c (f105_p 15) 0 :: []
theorem f105_f_l2 (k : Nat) (R_l0 R_l2 : f105_S) : f105_a k (f105_Q_l2 k R_l0 R_l2) = f105_a k (f105_F_l2 k R_l0 R_l2 (f105_C_l4 k R_l2 R_l0 k) (f105_C_c17 k R_l2 R_l0)) := (Eq.trans ap_sq (ap_cons _ (Eq.trans ap_sq (ap_cons _ (Eq.trans ap_sq (Eq.trans (ap_bl 3) (Eq.trans (ap_j (Eq.trans ap_sq (ap_cons _ (Eq.trans ap_sq (ap_cons _ (Eq.trans ap_sq (Eq.trans ap_sq (ap_cons _ (Eq.trans (ap_bl 4) (Eq.trans (ap_j (Eq.trans (ap_lp (C := (f105_C_l4 k R_l2 R_l0)) (fun _ _ => rfl)) (ap_cons _ (ap_cons _ (Eq.trans ap_sq (ap_cons _ (ap_cons _ (Eq.trans (ap_pass (C := (f105_C_c17 k R_l2 R_l0)) (fun _ => rfl)) (ap_cons _ (f105_f_c17 k R_l2 R_l0)))))))))) (ap_cons _ (Eq.trans ap_sq (ap_cons _ (ap_cons _ (Eq.trans (ap_pass (C := (f105_C_c17 k R_l2 R_l0)) (fun _ => rfl)) (ap_cons _ (f105_f_c17 k R_l2 R_l0))))))))))))))))) (ap_cons _ (ap_cons _ (ap_cons _ (ap_cons _ (ap_cons _ (ap_cons _ (ap_cons _ (ap_cons _ (ap_cons _ rfl))))))))))))))))
def f105_F_c14 (k : Nat) (G_l0 G_l2 G_l4 G_c17 : f105_S) : f105_L := .blk 5 :: .c (f105_p 244947367) 4 :: .j (fun σ => G_l4 (cut f105_A.loops 4 σ)) :: .blk 4 :: .c (f105_p 7654606) 3 :: .c (f105_p 7654607) 3 :: .j G_c17 :: f105_F_c17 k G_l0 G_l2
theorem f105_f_c14 (k : Nat) (R_l4 R_l2 R_l0 : f105_S) : f105_a k (f105_Q_c14 k R_l4 R_l2 R_l0) = f105_a k (f105_F_c14 k R_l0 R_l2 R_l4 (f105_C_c17 k R_l2 R_l0)) := (ap_cons _ (ap_cons _ (ap_cons _ (ap_cons _ (Eq.trans ap_sq (ap_cons _ (ap_cons _ (Eq.trans (ap_pass (C := (f105_C_c17 k R_l2 R_l0)) (fun _ => rfl)) (ap_cons _ (f105_f_c17 k R_l2 R_l0))))))))))
def f105_F_r13 (k : Nat) (G_l0 G_l2 G_l4 G_c17 G_c14 : f105_S) : f105_L := .c (f105_p 3919157863) 5 :: .j G_c14 :: f105_F_c14 k G_l0 G_l2 G_l4 G_c17
theorem f105_f_r13 (k : Nat) (R_l4 R_l2 R_l0 : f105_S) : f105_a k (f105_Q_r13 k R_l4 R_l2 R_l0) = f105_a k (f105_F_r13 k R_l0 R_l2 R_l4 (f105_C_c17 k R_l2 R_l0) (f105_C_c14 k R_l4 R_l2 R_l0)) := (ap_cons _ (Eq.trans (ap_pass (C := (f105_C_c14 k R_l4 R_l2 R_l0)) (fun _ => rfl)) (ap_cons _ (f105_f_c14 k R_l4 R_l2 R_l0))))
def f105_F_l4 (k : Nat) (G_l0 G_l2 G_l4 G_r13 G_c17 G_c14 : f105_S) : f105_L := .c (f105_p 61236840) 4 :: .c (f105_p 122473682) 4 :: .j (fun σ => f105_a k (.c (f105_p 979789464) 5 :: .c (f105_p 1959578930) 5 :: .c (f105_p 3919157862) 5 :: .j G_r13 :: f105_F_r13 k G_l0 G_l2 G_l4 G_c17 G_c14) .nx σ) :: .c (f105_p 244947367) 4 :: .j (fun σ => G_l4 (cut f105_A.loops 4 σ)) :: .blk 4 :: .c (f105_p 7654606) 3 :: .c (f105_p 7654607) 3 :: .j G_c17 :: f105_F_c17 k G_l0 G_l2
theorem f105_f_l4 (k : Nat) (R_l2 R_l0 R_l4 : f105_S) : f105_a k (f105_Q_l4 k R_l2 R_l0 R_l4) = f105_a k (f105_F_l4 k R_l0 R_l2 R_l4 (f105_C_r13 k R_l4 R_l2 R_l0) (f105_C_c17 k R_l2 R_l0) (f105_C_c14 k R_l4 R_l2 R_l0)) := (Eq.trans ap_sq (ap_cons _ (Eq.trans ap_sq (ap_cons _ (Eq.trans ap_sq (Eq.trans (ap_bl 5) (Eq.trans (ap_j (Eq.trans ap_sq (ap_cons _ (Eq.trans ap_sq (ap_cons _ (Eq.trans ap_sq (ap_cons _ (Eq.trans (ap_pass (C := (f105_C_r13 k R_l4 R_l2 R_l0)) (fun _ => rfl)) (ap_cons _ (f105_f_r13 k R_l4 R_l2 R_l0)))))))))) (ap_cons _ (ap_cons _ (ap_cons _ (ap_cons _ (Eq.trans ap_sq (ap_cons _ (ap_cons _ (Eq.trans (ap_pass (C := (f105_C_c17 k R_l2 R_l0)) (fun _ => rfl)) (ap_cons _ (f105_f_c17 k R_l2 R_l0)))))))))))))))))
def f105_entry_B (k : Nat) (g_l0 : f105_t_l0) (a0 : Td6) : Option (Int × Unit) := (g_l0 a0 (a0.length : Int) 0 0)
def f105_l0_B (k : Nat) (g_l2 : f105_t_l2) (x0 : (List (Int × Int))) (x13 x14 x3 : Int) : Option (Int × Unit) := (if x14 < x13 then (if 0 ≤ x14 then (if x14 < (x0.length : Int) then (g_l2 ((x0.getD (x14).toNat (0, 0)).1) ((x0.getD (x14).toNat (0, 0)).2) x0 x13 x14 (x0.length : Int) 0 x3) else none) else none) else some (x3, ()))
def f105_l2_B (k : Nat) (g_l0 : f105_t_l0) (g_l4 : f105_t_l4) (y5_0 y5_1 : Int) (x0 : (List (Int × Int))) (x13 x14 x20 x21 x3 : Int) : Option (Int × Unit) := (if x21 < x20 then (if 0 ≤ x21 then (if x21 < (x0.length : Int) then (g_l4 y5_0 y5_1 ((x0.getD (x21).toNat (0, 0)).1) ((x0.getD (x21).toNat (0, 0)).2) x0 x13 x14 x20 x21 x3 (x0.length : Int) 0 (decide (¬ (x14 = x21)))) else none) else none) else (g_l0 x0 x13 (w64 (x14 + 1)) x3))
def f105_l4_B (k : Nat) (g_r13 : f105_t_r13) (g_c17 : f105_t_c17) (y5_0 y5_1 y7_0 y7_1 : Int) (x0 : (List (Int × Int))) (x13 x14 x20 x21 x3 x30 x31 : Int) (x8 : Bool) : Option (Int × Unit) := (if x31 < x30 then (if 0 ≤ x31 then (if x31 < (x0.length : Int) then ((f64 k (y5_0, y5_1) (y7_0, y7_1) ((x0.getD (x31).toNat (0, 0)).1, (x0.getD (x31).toNat (0, 0)).2)).bind fun r1 => (if r1.1 < 0 then (g_r13 y5_0 y5_1 y7_0 y7_1 x0 x13 x14 x20 x21 x3 x30 x31 true (decide (x8 = true))) else (if r1.1 = 0 then (if ¬ (x31 = x14) then (if ¬ (x31 = x21) then ((f81 k ((x0.getD (x31).toNat (0, 0)).1, (x0.getD (x31).toNat (0, 0)).2) (y5_0, y5_1)).bind fun r2 => ((f81 k ((x0.getD (x31).toNat (0, 0)).1, (x0.getD (x31).toNat (0, 0)).2) (y7_0, y7_1)).bind fun r3 => (g_r13 y5_0 y5_1 y7_0 y7_1 x0 x13 x14 x20 x21 x3 x30 x31 (decide (decide (r2.1 < 0) = decide (r3.1 < 0))) (decide (x8 = true))))) else (g_r13 y5_0 y5_1 y7_0 y7_1 x0 x13 x14 x20 x21 x3 x30 x31 false (decide (x8 = true)))) else (g_r13 y5_0 y5_1 y7_0 y7_1 x0 x13 x14 x20 x21 x3 x30 x31 false (decide (x8 = true)))) else (g_r13 y5_0 y5_1 y7_0 y7_1 x0 x13 x14 x20 x21 x3 x30 x31 false (decide (x8 = true)))))) else none) else none) else (if x8 = true then (g_c17 y5_0 y5_1 x0 x13 x14 x20 x21 (w64 (x3 + (w64 ((w64 (y5_0 * y7_1)) - (w64 (y7_0 * y5_1))))))) else (g_c17 y5_0 y5_1 x0 x13 x14 x20 x21 x3)))
def f105_r13_B (k : Nat) (g_c14 : f105_t_c14) (y5_0 y5_1 y7_0 y7_1 : Int) (x0 : (List (Int × Int))) (x13 x14 x20 x21 x3 x30 x31 : Int) (x66 x8 : Bool) : Option (Int × Unit) := (if x66 = true then (g_c14 y5_0 y5_1 y7_0 y7_1 x0 x13 x14 x20 x21 x3 x30 x31 false) else (g_c14 y5_0 y5_1 y7_0 y7_1 x0 x13 x14 x20 x21 x3 x30 x31 (decide (x8 = true))))
def f105_c17_B (k : Nat) (g_l2 : f105_t_l2) (y5_0 y5_1 : Int) (x0 : (List (Int × Int))) (x13 x14 x20 x21 x3 : Int) : Option (Int × Unit) := (g_l2 y5_0 y5_1 x0 x13 x14 x20 (w64 (x21 + 1)) x3)
def f105_c14_B (k : Nat) (g_l4 : f105_t_l4) (y5_0 y5_1 y7_0 y7_1 : Int) (x0 : (List (Int × Int))) (x13 x14 x20 x21 x3 x30 x31 : Int) (x8 : Bool) : Option (Int × Unit) := (g_l4 y5_0 y5_1 y7_0 y7_1 x0 x13 x14 x20 x21 x3 x30 (w64 (x31 + 1)) (decide (x8 = true)))
theorem f105_c14_P (k : Nat) (G_l0 G_l2 G_l4 G_c17 : f105_S) : f105_o_c14 (fun σ => f105_a k (f105_F_c14 k G_l0 G_l2 G_l4 G_c17) .nx σ) = f105_c14_B k (f105_o_l4 G_l4) := by kernel_rfl
def f105_c14 (k : Nat) (r_l4 : f105_t_l4) (r_l2 : f105_t_l2) (r_l0 : f105_t_l0) : f105_t_c14 := f105_c14_B k r_l4
theorem f105_c14_E (k : Nat) (R_l4 R_l2 R_l0 : f105_S) : f105_o_c14 (f105_C_c14 k R_l4 R_l2 R_l0) = f105_c14 k (f105_o_l4 R_l4) (f105_o_l2 R_l2) (f105_o_l0 R_l0) :=
 Eq.trans (congrArg f105_o_c14 (ap_fn (f105_f_c14 k R_l4 R_l2 R_l0))) ((f105_c14_P k R_l0 R_l2 R_l4 (f105_C_c17 k R_l2 R_l0)).trans (by rfl))
theorem f105_r13_P (k : Nat) (G_l0 G_l2 G_l4 G_c17 G_c14 : f105_S) : f105_o_r13 (fun σ => f105_a k (f105_F_r13 k G_l0 G_l2 G_l4 G_c17 G_c14) .nx σ) = f105_r13_B k (f105_o_c14 G_c14) := by kernel_rfl
def f105_r13 (k : Nat) (r_l4 : f105_t_l4) (r_l2 : f105_t_l2) (r_l0 : f105_t_l0) : f105_t_r13 := f105_r13_B k (f105_c14 k r_l4 r_l2 r_l0)
theorem f105_r13_E (k : Nat) (R_l4 R_l2 R_l0 : f105_S) : f105_o_r13 (f105_C_r13 k R_l4 R_l2 R_l0) = f105_r13 k (f105_o_l4 R_l4) (f105_o_l2 R_l2) (f105_o_l0 R_l0) :=
 Eq.trans (congrArg f105_o_r13 (ap_fn (f105_f_r13 k R_l4 R_l2 R_l0))) ((f105_r13_P k R_l0 R_l2 R_l4 (f105_C_c17 k R_l2 R_l0) (f105_C_c14 k R_l4 R_l2 R_l0)).trans (by rw [f105_c14_E k R_l4 R_l2 R_l0] <;> rfl))
theorem f105_c17_P (k : Nat) (G_l0 G_l2 : f105_S) : f105_o_c17 (fun σ => f105_a k (f105_F_c17 k G_l0 G_l2) .nx σ) = f105_c17_B k (f105_o_l2 G_l2) := by kernel_rfl
def f105_c17 (k : Nat) (r_l2 : f105_t_l2) (r_l0 : f105_t_l0) : f105_t_c17 := f105_c17_B k r_l2
theorem f105_c17_E (k : Nat) (R_l2 R_l0 : f105_S) : f105_o_c17 (f105_C_c17 k R_l2 R_l0) = f105_c17 k (f105_o_l2 R_l2) (f105_o_l0 R_l0) :=
 Eq.trans (congrArg f105_o_c17 (ap_fn (f105_f_c17 k R_l2 R_l0))) ((f105_c17_P k R_l0 R_l2).trans (by rfl))
theorem f105_l4_P (k : Nat) (G_l0 G_l2 G_l4 G_r13 G_c17 G_c14 : f105_S) : f105_o_l4 (fun σ => f105_a k (f105_F_l4 k G_l0 G_l2 G_l4 G_r13 G_c17 G_c14) .nx σ) = f105_l4_B k (f105_o_r13 G_r13) (f105_o_c17 G_c17) := by kernel_rfl
def f105_l4 (k : Nat) (r_l2 : f105_t_l2) (r_l0 : f105_t_l0) : Nat → f105_t_l4
 | 0 => fun _ _ _ _ _ _ _ _ _ _ _ _ _ => none
 | n + 1 => f105_l4_B k (f105_r13 k (f105_l4 k r_l2 r_l0 n) r_l2 r_l0) (f105_c17 k r_l2 r_l0)
theorem f105_l4_E (k : Nat) (R_l2 R_l0 : f105_S) : ∀ n, f105_o_l4 (f105_C_l4 k R_l2 R_l0 n) = f105_l4 k (f105_o_l2 R_l2) (f105_o_l0 R_l0) n
 | 0 => rfl
 | n + 1 =>
   Eq.trans (congrArg f105_o_l4 (Eq.trans (b := fun σ => f105_a k (f105_Q_l4 k R_l2 R_l0 (f105_C_l4 k R_l2 R_l0 n)) .nx σ) lp_step (ap_fn (f105_f_l4 k R_l2 R_l0 (f105_C_l4 k R_l2 R_l0 n))))) ((f105_l4_P k R_l0 R_l2 (f105_C_l4 k R_l2 R_l0 n) (f105_C_r13 k (f105_C_l4 k R_l2 R_l0 n) R_l2 R_l0) (f105_C_c17 k R_l2 R_l0) (f105_C_c14 k (f105_C_l4 k R_l2 R_l0 n) R_l2 R_l0)).trans (by rw [f105_r13_E k (f105_C_l4 k R_l2 R_l0 n) R_l2 R_l0, f105_c17_E k R_l2 R_l0, f105_l4_E k R_l2 R_l0 n] <;> rfl))
theorem f105_l2_P (k : Nat) (G_l0 G_l2 G_l4 G_c17 : f105_S) : f105_o_l2 (fun σ => f105_a k (f105_F_l2 k G_l0 G_l2 G_l4 G_c17) .nx σ) = f105_l2_B k (f105_o_l0 G_l0) (f105_o_l4 G_l4) := by kernel_rfl
def f105_l2 (k : Nat) (r_l0 : f105_t_l0) : Nat → f105_t_l2
 | 0 => fun _ _ _ _ _ _ _ _ => none
 | n + 1 => f105_l2_B k r_l0 (f105_l4 k (f105_l2 k r_l0 n) r_l0 k)
theorem f105_l2_E (k : Nat) (R_l0 : f105_S) : ∀ n, f105_o_l2 (f105_C_l2 k R_l0 n) = f105_l2 k (f105_o_l0 R_l0) n
 | 0 => rfl
 | n + 1 =>
   Eq.trans (congrArg f105_o_l2 (Eq.trans (b := fun σ => f105_a k (f105_Q_l2 k R_l0 (f105_C_l2 k R_l0 n)) .nx σ) lp_step (ap_fn (f105_f_l2 k R_l0 (f105_C_l2 k R_l0 n))))) ((f105_l2_P k R_l0 (f105_C_l2 k R_l0 n) (f105_C_l4 k (f105_C_l2 k R_l0 n) R_l0 k) (f105_C_c17 k (f105_C_l2 k R_l0 n) R_l0)).trans (by rw [f105_l4_E k (f105_C_l2 k R_l0 n) R_l0 k, f105_l2_E k R_l0 n] <;> rfl))
theorem f105_l0_P (k : Nat) (G_l0 G_l2 : f105_S) : f105_o_l0 (fun σ => f105_a k (f105_F_l0 k G_l0 G_l2) .nx σ) = f105_l0_B k (f105_o_l2 G_l2) := by kernel_rfl
def f105_l0 (k : Nat) : Nat → f105_t_l0
 | 0 => fun _ _ _ _ => none
 | n + 1 => f105_l0_B k (f105_l2 k (f105_l0 k n) k)
theorem f105_l0_E (k : Nat) : ∀ n, f105_o_l0 (f105_C_l0 k n) = f105_l0 k n
 | 0 => rfl
 | n + 1 =>
   Eq.trans (congrArg f105_o_l0 (Eq.trans (b := fun σ => f105_a k (f105_Q_l0 k (f105_C_l0 k n)) .nx σ) lp_step (ap_fn (f105_f_l0 k (f105_C_l0 k n))))) ((f105_l0_P k (f105_C_l0 k n) (f105_C_l2 k (f105_C_l0 k n) k)).trans (by rw [f105_l2_E k (f105_C_l0 k n) k, f105_l0_E k n] <;> rfl))
theorem f105_entry_P (k : Nat) (G_l0 : f105_S) (xs : DL f105_sig) : f105_a k (.c (f105_p 2) 0 :: .c (f105_p 6) 0 :: .c (f105_p 28) 0 :: .j (fun σ => f105_a k (.j (fun σ => G_l0 (cut f105_A.loops 0 σ)) :: .blk 0 :: .c (f105_p 15) 0 :: []) .nx σ) :: .c (f105_p 15) 0 :: []) .nx (σ0 85 256 f105_sig xs) = f105_entry_B k (f105_o_l0 G_l0) xs.1 := by kernel_rfl
def f105 (k : Nat) (a0 : Td6) : Option (Int × Unit) := f105_entry_B k (f105_l0 k k) a0
theorem f105_fe (k : Nat) : f105_a k [.c (f105_p 1) 0] = f105_a k (.c (f105_p 2) 0 :: .c (f105_p 6) 0 :: .c (f105_p 28) 0 :: .j (fun σ => f105_a k (.j (fun σ => (f105_C_l0 k k) (cut f105_A.loops 0 σ)) :: .blk 0 :: .c (f105_p 15) 0 :: []) .nx σ) :: .c (f105_p 15) 0 :: []) := (Eq.trans ap_sq (ap_cons _ (Eq.trans ap_sq (ap_cons _ (Eq.trans ap_sq (Eq.trans ap_sq (ap_cons _ (Eq.trans (ap_bl 0) (Eq.trans (ap_j (Eq.trans (ap_lp (C := (f105_C_l0 k)) (fun _ _ => rfl)) (ap_cons _ (ap_cons _ (ap_cons _ rfl))))) (ap_cons _ (ap_cons _ rfl)))))))))))
theorem f105_eq (k : Nat) (xs : DL f105_sig) : den T f105_Y (f105_E k) f105_A k f105_c 0 (σ0 85 256 f105_sig xs) (Kfin T f105_rs f105_ts) = f105 k xs.1 :=
 Eq.trans (Eq.trans den_sb (ap_at (f105_fe k) _)) ((f105_entry_P k (f105_C_l0 k k) xs).trans (by rw [f105_l0_E k k] <;> rfl))
def f105_con (k : Nat) : Con := ⟨f105_sig, f105_rs, fun xs => f105 k xs.1⟩
theorem f105_ok (k : Nat) : PureOK Try.prog 105 f105_sig f105_rs (fun xs => f105 k xs.1) :=
 (pure_of_den (k := k) (A := f105_A) (T := T) (Y := f105_Y) (E := f105_E k) (M := 256) (ts := f105_ts) T_ok ⟨f64_ok k, f81_ok k, trivial⟩ ⟨f64_ent, f81_ent, trivial⟩ mixed (f := 105) (fn := Try.f105) (c := f105_c) (by kernel_rfl) (by kernel_rfl) (by kernel_rfl) (by decide) (by kernel_rfl)).congr fun xs => (f105_eq k xs).symm
theorem f105_ent : Ent Try.prog 105 := fun args w => by kernel_rfl
def f82_c : Code := Try.f82.body.getD .skip
abbrev f82_p (n : Nat) : Code := sb f82_c n
abbrev f82_sig : List PT := [(true, Tq5)]
abbrev f82_rs : List RT := [.d false (.int .i64)]
abbrev f82_ts : List RV := [.tmp 2]
abbrev f82_S := St → Option (RDL f82_rs)
abbrev f82_L := List (Fr (RDL f82_rs))
def f82_Y : Tys := [(4, .bool)]
def f82_E (k : Nat) : Env := [(88, .c (f88_con k)), (102, .c (f102_con k)), (103, .c (f103_con k)), (104, .c (f104_con k)), (105, .c (f105_con k))]
def f82_A : Ann := { loops := [(0, { slots := [(1, .id), (3, .id), (4, .id), (18, .val false Tq3), (19, .id), (20, .id)], keys := [(1, [.val false Tq1, .val false Tq3]), (16, [])] }), (2, { slots := [(1, .id), (3, .id), (4, .id), (5, .id), (6, .id), (18, .val false Tq3), (19, .id), (20, .id), (31, .id), (32, .id)], keys := [(1, [.val false Tq1, .val false Tq3]), (6, []), (16, [])] }), (4, { slots := [(1, .id), (3, .id), (4, .id), (5, .id), (6, .id), (18, .val false Tq3), (19, .id), (20, .id), (40, .val false Tq1), (41, .id), (42, .id)], keys := [(1, [.val false Tq1, .val false Tq3]), (6, []), (16, [])] }), (6, { slots := [(1, .id), (3, .id), (4, .id), (6, .id), (18, .val false Tq3), (19, .id), (20, .id), (74, .val false Tq3), (75, .id), (76, .id)], keys := [(1, [.val false Tq1, .val false Tq3]), (6, []), (16, [])] })], regs := [(25, { slots := [(95, .bool)] }), (15, { slots := [(1, .id), (3, .id), (4, .id), (5, .id), (6, .id), (18, .val false Tq3), (19, .id), (20, .id), (40, .val false Tq1), (41, .id), (42, .id), (69, .bool)], keys := [(1, [.val false Tq1, .val false Tq3]), (6, []), (16, [])] })] }
abbrev f82_a (k : Nat) (F : f82_L) : Kont (RDL f82_rs) := ap T f82_Y (f82_E k) f82_A k (Kfin T f82_rs f82_ts) F
def f82_s_l0 (y1_0 : (List (Int × Int))) (y1_1 : (List (Int × (Int × Int)))) (y16 : (List Bool)) (x19 x20 x4 : Int) : St := mkS 96 288 [(1, aP 1), (3, aO 16), (4, aI x4), (18, aV Tq3 y1_1), (19, aI x19), (20, aI x20)] [(1, .box [cV Tq1 y1_0, cV Tq3 y1_1]), (16, .vec .bool y16)]
abbrev f82_t_l0 := (List (Int × Int)) → (List (Int × (Int × Int))) → (List Bool) → Int → Int → Int → Option (Int × Unit)
abbrev f82_o_l0 (R : f82_S) : f82_t_l0 := (fun y1_0 y1_1 y16 x19 x20 x4 => R (f82_s_l0 y1_0 y1_1 y16 x19 x20 x4))
def f82_Q_l0 (k : Nat) (R_l0 : f82_S) : f82_L := [.c (f82_p 244) 0, .j (fun σ => R_l0 (cut f82_A.loops 0 σ)), .blk 0, .c (f82_p 31) 0]
def f82_C_l0 (k n : Nat) (σ : St) : Option (RDL f82_rs) := loopK (fun σ K => den T f82_Y (f82_E k) f82_A k (f82_p 244) 0 σ K) (cut f82_A.loops 0) (f82_a k [.blk 0, .c (f82_p 31) 0]) n σ
def f82_s_l2 (y1_0 : (List (Int × Int))) (y1_1 : (List (Int × (Int × Int)))) (y16 : (List Bool)) (y6_0 y6_1 y6_2 x19 x20 x32 x4 : Int) : St := mkS 96 288 [(1, aP 1), (3, aO 16), (4, aI x4), (5, aI x20), (6, aP 6), (18, aV Tq3 y1_1), (19, aI x19), (20, aI x20), (31, .cp (.agg [cI y6_0, cI y6_1, cI y6_2])), (32, aI x32)] [(1, .box [cV Tq1 y1_0, cV Tq3 y1_1]), (6, .box [cI y6_0, cI y6_1, cI y6_2]), (16, .vec .bool y16)]
abbrev f82_t_l2 := (List (Int × Int)) → (List (Int × (Int × Int))) → (List Bool) → Int → Int → Int → Int → Int → Int → Int → Option (Int × Unit)
abbrev f82_o_l2 (R : f82_S) : f82_t_l2 := (fun y1_0 y1_1 y16 y6_0 y6_1 y6_2 x19 x20 x32 x4 => R (f82_s_l2 y1_0 y1_1 y16 y6_0 y6_1 y6_2 x19 x20 x32 x4))
def f82_Q_l2 (k : Nat) (R_l0 R_l2 : f82_S) : f82_L := [.c (f82_p 250676) 2, .j (fun σ => R_l2 (cut f82_A.loops 2 σ)), .blk 2, .c (f82_p 31335) 1, .blk 1, .c (f82_p 1959) 0, .j (fun σ => R_l0 (cut f82_A.loops 0 σ)), .blk 0, .c (f82_p 31) 0]
def f82_C_l2 (k : Nat) (R_l0 : f82_S) (n : Nat) (σ : St) : Option (RDL f82_rs) := loopK (fun σ K => den T f82_Y (f82_E k) f82_A k (f82_p 250676) 2 σ K) (cut f82_A.loops 2) (f82_a k [.blk 2, .c (f82_p 31335) 1, .blk 1, .c (f82_p 1959) 0, .j (fun σ => R_l0 (cut f82_A.loops 0 σ)), .blk 0, .c (f82_p 31) 0]) n σ
def f82_s_r25 (x95 : Bool) : St := mkS 96 288 [(95, aB x95)] []
abbrev f82_t_r25 := Bool → Option (Int × Unit)
abbrev f82_o_r25 (R : f82_S) : f82_t_r25 := (fun x95 => R (f82_s_r25 x95))
def f82_Q_r25 (k : Nat) : f82_L := [.c (f82_p 125) 0, .c (f82_p 63) 0]
def f82_C_r25 (k : Nat) : f82_S := fun σ => f82_a k (f82_Q_r25 k) .nx σ
def f82_s_l4 (y1_0 : (List (Int × Int))) (y1_1 : (List (Int × (Int × Int)))) (y16 : (List Bool)) (y6_0 y6_1 y6_2 x19 x20 x4 x41 x42 : Int) : St := mkS 96 288 [(1, aP 1), (3, aO 16), (4, aI x4), (5, aI x20), (6, aP 6), (18, aV Tq3 y1_1), (19, aI x19), (20, aI x20), (40, aV Tq1 y1_0), (41, aI x41), (42, aI x42)] [(1, .box [cV Tq1 y1_0, cV Tq3 y1_1]), (6, .box [cI y6_0, cI y6_1, cI y6_2]), (16, .vec .bool y16)]
abbrev f82_t_l4 := (List (Int × Int)) → (List (Int × (Int × Int))) → (List Bool) → Int → Int → Int → Int → Int → Int → Int → Int → Option (Int × Unit)
abbrev f82_o_l4 (R : f82_S) : f82_t_l4 := (fun y1_0 y1_1 y16 y6_0 y6_1 y6_2 x19 x20 x4 x41 x42 => R (f82_s_l4 y1_0 y1_1 y16 y6_0 y6_1 y6_2 x19 x20 x4 x41 x42))
def f82_Q_l4 (k : Nat) (R_l0 R_l4 : f82_S) : f82_L := [.c (f82_p 501364) 4, .j (fun σ => R_l4 (cut f82_A.loops 4 σ)), .blk 4, .c (f82_p 62671) 1, .blk 1, .c (f82_p 1959) 0, .j (fun σ => R_l0 (cut f82_A.loops 0 σ)), .blk 0, .c (f82_p 31) 0]
def f82_C_l4 (k : Nat) (R_l0 : f82_S) (n : Nat) (σ : St) : Option (RDL f82_rs) := loopK (fun σ K => den T f82_Y (f82_E k) f82_A k (f82_p 501364) 4 σ K) (cut f82_A.loops 4) (f82_a k [.blk 4, .c (f82_p 62671) 1, .blk 1, .c (f82_p 1959) 0, .j (fun σ => R_l0 (cut f82_A.loops 0 σ)), .blk 0, .c (f82_p 31) 0]) n σ
def f82_s_r15 (y1_0 : (List (Int × Int))) (y1_1 : (List (Int × (Int × Int)))) (y16 : (List Bool)) (y6_0 y6_1 y6_2 x19 x20 x4 x41 x42 : Int) (x69 : Bool) : St := mkS 96 288 [(1, aP 1), (3, aO 16), (4, aI x4), (5, aI x20), (6, aP 6), (18, aV Tq3 y1_1), (19, aI x19), (20, aI x20), (40, aV Tq1 y1_0), (41, aI x41), (42, aI x42), (69, aB x69)] [(1, .box [cV Tq1 y1_0, cV Tq3 y1_1]), (6, .box [cI y6_0, cI y6_1, cI y6_2]), (16, .vec .bool y16)]
abbrev f82_t_r15 := (List (Int × Int)) → (List (Int × (Int × Int))) → (List Bool) → Int → Int → Int → Int → Int → Int → Int → Int → Bool → Option (Int × Unit)
abbrev f82_o_r15 (R : f82_S) : f82_t_r15 := (fun y1_0 y1_1 y16 y6_0 y6_1 y6_2 x19 x20 x4 x41 x42 x69 => R (f82_s_r15 y1_0 y1_1 y16 y6_0 y6_1 y6_2 x19 x20 x4 x41 x42 x69))
def f82_Q_r15 (k : Nat) (R_l4 R_l0 : f82_S) : f82_L := [.c (f82_p 32087347) 5, .blk 5, .c (f82_p 4010919) 4, .j (fun σ => R_l4 (cut f82_A.loops 4 σ)), .blk 4, .c (f82_p 62671) 1, .blk 1, .c (f82_p 1959) 0, .j (fun σ => R_l0 (cut f82_A.loops 0 σ)), .blk 0, .c (f82_p 31) 0]
def f82_C_r15 (k : Nat) (R_l4 R_l0 : f82_S) : f82_S := fun σ => f82_a k (f82_Q_r15 k R_l4 R_l0) .nx σ
def f82_s_l6 (y1_0 : (List (Int × Int))) (y1_1 : (List (Int × (Int × Int)))) (y16 : (List Bool)) (y6_0 y6_1 y6_2 x19 x20 x4 : Int) (x74 : (List (Int × (Int × Int)))) (x75 x76 : Int) : St := mkS 96 288 [(1, aP 1), (3, aO 16), (4, aI x4), (6, aP 6), (18, aV Tq3 y1_1), (19, aI x19), (20, aI x20), (74, aV Tq3 x74), (75, aI x75), (76, aI x76)] [(1, .box [cV Tq1 y1_0, cV Tq3 y1_1]), (6, .box [cI y6_0, cI y6_1, cI y6_2]), (16, .vec .bool y16)]
abbrev f82_t_l6 := (List (Int × Int)) → (List (Int × (Int × Int))) → (List Bool) → Int → Int → Int → Int → Int → Int → (List (Int × (Int × Int))) → Int → Int → Option (Int × Unit)
abbrev f82_o_l6 (R : f82_S) : f82_t_l6 := (fun y1_0 y1_1 y16 y6_0 y6_1 y6_2 x19 x20 x4 x74 x75 x76 => R (f82_s_l6 y1_0 y1_1 y16 y6_0 y6_1 y6_2 x19 x20 x4 x74 x75 x76))
def f82_Q_l6 (k : Nat) (R_l0 R_l6 : f82_S) : f82_L := [.c (f82_p 501372) 6, .j (fun σ => R_l6 (cut f82_A.loops 6 σ)), .blk 6, .blk 1, .c (f82_p 1959) 0, .j (fun σ => R_l0 (cut f82_A.loops 0 σ)), .blk 0, .c (f82_p 31) 0]
def f82_C_l6 (k : Nat) (R_l0 : f82_S) (n : Nat) (σ : St) : Option (RDL f82_rs) := loopK (fun σ K => den T f82_Y (f82_E k) f82_A k (f82_p 501372) 6 σ K) (cut f82_A.loops 6) (f82_a k [.blk 6, .blk 1, .c (f82_p 1959) 0, .j (fun σ => R_l0 (cut f82_A.loops 0 σ)), .blk 0, .c (f82_p 31) 0]) n σ
def f82_F_r25 (k : Nat) : f82_L := .c (f82_p 125) 0 :: .c (f82_p 63) 0 :: []
theorem f82_f_r25 (k : Nat) : f82_a k (f82_Q_r25 k) = f82_a k (f82_F_r25 k) := (ap_cons _ (ap_cons _ rfl))
def f82_F_l0 (k : Nat) (G_l0 G_l2 G_r25 G_l4 G_l6 : f82_S) : f82_L := .c (f82_p 488) 0 :: .c (f82_p 978) 0 :: .j (fun σ => f82_a k (.c (f82_p 7832) 1 :: .c (f82_p 15666) 1 :: .c (f82_p 62668) 1 :: .j (fun σ => f82_a k (.j (fun σ => G_l2 (cut f82_A.loops 2 σ)) :: .blk 2 :: .c (f82_p 125340) 1 :: .j (fun σ => f82_a k (.j (fun σ => G_l4 (cut f82_A.loops 4 σ)) :: .blk 4 :: .c (f82_p 125342) 1 :: .j (fun σ => f82_a k (.j (fun σ => G_l6 (cut f82_A.loops 6 σ)) :: .blk 6 :: .blk 1 :: .c (f82_p 1959) 0 :: .j (fun σ => G_l0 (cut f82_A.loops 0 σ)) :: .blk 0 :: .c (f82_p 124) 0 :: .j G_r25 :: f82_F_r25 k) .nx σ) :: .blk 1 :: .c (f82_p 1959) 0 :: .j (fun σ => G_l0 (cut f82_A.loops 0 σ)) :: .blk 0 :: .c (f82_p 124) 0 :: .j G_r25 :: f82_F_r25 k) .nx σ) :: .c (f82_p 125342) 1 :: .j (fun σ => f82_a k (.j (fun σ => G_l6 (cut f82_A.loops 6 σ)) :: .blk 6 :: .blk 1 :: .c (f82_p 1959) 0 :: .j (fun σ => G_l0 (cut f82_A.loops 0 σ)) :: .blk 0 :: .c (f82_p 124) 0 :: .j G_r25 :: f82_F_r25 k) .nx σ) :: .blk 1 :: .c (f82_p 1959) 0 :: .j (fun σ => G_l0 (cut f82_A.loops 0 σ)) :: .blk 0 :: .c (f82_p 124) 0 :: .j G_r25 :: f82_F_r25 k) .nx σ) :: .c (f82_p 125340) 1 :: .j (fun σ => f82_a k (.j (fun σ => G_l4 (cut f82_A.loops 4 σ)) :: .blk 4 :: .c (f82_p 125342) 1 :: .j (fun σ => f82_a k (.j (fun σ => G_l6 (cut f82_A.loops 6 σ)) :: .blk 6 :: .blk 1 :: .c (f82_p 1959) 0 :: .j (fun σ => G_l0 (cut f82_A.loops 0 σ)) :: .blk 0 :: .c (f82_p 124) 0 :: .j G_r25 :: f82_F_r25 k) .nx σ) :: .blk 1 :: .c (f82_p 1959) 0 :: .j (fun σ => G_l0 (cut f82_A.loops 0 σ)) :: .blk 0 :: .c (f82_p 124) 0 :: .j G_r25 :: f82_F_r25 k) .nx σ) :: .c (f82_p 125342) 1 :: .j (fun σ => f82_a k (.j (fun σ => G_l6 (cut f82_A.loops 6 σ)) :: .blk 6 :: .blk 1 :: .c (f82_p 1959) 0 :: .j (fun σ => G_l0 (cut f82_A.loops 0 σ)) :: .blk 0 :: .c (f82_p 124) 0 :: .j G_r25 :: f82_F_r25 k) .nx σ) :: .blk 1 :: .c (f82_p 1959) 0 :: .j (fun σ => G_l0 (cut f82_A.loops 0 σ)) :: .blk 0 :: .c (f82_p 124) 0 :: .j G_r25 :: f82_F_r25 k) .nx σ) :: .c (f82_p 1959) 0 :: .j (fun σ => G_l0 (cut f82_A.loops 0 σ)) :: .blk 0 :: .c (f82_p 124) 0 :: .j G_r25 :: f82_F_r25 k
theorem f82_f_l0 (k : Nat) (R_l0 : f82_S) : f82_a k (f82_Q_l0 k R_l0) = f82_a k (f82_F_l0 k R_l0 (f82_C_l2 k R_l0 k) (f82_C_r25 k) (f82_C_l4 k R_l0 k) (f82_C_l6 k R_l0 k)) := (Eq.trans ap_sq (ap_cons _ (Eq.trans ap_sq (ap_cons _ (Eq.trans ap_sq (Eq.trans (ap_bl 1) (Eq.trans (ap_j (Eq.trans ap_sq (ap_cons _ (Eq.trans ap_sq (ap_cons _ (Eq.trans ap_sq (Eq.trans ap_sq (ap_cons _ (Eq.trans (ap_bl 2) (Eq.trans (ap_j (Eq.trans (ap_lp (C := (f82_C_l2 k R_l0)) (fun _ _ => rfl)) (ap_cons _ (ap_cons _ (Eq.trans ap_sq (Eq.trans ap_sq (ap_cons _ (Eq.trans (ap_bl 4) (Eq.trans (ap_j (Eq.trans (ap_lp (C := (f82_C_l4 k R_l0)) (fun _ _ => rfl)) (ap_cons _ (ap_cons _ (Eq.trans ap_sq (ap_cons _ (Eq.trans (ap_bl 6) (Eq.trans (ap_j (Eq.trans (ap_lp (C := (f82_C_l6 k R_l0)) (fun _ _ => rfl)) (ap_cons _ (ap_cons _ (ap_cons _ (ap_cons _ (ap_cons _ (ap_cons _ (Eq.trans ap_sq (Eq.trans ap_sq (ap_cons _ (Eq.trans (ap_pass (C := (f82_C_r25 k)) (fun _ => rfl)) (ap_cons _ (f82_f_r25 k)))))))))))))) (ap_cons _ (ap_cons _ (ap_cons _ (ap_cons _ (ap_cons _ (Eq.trans ap_sq (Eq.trans ap_sq (ap_cons _ (Eq.trans (ap_pass (C := (f82_C_r25 k)) (fun _ => rfl)) (ap_cons _ (f82_f_r25 k))))))))))))))))))) (ap_cons _ (Eq.trans ap_sq (ap_cons _ (Eq.trans (ap_bl 6) (Eq.trans (ap_j (Eq.trans (ap_lp (C := (f82_C_l6 k R_l0)) (fun _ _ => rfl)) (ap_cons _ (ap_cons _ (ap_cons _ (ap_cons _ (ap_cons _ (ap_cons _ (Eq.trans ap_sq (Eq.trans ap_sq (ap_cons _ (Eq.trans (ap_pass (C := (f82_C_r25 k)) (fun _ => rfl)) (ap_cons _ (f82_f_r25 k)))))))))))))) (ap_cons _ (ap_cons _ (ap_cons _ (ap_cons _ (ap_cons _ (Eq.trans ap_sq (Eq.trans ap_sq (ap_cons _ (Eq.trans (ap_pass (C := (f82_C_r25 k)) (fun _ => rfl)) (ap_cons _ (f82_f_r25 k))))))))))))))))))))))))) (ap_cons _ (Eq.trans ap_sq (Eq.trans ap_sq (ap_cons _ (Eq.trans (ap_bl 4) (Eq.trans (ap_j (Eq.trans (ap_lp (C := (f82_C_l4 k R_l0)) (fun _ _ => rfl)) (ap_cons _ (ap_cons _ (Eq.trans ap_sq (ap_cons _ (Eq.trans (ap_bl 6) (Eq.trans (ap_j (Eq.trans (ap_lp (C := (f82_C_l6 k R_l0)) (fun _ _ => rfl)) (ap_cons _ (ap_cons _ (ap_cons _ (ap_cons _ (ap_cons _ (ap_cons _ (Eq.trans ap_sq (Eq.trans ap_sq (ap_cons _ (Eq.trans (ap_pass (C := (f82_C_r25 k)) (fun _ => rfl)) (ap_cons _ (f82_f_r25 k)))))))))))))) (ap_cons _ (ap_cons _ (ap_cons _ (ap_cons _ (ap_cons _ (Eq.trans ap_sq (Eq.trans ap_sq (ap_cons _ (Eq.trans (ap_pass (C := (f82_C_r25 k)) (fun _ => rfl)) (ap_cons _ (f82_f_r25 k))))))))))))))))))) (ap_cons _ (Eq.trans ap_sq (ap_cons _ (Eq.trans (ap_bl 6) (Eq.trans (ap_j (Eq.trans (ap_lp (C := (f82_C_l6 k R_l0)) (fun _ _ => rfl)) (ap_cons _ (ap_cons _ (ap_cons _ (ap_cons _ (ap_cons _ (ap_cons _ (Eq.trans ap_sq (Eq.trans ap_sq (ap_cons _ (Eq.trans (ap_pass (C := (f82_C_r25 k)) (fun _ => rfl)) (ap_cons _ (f82_f_r25 k)))))))))))))) (ap_cons _ (ap_cons _ (ap_cons _ (ap_cons _ (ap_cons _ (Eq.trans ap_sq (Eq.trans ap_sq (ap_cons _ (Eq.trans (ap_pass (C := (f82_C_r25 k)) (fun _ => rfl)) (ap_cons _ (f82_f_r25 k)))))))))))))))))))))))))))))))) (ap_cons _ (ap_cons _ (ap_cons _ (ap_cons _ (Eq.trans ap_sq (Eq.trans ap_sq (ap_cons _ (Eq.trans (ap_pass (C := (f82_C_r25 k)) (fun _ => rfl)) (ap_cons _ (f82_f_r25 k)))))))))))))))))
def f82_F_l2 (k : Nat) (G_l0 G_l2 G_r25 G_l4 G_l6 : f82_S) : f82_L := .c (f82_p 250676) 2 :: .j (fun σ => G_l2 (cut f82_A.loops 2 σ)) :: .blk 2 :: .c (f82_p 125340) 1 :: .j (fun σ => f82_a k (.j (fun σ => G_l4 (cut f82_A.loops 4 σ)) :: .blk 4 :: .c (f82_p 125342) 1 :: .j (fun σ => f82_a k (.j (fun σ => G_l6 (cut f82_A.loops 6 σ)) :: .blk 6 :: .blk 1 :: .c (f82_p 1959) 0 :: .j (fun σ => G_l0 (cut f82_A.loops 0 σ)) :: .blk 0 :: .c (f82_p 124) 0 :: .j G_r25 :: f82_F_r25 k) .nx σ) :: .blk 1 :: .c (f82_p 1959) 0 :: .j (fun σ => G_l0 (cut f82_A.loops 0 σ)) :: .blk 0 :: .c (f82_p 124) 0 :: .j G_r25 :: f82_F_r25 k) .nx σ) :: .c (f82_p 125342) 1 :: .j (fun σ => f82_a k (.j (fun σ => G_l6 (cut f82_A.loops 6 σ)) :: .blk 6 :: .blk 1 :: .c (f82_p 1959) 0 :: .j (fun σ => G_l0 (cut f82_A.loops 0 σ)) :: .blk 0 :: .c (f82_p 124) 0 :: .j G_r25 :: f82_F_r25 k) .nx σ) :: .blk 1 :: .c (f82_p 1959) 0 :: .j (fun σ => G_l0 (cut f82_A.loops 0 σ)) :: .blk 0 :: .c (f82_p 124) 0 :: .j G_r25 :: f82_F_r25 k
theorem f82_f_l2 (k : Nat) (R_l0 R_l2 : f82_S) : f82_a k (f82_Q_l2 k R_l0 R_l2) = f82_a k (f82_F_l2 k R_l0 R_l2 (f82_C_r25 k) (f82_C_l4 k R_l0 k) (f82_C_l6 k R_l0 k)) := (ap_cons _ (ap_cons _ (ap_cons _ (Eq.trans ap_sq (Eq.trans ap_sq (ap_cons _ (Eq.trans (ap_bl 4) (Eq.trans (ap_j (Eq.trans (ap_lp (C := (f82_C_l4 k R_l0)) (fun _ _ => rfl)) (ap_cons _ (ap_cons _ (Eq.trans ap_sq (ap_cons _ (Eq.trans (ap_bl 6) (Eq.trans (ap_j (Eq.trans (ap_lp (C := (f82_C_l6 k R_l0)) (fun _ _ => rfl)) (ap_cons _ (ap_cons _ (ap_cons _ (ap_cons _ (ap_cons _ (ap_cons _ (Eq.trans ap_sq (Eq.trans ap_sq (ap_cons _ (Eq.trans (ap_pass (C := (f82_C_r25 k)) (fun _ => rfl)) (ap_cons _ (f82_f_r25 k)))))))))))))) (ap_cons _ (ap_cons _ (ap_cons _ (ap_cons _ (ap_cons _ (Eq.trans ap_sq (Eq.trans ap_sq (ap_cons _ (Eq.trans (ap_pass (C := (f82_C_r25 k)) (fun _ => rfl)) (ap_cons _ (f82_f_r25 k))))))))))))))))))) (ap_cons _ (Eq.trans ap_sq (ap_cons _ (Eq.trans (ap_bl 6) (Eq.trans (ap_j (Eq.trans (ap_lp (C := (f82_C_l6 k R_l0)) (fun _ _ => rfl)) (ap_cons _ (ap_cons _ (ap_cons _ (ap_cons _ (ap_cons _ (ap_cons _ (Eq.trans ap_sq (Eq.trans ap_sq (ap_cons _ (Eq.trans (ap_pass (C := (f82_C_r25 k)) (fun _ => rfl)) (ap_cons _ (f82_f_r25 k)))))))))))))) (ap_cons _ (ap_cons _ (ap_cons _ (ap_cons _ (ap_cons _ (Eq.trans ap_sq (Eq.trans ap_sq (ap_cons _ (Eq.trans (ap_pass (C := (f82_C_r25 k)) (fun _ => rfl)) (ap_cons _ (f82_f_r25 k))))))))))))))))))))))))
def f82_F_r15 (k : Nat) (G_l0 G_r25 G_l4 G_l6 : f82_S) : f82_L := .c (f82_p 32087347) 5 :: .blk 5 :: .c (f82_p 4010919) 4 :: .j (fun σ => G_l4 (cut f82_A.loops 4 σ)) :: .blk 4 :: .c (f82_p 125342) 1 :: .j (fun σ => f82_a k (.j (fun σ => G_l6 (cut f82_A.loops 6 σ)) :: .blk 6 :: .blk 1 :: .c (f82_p 1959) 0 :: .j (fun σ => G_l0 (cut f82_A.loops 0 σ)) :: .blk 0 :: .c (f82_p 124) 0 :: .j G_r25 :: f82_F_r25 k) .nx σ) :: .blk 1 :: .c (f82_p 1959) 0 :: .j (fun σ => G_l0 (cut f82_A.loops 0 σ)) :: .blk 0 :: .c (f82_p 124) 0 :: .j G_r25 :: f82_F_r25 k
theorem f82_f_r15 (k : Nat) (R_l4 R_l0 : f82_S) : f82_a k (f82_Q_r15 k R_l4 R_l0) = f82_a k (f82_F_r15 k R_l0 (f82_C_r25 k) R_l4 (f82_C_l6 k R_l0 k)) := (ap_cons _ (ap_cons _ (ap_cons _ (ap_cons _ (ap_cons _ (Eq.trans ap_sq (ap_cons _ (Eq.trans (ap_bl 6) (Eq.trans (ap_j (Eq.trans (ap_lp (C := (f82_C_l6 k R_l0)) (fun _ _ => rfl)) (ap_cons _ (ap_cons _ (ap_cons _ (ap_cons _ (ap_cons _ (ap_cons _ (Eq.trans ap_sq (Eq.trans ap_sq (ap_cons _ (Eq.trans (ap_pass (C := (f82_C_r25 k)) (fun _ => rfl)) (ap_cons _ (f82_f_r25 k)))))))))))))) (ap_cons _ (ap_cons _ (ap_cons _ (ap_cons _ (ap_cons _ (Eq.trans ap_sq (Eq.trans ap_sq (ap_cons _ (Eq.trans (ap_pass (C := (f82_C_r25 k)) (fun _ => rfl)) (ap_cons _ (f82_f_r25 k))))))))))))))))))))
def f82_F_l4 (k : Nat) (G_l0 G_r25 G_l4 G_r15 G_l6 : f82_S) : f82_L := .c (f82_p 1002728) 4 :: .c (f82_p 2005458) 4 :: .j (fun σ => f82_a k (.c (f82_p 16043672) 5 :: .c (f82_p 32087346) 5 :: .j G_r15 :: f82_F_r15 k G_l0 G_r25 G_l4 G_l6) .nx σ) :: .c (f82_p 4010919) 4 :: .j (fun σ => G_l4 (cut f82_A.loops 4 σ)) :: .blk 4 :: .c (f82_p 125342) 1 :: .j (fun σ => f82_a k (.j (fun σ => G_l6 (cut f82_A.loops 6 σ)) :: .blk 6 :: .blk 1 :: .c (f82_p 1959) 0 :: .j (fun σ => G_l0 (cut f82_A.loops 0 σ)) :: .blk 0 :: .c (f82_p 124) 0 :: .j G_r25 :: f82_F_r25 k) .nx σ) :: .blk 1 :: .c (f82_p 1959) 0 :: .j (fun σ => G_l0 (cut f82_A.loops 0 σ)) :: .blk 0 :: .c (f82_p 124) 0 :: .j G_r25 :: f82_F_r25 k
theorem f82_f_l4 (k : Nat) (R_l0 R_l4 : f82_S) : f82_a k (f82_Q_l4 k R_l0 R_l4) = f82_a k (f82_F_l4 k R_l0 (f82_C_r25 k) R_l4 (f82_C_r15 k R_l4 R_l0) (f82_C_l6 k R_l0 k)) := (Eq.trans ap_sq (ap_cons _ (Eq.trans ap_sq (ap_cons _ (Eq.trans ap_sq (Eq.trans (ap_bl 5) (Eq.trans (ap_j (Eq.trans ap_sq (ap_cons _ (Eq.trans ap_sq (ap_cons _ (Eq.trans (ap_pass (C := (f82_C_r15 k R_l4 R_l0)) (fun _ => rfl)) (ap_cons _ (f82_f_r15 k R_l4 R_l0)))))))) (ap_cons _ (ap_cons _ (ap_cons _ (ap_cons _ (Eq.trans ap_sq (ap_cons _ (Eq.trans (ap_bl 6) (Eq.trans (ap_j (Eq.trans (ap_lp (C := (f82_C_l6 k R_l0)) (fun _ _ => rfl)) (ap_cons _ (ap_cons _ (ap_cons _ (ap_cons _ (ap_cons _ (ap_cons _ (Eq.trans ap_sq (Eq.trans ap_sq (ap_cons _ (Eq.trans (ap_pass (C := (f82_C_r25 k)) (fun _ => rfl)) (ap_cons _ (f82_f_r25 k)))))))))))))) (ap_cons _ (ap_cons _ (ap_cons _ (ap_cons _ (ap_cons _ (Eq.trans ap_sq (Eq.trans ap_sq (ap_cons _ (Eq.trans (ap_pass (C := (f82_C_r25 k)) (fun _ => rfl)) (ap_cons _ (f82_f_r25 k))))))))))))))))))))))))))
def f82_F_l6 (k : Nat) (G_l0 G_r25 G_l6 : f82_S) : f82_L := .c (f82_p 501372) 6 :: .j (fun σ => G_l6 (cut f82_A.loops 6 σ)) :: .blk 6 :: .blk 1 :: .c (f82_p 1959) 0 :: .j (fun σ => G_l0 (cut f82_A.loops 0 σ)) :: .blk 0 :: .c (f82_p 124) 0 :: .j G_r25 :: f82_F_r25 k
theorem f82_f_l6 (k : Nat) (R_l0 R_l6 : f82_S) : f82_a k (f82_Q_l6 k R_l0 R_l6) = f82_a k (f82_F_l6 k R_l0 (f82_C_r25 k) R_l6) := (ap_cons _ (ap_cons _ (ap_cons _ (ap_cons _ (ap_cons _ (ap_cons _ (ap_cons _ (Eq.trans ap_sq (Eq.trans ap_sq (ap_cons _ (Eq.trans (ap_pass (C := (f82_C_r25 k)) (fun _ => rfl)) (ap_cons _ (f82_f_r25 k)))))))))))))
def f82_entry_B (k : Nat) (g_l0 : f82_t_l0) (a0 : Td8) : Option (Int × Unit) := (if 0 ≤ (a0.1.length : Int) then (if (a0.1.length : Int) ≤ 1073741824 then (g_l0 a0.1 a0.2 (List.replicate ((a0.1.length : Int)).toNat (false : Bool)) (a0.2.length : Int) 0 0) else none) else none)
def f82_l0_B (k : Nat) (g_l2 : f82_t_l2) (g_r25 : f82_t_r25) (y1_0 : (List (Int × Int))) (y1_1 : (List (Int × (Int × Int)))) (y16 : (List Bool)) (x19 x20 x4 : Int) : Option (Int × Unit) := (if x20 < x19 then (if 0 ≤ x20 then (if x20 < (y1_1.length : Int) then ((f102 k y1_0 ((y1_1.getD (x20).toNat (0, (0, 0))).1, (((y1_1.getD (x20).toNat (0, (0, 0))).2).1, ((y1_1.getD (x20).toNat (0, (0, 0))).2).2))).bind fun r1 => (g_l2 y1_0 y1_1 y16 ((y1_1.getD (x20).toNat (0, (0, 0))).1) (((y1_1.getD (x20).toNat (0, (0, 0))).2).1) (((y1_1.getD (x20).toNat (0, (0, 0))).2).2) x19 x20 0 (w64 (x4 + r1.1)))) else none) else none) else ((f88 k y16 false).bind fun r2 => (if r2.1 = true then (g_r25 true) else ((f105 k y1_0).bind fun r3 => (g_r25 (decide (¬ (x4 = r3.1))))))))
def f82_l2_B (k : Nat) (g_l2 : f82_t_l2) (g_l4 : f82_t_l4) (y1_0 : (List (Int × Int))) (y1_1 : (List (Int × (Int × Int)))) (y16 : (List Bool)) (y6_0 y6_1 y6_2 x19 x20 x32 x4 : Int) : Option (Int × Unit) := (if x32 < 3 then (if 0 ≤ x32 then (if x32 < (3 : Int) then (if 0 ≤ (([y6_0, y6_1, y6_2] : List Int).getD ((x32).toNat) 0) then (if (([y6_0, y6_1, y6_2] : List Int).getD ((x32).toNat) 0) < (y16.length : Int) then (g_l2 y1_0 y1_1 (y16.set (((([y6_0, y6_1, y6_2] : List Int).getD ((x32).toNat) 0)).toNat) true) y6_0 y6_1 y6_2 x19 x20 (w64 (x32 + 1)) x4) else none) else none) else none) else none) else (g_l4 y1_0 y1_1 y16 y6_0 y6_1 y6_2 x19 x20 x4 (y1_0.length : Int) 0))
def f82_r25_B (k : Nat) (x95 : Bool) : Option (Int × Unit) := (if x95 = true then some (3, ()) else some (0, ()))
def f82_l4_B (k : Nat) (g_r15 : f82_t_r15) (g_l6 : f82_t_l6) (y1_0 : (List (Int × Int))) (y1_1 : (List (Int × (Int × Int)))) (y16 : (List Bool)) (y6_0 y6_1 y6_2 x19 x20 x4 x41 x42 : Int) : Option (Int × Unit) := (if x42 < x41 then (if 0 ≤ x42 then (if x42 < (y1_0.length : Int) then (if ¬ (x42 = y6_0) then (if ¬ (x42 = y6_1) then (if ¬ (x42 = y6_2) then ((f103 k y1_0 (y6_0, (y6_1, y6_2)) ((y1_0.getD (x42).toNat (0, 0)).1, (y1_0.getD (x42).toNat (0, 0)).2)).bind fun r1 => (g_r15 y1_0 y1_1 y16 y6_0 y6_1 y6_2 x19 x20 x4 x41 x42 (decide (r1.1 = true)))) else (g_r15 y1_0 y1_1 y16 y6_0 y6_1 y6_2 x19 x20 x4 x41 x42 false)) else (g_r15 y1_0 y1_1 y16 y6_0 y6_1 y6_2 x19 x20 x4 x41 x42 false)) else (g_r15 y1_0 y1_1 y16 y6_0 y6_1 y6_2 x19 x20 x4 x41 x42 false)) else none) else none) else (if 0 ≤ x20 then (if x20 ≤ (y1_1.length : Int) then (g_l6 y1_0 y1_1 y16 y6_0 y6_1 y6_2 x19 x20 x4 (y1_1.take (x20).toNat) ((y1_1.take (x20).toNat).length : Int) 0) else none) else none))
def f82_r15_B (k : Nat) (g_l4 : f82_t_l4) (y1_0 : (List (Int × Int))) (y1_1 : (List (Int × (Int × Int)))) (y16 : (List Bool)) (y6_0 y6_1 y6_2 x19 x20 x4 x41 x42 : Int) (x69 : Bool) : Option (Int × Unit) := (if x69 = true then some (3, ()) else (g_l4 y1_0 y1_1 y16 y6_0 y6_1 y6_2 x19 x20 x4 x41 (w64 (x42 + 1))))
def f82_l6_B (k : Nat) (g_l0 : f82_t_l0) (g_l6 : f82_t_l6) (y1_0 : (List (Int × Int))) (y1_1 : (List (Int × (Int × Int)))) (y16 : (List Bool)) (y6_0 y6_1 y6_2 x19 x20 x4 : Int) (x74 : (List (Int × (Int × Int)))) (x75 x76 : Int) : Option (Int × Unit) := (if x76 < x75 then (if 0 ≤ x76 then (if x76 < (x74.length : Int) then ((f104 k y1_0 (y6_0, (y6_1, y6_2)) ((x74.getD (x76).toNat (0, (0, 0))).1, (((x74.getD (x76).toNat (0, (0, 0))).2).1, ((x74.getD (x76).toNat (0, (0, 0))).2).2))).bind fun r1 => (if r1.1 = true then some (3, ()) else (g_l6 y1_0 y1_1 y16 y6_0 y6_1 y6_2 x19 x20 x4 x74 x75 (w64 (x76 + 1))))) else none) else none) else (g_l0 y1_0 y1_1 y16 x19 (w64 (x20 + 1)) x4))
theorem f82_r15_P (k : Nat) (G_l0 G_r25 G_l4 G_l6 : f82_S) : f82_o_r15 (fun σ => f82_a k (f82_F_r15 k G_l0 G_r25 G_l4 G_l6) .nx σ) = f82_r15_B k (f82_o_l4 G_l4) := by kernel_rfl
def f82_r15 (k : Nat) (r_l4 : f82_t_l4) (r_l0 : f82_t_l0) : f82_t_r15 := f82_r15_B k r_l4
theorem f82_r15_E (k : Nat) (R_l4 R_l0 : f82_S) : f82_o_r15 (f82_C_r15 k R_l4 R_l0) = f82_r15 k (f82_o_l4 R_l4) (f82_o_l0 R_l0) :=
 Eq.trans (congrArg f82_o_r15 (ap_fn (f82_f_r15 k R_l4 R_l0))) ((f82_r15_P k R_l0 (f82_C_r25 k) R_l4 (f82_C_l6 k R_l0 k)).trans (by rfl))
theorem f82_l6_P (k : Nat) (G_l0 G_r25 G_l6 : f82_S) : f82_o_l6 (fun σ => f82_a k (f82_F_l6 k G_l0 G_r25 G_l6) .nx σ) = f82_l6_B k (f82_o_l0 G_l0) (f82_o_l6 G_l6) := by kernel_rfl
def f82_l6 (k : Nat) (r_l0 : f82_t_l0) : Nat → f82_t_l6
 | 0 => fun _ _ _ _ _ _ _ _ _ _ _ _ => none
 | n + 1 => f82_l6_B k r_l0 (f82_l6 k r_l0 n)
theorem f82_l6_E (k : Nat) (R_l0 : f82_S) : ∀ n, f82_o_l6 (f82_C_l6 k R_l0 n) = f82_l6 k (f82_o_l0 R_l0) n
 | 0 => rfl
 | n + 1 =>
   Eq.trans (congrArg f82_o_l6 (Eq.trans (b := fun σ => f82_a k (f82_Q_l6 k R_l0 (f82_C_l6 k R_l0 n)) .nx σ) lp_step (ap_fn (f82_f_l6 k R_l0 (f82_C_l6 k R_l0 n))))) ((f82_l6_P k R_l0 (f82_C_r25 k) (f82_C_l6 k R_l0 n)).trans (by rw [f82_l6_E k R_l0 n] <;> rfl))
theorem f82_l4_P (k : Nat) (G_l0 G_r25 G_l4 G_r15 G_l6 : f82_S) : f82_o_l4 (fun σ => f82_a k (f82_F_l4 k G_l0 G_r25 G_l4 G_r15 G_l6) .nx σ) = f82_l4_B k (f82_o_r15 G_r15) (f82_o_l6 G_l6) := by kernel_rfl
def f82_l4 (k : Nat) (r_l0 : f82_t_l0) : Nat → f82_t_l4
 | 0 => fun _ _ _ _ _ _ _ _ _ _ _ => none
 | n + 1 => f82_l4_B k (f82_r15 k (f82_l4 k r_l0 n) r_l0) (f82_l6 k r_l0 k)
theorem f82_l4_E (k : Nat) (R_l0 : f82_S) : ∀ n, f82_o_l4 (f82_C_l4 k R_l0 n) = f82_l4 k (f82_o_l0 R_l0) n
 | 0 => rfl
 | n + 1 =>
   Eq.trans (congrArg f82_o_l4 (Eq.trans (b := fun σ => f82_a k (f82_Q_l4 k R_l0 (f82_C_l4 k R_l0 n)) .nx σ) lp_step (ap_fn (f82_f_l4 k R_l0 (f82_C_l4 k R_l0 n))))) ((f82_l4_P k R_l0 (f82_C_r25 k) (f82_C_l4 k R_l0 n) (f82_C_r15 k (f82_C_l4 k R_l0 n) R_l0) (f82_C_l6 k R_l0 k)).trans (by rw [f82_r15_E k (f82_C_l4 k R_l0 n) R_l0, f82_l6_E k R_l0 k, f82_l4_E k R_l0 n] <;> rfl))
theorem f82_l2_P (k : Nat) (G_l0 G_l2 G_r25 G_l4 G_l6 : f82_S) : f82_o_l2 (fun σ => f82_a k (f82_F_l2 k G_l0 G_l2 G_r25 G_l4 G_l6) .nx σ) = f82_l2_B k (f82_o_l2 G_l2) (f82_o_l4 G_l4) := by kernel_rfl
def f82_l2 (k : Nat) (r_l0 : f82_t_l0) : Nat → f82_t_l2
 | 0 => fun _ _ _ _ _ _ _ _ _ _ => none
 | n + 1 => f82_l2_B k (f82_l2 k r_l0 n) (f82_l4 k r_l0 k)
theorem f82_l2_E (k : Nat) (R_l0 : f82_S) : ∀ n, f82_o_l2 (f82_C_l2 k R_l0 n) = f82_l2 k (f82_o_l0 R_l0) n
 | 0 => rfl
 | n + 1 =>
   Eq.trans (congrArg f82_o_l2 (Eq.trans (b := fun σ => f82_a k (f82_Q_l2 k R_l0 (f82_C_l2 k R_l0 n)) .nx σ) lp_step (ap_fn (f82_f_l2 k R_l0 (f82_C_l2 k R_l0 n))))) ((f82_l2_P k R_l0 (f82_C_l2 k R_l0 n) (f82_C_r25 k) (f82_C_l4 k R_l0 k) (f82_C_l6 k R_l0 k)).trans (by rw [f82_l4_E k R_l0 k, f82_l2_E k R_l0 n] <;> rfl))
theorem f82_r25_P (k : Nat) : f82_o_r25 (fun σ => f82_a k (f82_F_r25 k) .nx σ) = f82_r25_B k := by kernel_rfl
def f82_r25 (k : Nat) : f82_t_r25 := f82_r25_B k
theorem f82_r25_E (k : Nat) : f82_o_r25 (f82_C_r25 k) = f82_r25 k :=
 Eq.trans (congrArg f82_o_r25 (ap_fn (f82_f_r25 k))) ((f82_r25_P k).trans (by rfl))
theorem f82_l0_P (k : Nat) (G_l0 G_l2 G_r25 G_l4 G_l6 : f82_S) : f82_o_l0 (fun σ => f82_a k (f82_F_l0 k G_l0 G_l2 G_r25 G_l4 G_l6) .nx σ) = f82_l0_B k (f82_o_l2 G_l2) (f82_o_r25 G_r25) := by kernel_rfl
def f82_l0 (k : Nat) : Nat → f82_t_l0
 | 0 => fun _ _ _ _ _ _ => none
 | n + 1 => f82_l0_B k (f82_l2 k (f82_l0 k n) k) (f82_r25 k)
theorem f82_l0_E (k : Nat) : ∀ n, f82_o_l0 (f82_C_l0 k n) = f82_l0 k n
 | 0 => rfl
 | n + 1 =>
   Eq.trans (congrArg f82_o_l0 (Eq.trans (b := fun σ => f82_a k (f82_Q_l0 k (f82_C_l0 k n)) .nx σ) lp_step (ap_fn (f82_f_l0 k (f82_C_l0 k n))))) ((f82_l0_P k (f82_C_l0 k n) (f82_C_l2 k (f82_C_l0 k n) k) (f82_C_r25 k) (f82_C_l4 k (f82_C_l0 k n) k) (f82_C_l6 k (f82_C_l0 k n) k)).trans (by rw [f82_l2_E k (f82_C_l0 k n) k, f82_r25_E k, f82_l0_E k n] <;> rfl))
theorem f82_entry_P (k : Nat) (G_l0 G_r25 : f82_S) (xs : DL f82_sig) : f82_a k (.c (f82_p 2) 0 :: .c (f82_p 6) 0 :: .c (f82_p 14) 0 :: .c (f82_p 60) 0 :: .j (fun σ => f82_a k (.j (fun σ => G_l0 (cut f82_A.loops 0 σ)) :: .blk 0 :: .c (f82_p 124) 0 :: .j G_r25 :: f82_F_r25 k) .nx σ) :: .c (f82_p 124) 0 :: .j G_r25 :: f82_F_r25 k) .nx (σ0 96 288 f82_sig xs) = f82_entry_B k (f82_o_l0 G_l0) xs.1 := by kernel_rfl
def f82 (k : Nat) (a0 : Td8) : Option (Int × Unit) := f82_entry_B k (f82_l0 k k) a0
theorem f82_fe (k : Nat) : f82_a k [.c (f82_p 1) 0] = f82_a k (.c (f82_p 2) 0 :: .c (f82_p 6) 0 :: .c (f82_p 14) 0 :: .c (f82_p 60) 0 :: .j (fun σ => f82_a k (.j (fun σ => (f82_C_l0 k k) (cut f82_A.loops 0 σ)) :: .blk 0 :: .c (f82_p 124) 0 :: .j (f82_C_r25 k) :: f82_F_r25 k) .nx σ) :: .c (f82_p 124) 0 :: .j (f82_C_r25 k) :: f82_F_r25 k) := (Eq.trans ap_sq (ap_cons _ (Eq.trans ap_sq (ap_cons _ (Eq.trans ap_sq (ap_cons _ (Eq.trans ap_sq (Eq.trans ap_sq (ap_cons _ (Eq.trans (ap_bl 0) (Eq.trans (ap_j (Eq.trans (ap_lp (C := (f82_C_l0 k)) (fun _ _ => rfl)) (ap_cons _ (ap_cons _ (Eq.trans ap_sq (Eq.trans ap_sq (ap_cons _ (Eq.trans (ap_pass (C := (f82_C_r25 k)) (fun _ => rfl)) (ap_cons _ (f82_f_r25 k)))))))))) (ap_cons _ (Eq.trans ap_sq (Eq.trans ap_sq (ap_cons _ (Eq.trans (ap_pass (C := (f82_C_r25 k)) (fun _ => rfl)) (ap_cons _ (f82_f_r25 k))))))))))))))))))
theorem f82_eq (k : Nat) (xs : DL f82_sig) : den T f82_Y (f82_E k) f82_A k f82_c 0 (σ0 96 288 f82_sig xs) (Kfin T f82_rs f82_ts) = f82 k xs.1 :=
 Eq.trans (Eq.trans den_sb (ap_at (f82_fe k) _)) ((f82_entry_P k (f82_C_l0 k k) (f82_C_r25 k) xs).trans (by rw [f82_l0_E k k] <;> rfl))
def f82_con (k : Nat) : Con := ⟨f82_sig, f82_rs, fun xs => f82 k xs.1⟩
theorem f82_ok (k : Nat) : PureOK Try.prog 82 f82_sig f82_rs (fun xs => f82 k xs.1) :=
 (pure_of_den (k := k) (A := f82_A) (T := T) (Y := f82_Y) (E := f82_E k) (M := 288) (ts := f82_ts) T_ok ⟨f88_ok k, f102_ok k, f103_ok k, f104_ok k, f105_ok k, trivial⟩ ⟨f88_ent, f102_ent, f103_ent, f104_ent, f105_ent, trivial⟩ mixed (f := 82) (fn := Try.f82) (c := f82_c) (by kernel_rfl) (by kernel_rfl) (by kernel_rfl) (by decide) (by kernel_rfl)).congr fun xs => (f82_eq k xs).symm
theorem f82_ent : Ent Try.prog 82 := fun args w => by kernel_rfl
end
end Go.Proofs.Ytollcjadobpfdaa.Rw
