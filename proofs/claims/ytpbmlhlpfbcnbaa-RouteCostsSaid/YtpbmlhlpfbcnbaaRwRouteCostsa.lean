/- What the functions that the law RouteCosts reaches come to, part 1. No condition. -/
import Derived.Test.YtpbmlhlpfbcnbaaRxEv
import Derived.Test.YtpbmlhlpfbcnbaaProg
namespace Go.Proofs.Ytpbmlhlpfbcnbaa.Rw
open Go.Rx Go.Proofs
set_option linter.unusedVariables false
set_option maxRecDepth 100000
def T : Tab := [(3, ⟨.int .i64, 1, 8, some (false, [cI 0]), false⟩),
  (4, ⟨.bool, 1, 1, some (false, [.lit false]), false⟩),
  (25, ⟨.slice 3, 1, 24, some (false, [.nil]), false⟩),
  (26, ⟨.int .i64, 1, 8, some (false, [cI 0]), false⟩),
  (32, ⟨.slice 25, 1, 24, some (false, [.nil]), false⟩),
  (45, ⟨.slice 50, 1, 24, some (false, [.nil]), false⟩),
  (50, ⟨.struct [(0, 3), (1, 3)], 2, 16, some (true, [cI 0, cI 0]), true⟩),
  (61, ⟨.slice 129, 1, 24, some (false, [.nil]), false⟩),
  (62, ⟨.slice 169, 1, 24, some (false, [.nil]), false⟩),
  (64, ⟨.struct [(0, 45), (1, 61), (2, 62)], 3, 72, some (true, [.nil, .nil, .nil]), true⟩),
  (68, ⟨.struct [(0, 3), (1, 25)], 2, 32, some (true, [cI 0, .nil]), true⟩),
  (92, ⟨.slice 68, 1, 24, some (false, [.nil]), false⟩),
  (129, ⟨.struct [(0, 3), (1, 3), (2, 3), (3, 3)], 4, 32, some (true, [cI 0, cI 0, cI 0, cI 0]), true⟩),
  (155, ⟨.struct [(0, 3), (1, 3), (2, 3), (3, 4), (4, 4)], 5, 32, some (true, [cI 0, cI 0, cI 0, .lit false, .lit false]), true⟩),
  (156, ⟨.slice 155, 1, 24, some (false, [.nil]), false⟩),
  (158, ⟨.struct [(0, 64), (3, 156), (4, 32)], 5, 120, some (true, [.nil, .nil, .nil, .nil, .nil]), true⟩),
  (164, ⟨.slice 4, 1, 24, some (false, [.nil]), false⟩),
  (166, ⟨.map 50 4, 1, 8, some (false, [.any]), false⟩),
  (167, ⟨.map 169 4, 1, 8, some (false, [.any]), false⟩),
  (169, ⟨.struct [(0, 3), (1, 3)], 2, 16, some (true, [cI 0, cI 0]), true⟩),
  (193, ⟨.int .u64, 1, 8, some (false, [.int .u64 0]), false⟩)]
theorem T_ok : TabOK Try.prog T := ⟨by kernel_rfl, by kernel_rfl, by kernel_rfl, by kernel_rfl, by kernel_rfl, by kernel_rfl, by kernel_rfl, by kernel_rfl, by kernel_rfl, by kernel_rfl, by kernel_rfl, by kernel_rfl, by kernel_rfl, by kernel_rfl, by kernel_rfl, by kernel_rfl, by kernel_rfl, by kernel_rfl, by kernel_rfl, by kernel_rfl, by kernel_rfl, trivial⟩
theorem mixed : Try.prog.follows .mixedOrders = true := by kernel_rfl
abbrev Tq0 : Ty := (.sl false (.int .i64))
abbrev Tq1 : Ty := (.pair (.int .i64) (.int .i64))
abbrev Tq2 : Ty := (.sl false Tq1)
abbrev Tq3 : Ty := (.pair (.int .i64) Tq1)
abbrev Tq4 : Ty := (.pair (.int .i64) Tq3)
abbrev Tq5 : Ty := (.sl false Tq4)
abbrev Tq6 : Ty := (.pair Tq5 Tq2)
abbrev Tq7 : Ty := (.pair Tq2 Tq6)
abbrev Td8 : Type := (List (Int × Int))
abbrev Td9 : Type := (Int × (Int × Int))
abbrev Td10 : Type := (List (Int × Td9))
abbrev Td11 : Type := (Td8 × (Td10 × Td8))
abbrev Tq12 : Ty := (.sl false Tq0)
abbrev Tq13 : Ty := (.pair .bool .bool)
abbrev Tq14 : Ty := (.pair (.int .i64) Tq13)
abbrev Tq15 : Ty := (.pair (.int .i64) Tq14)
abbrev Tq16 : Ty := (.pair (.int .i64) Tq15)
abbrev Td17 : Type := (List (List Int))
abbrev Td18 : Type := (Bool × Bool)
abbrev Td19 : Type := (Int × (Int × Td18))
abbrev Tq20 : Ty := (.pair .bool Tq0)
abbrev Tq21 : Ty := (.sl false Tq16)
abbrev Tq22 : Ty := (.pair Tq21 Tq12)
abbrev Tq23 : Ty := (.pair Tq7 Tq22)
abbrev Td24 : Type := (List (Int × Td19))
abbrev Td25 : Type := (Td24 × Td17)
abbrev Td26 : Type := (Td11 × Td25)
abbrev Tq27 : Ty := (.sl true (.int .i64))
abbrev Td28 : Type := (Option (List Int))
abbrev Tq29 : Ty := (.pair (.int .i64) Tq0)
abbrev Td30 : Type := (Int × (List Int))
/-! ### slices.Equal[[]int,int]: function 20 -/
noncomputable def f20_c : Code := Try.f20.body.getD .skip
noncomputable abbrev f20_p (n : Nat) : Code := sb f20_c n
abbrev f20_sig : List PT := [(false, Tq0), (false, Tq0)]
abbrev f20_rs : List RT := [.d false .bool]
abbrev f20_ts : List RV := [.tmp 4]
abbrev f20_S := St → Option (RDL f20_rs)
abbrev f20_L := List (Fr (RDL f20_rs))
def f20_Y : Tys := []
noncomputable def f20_E (k : Nat) : Env := []
def f20_A : Ann := { loops := [(0, { slots := [(0, .val false (.int .i64)), (1, .val false (.int .i64)), (12, .id), (13, .id)] })] }
noncomputable abbrev f20_a (k : Nat) (F : f20_L) : Kont (RDL f20_rs) := ap T f20_Y (f20_E k) f20_A k (Kfin T f20_rs f20_ts) F
def f20_s_l0 (x0 : (List Int)) (x1 : (List Int)) (x12 : Int) (x13 : Int) : St := mkS 26 80 [(0, aV (.int .i64) x0), (1, aV (.int .i64) x1), (12, aI x12), (13, aI x13)] []
abbrev f20_t_l0 := (List Int) → (List Int) → Int → Int → Option (Bool × Unit)
abbrev f20_o_l0 (R : f20_S) : f20_t_l0 := (fun x0 x1 x12 x13 => R (f20_s_l0 x0 x1 x12 x13))
noncomputable def f20_Q_l0 (k : Nat) (R_l0 : f20_S) : f20_L := [.c (f20_p 116) 0, .j (fun σ => R_l0 (cut f20_A.loops 0 σ)), .blk 0, .c (f20_p 15) 0]
noncomputable def f20_C_l0 (k : Nat) (n : Nat) (σ : St) : Option (RDL f20_rs) := loopK (fun σ K => den T f20_Y (f20_E k) f20_A k (f20_p 116) 0 σ K) (cut f20_A.loops 0) (f20_a k [.blk 0, .c (f20_p 15) 0]) n σ
noncomputable def f20_F_l0 (k : Nat) (G_l0 : f20_S) : f20_L := .c (f20_p 116) 0 :: .j (fun σ => G_l0 (cut f20_A.loops 0 σ)) :: .blk 0 :: .c (f20_p 15) 0 :: []
theorem f20_f_l0 (k : Nat) (R_l0 : f20_S) : f20_a k (f20_Q_l0 k R_l0) = f20_a k (f20_F_l0 k R_l0) := (ap_cons _ (ap_cons _ (ap_cons _ (ap_cons _ rfl))))
def f20_entry_B (k : Nat) (g_l0 : f20_t_l0) (a0 : (List Int)) (a1 : (List Int)) : Option (Bool × Unit) := (if ¬ ((a0.length : Int) = (a1.length : Int)) then some (false, ()) else (g_l0 a0 a1 (a0.length : Int) 0))
def f20_l0_B (k : Nat) (g_l0 : f20_t_l0) (x0 : (List Int)) (x1 : (List Int)) (x12 : Int) (x13 : Int) : Option (Bool × Unit) := (if x13 < x12 then (if 0 ≤ x13 then (if x13 < (x0.length : Int) then (if 0 ≤ x13 then (if x13 < (x1.length : Int) then (if ¬ ((x0.getD (x13).toNat 0) = (x1.getD (x13).toNat 0)) then some (false, ()) else (g_l0 x0 x1 x12 (w64 (x13 + 1)))) else none) else none) else none) else none) else some (true, ()))
theorem f20_l0_P (k : Nat) (G_l0 : f20_S) : f20_o_l0 (fun σ => f20_a k (f20_F_l0 k G_l0) .nx σ) = f20_l0_B k (f20_o_l0 G_l0) := by kernel_rfl
def f20_l0 (k : Nat) : Nat → f20_t_l0
  | 0 => fun _ _ _ _ => none
  | n + 1 => f20_l0_B k (f20_l0 k n)
theorem f20_l0_E (k : Nat) : ∀ n, f20_o_l0 (f20_C_l0 k n) = f20_l0 k n
  | 0 => rfl
  | n + 1 =>
    Eq.trans (congrArg f20_o_l0 (Eq.trans (b := fun σ => f20_a k (f20_Q_l0 k (f20_C_l0 k n)) .nx σ) (by kernel_rfl) (ap_fn (f20_f_l0 k (f20_C_l0 k n))))) ((f20_l0_P k (f20_C_l0 k n)).trans (by rw [f20_l0_E k n] <;> rfl))
theorem f20_entry_P (k : Nat) (G_l0 : f20_S) (xs : DL f20_sig) : f20_a k (.c (f20_p 2) 0 :: .c (f20_p 6) 0 :: .c (f20_p 28) 0 :: .j (fun σ => f20_a k (.j (fun σ => G_l0 (cut f20_A.loops 0 σ)) :: .blk 0 :: .c (f20_p 15) 0 :: []) .nx σ) :: .c (f20_p 15) 0 :: []) .nx (σ0 26 80 f20_sig xs) = f20_entry_B k (f20_o_l0 G_l0) xs.1 xs.2.1 := by kernel_rfl
def f20 (k : Nat) (a0 : (List Int)) (a1 : (List Int)) : Option (Bool × Unit) := f20_entry_B k (f20_l0 k k) a0 a1
theorem f20_fe (k : Nat) : f20_a k [.c (f20_p 1) 0] = f20_a k (.c (f20_p 2) 0 :: .c (f20_p 6) 0 :: .c (f20_p 28) 0 :: .j (fun σ => f20_a k (.j (fun σ => (f20_C_l0 k k) (cut f20_A.loops 0 σ)) :: .blk 0 :: .c (f20_p 15) 0 :: []) .nx σ) :: .c (f20_p 15) 0 :: []) := (Eq.trans ap_sq (ap_cons _ (Eq.trans ap_sq (ap_cons _ (Eq.trans ap_sq (Eq.trans ap_sq (ap_cons _ (Eq.trans (ap_bl 0) (Eq.trans (ap_j (Eq.trans (ap_lp (C := (f20_C_l0 k)) (fun _ _ => rfl)) (ap_cons _ (ap_cons _ (ap_cons _ rfl))))) (ap_cons _ (ap_cons _ rfl)))))))))))
theorem f20_eq (k : Nat) (xs : DL f20_sig) : den T f20_Y (f20_E k) f20_A k f20_c 0 (σ0 26 80 f20_sig xs) (Kfin T f20_rs f20_ts) = f20 k xs.1 xs.2.1 :=
  Eq.trans (Eq.trans den_sb (ap_at (f20_fe k) _)) ((f20_entry_P k (f20_C_l0 k k) xs).trans (by rw [f20_l0_E k k] <;> rfl))
noncomputable def f20_con (k : Nat) : Con := ⟨f20_sig, f20_rs, fun xs => f20 k xs.1 xs.2.1⟩
theorem f20_ok (k : Nat) : PureOK Try.prog 20 f20_sig f20_rs (fun xs => f20 k xs.1 xs.2.1) :=
  (pure_of_den (k := k) (A := f20_A) (T := T) (Y := f20_Y) (E := f20_E k) (M := 80) (ts := f20_ts) T_ok trivial trivial mixed (f := 20) (fn := Try.f20) (c := f20_c) (by kernel_rfl) (by kernel_rfl) (by kernel_rfl) (by decide) (by kernel_rfl)).congr fun xs => (f20_eq k xs).symm
theorem f20_ent : Ent Try.prog 20 := fun args w => by kernel_rfl
/-! ### terrier/terrref4.PointOK: function 30 -/
noncomputable def f30_c : Code := Try.f30.body.getD .skip
noncomputable abbrev f30_p (n : Nat) : Code := sb f30_c n
abbrev f30_sig : List PT := [(true, Tq1)]
abbrev f30_rs : List RT := [.d false .bool]
abbrev f30_ts : List RV := [.tmp 2]
abbrev f30_S := St → Option (RDL f30_rs)
abbrev f30_L := List (Fr (RDL f30_rs))
def f30_Y : Tys := []
noncomputable def f30_E (k : Nat) : Env := []
def f30_A : Ann := { regs := [(1, { slots := [(2, .bool)] })] }
noncomputable abbrev f30_a (k : Nat) (F : f30_L) : Kont (RDL f30_rs) := ap T f30_Y (f30_E k) f30_A k (Kfin T f30_rs f30_ts) F
def f30_s_r1 (x2 : Bool) : St := mkS 21 64 [(2, aB x2)] []
abbrev f30_t_r1 := Bool → Option (Bool × Unit)
abbrev f30_o_r1 (R : f30_S) : f30_t_r1 := (fun x2 => R (f30_s_r1 x2))
noncomputable def f30_Q_r1 (k : Nat) : f30_L := [.c (f30_p 7) 0]
noncomputable def f30_C_r1 (k : Nat) : f30_S := fun σ => f30_a k (f30_Q_r1 k) .nx σ
noncomputable def f30_F_r1 (k : Nat) : f30_L := .c (f30_p 7) 0 :: []
theorem f30_f_r1 (k : Nat) : f30_a k (f30_Q_r1 k) = f30_a k (f30_F_r1 k) := (ap_cons _ rfl)
def f30_entry_B (k : Nat) (g_r1 : f30_t_r1) (a0 : (Int × Int)) : Option (Bool × Unit) := (if (-1048576) ≤ a0.1 then (if a0.1 ≤ 1048576 then (if (-1048576) ≤ a0.2 then (g_r1 (decide (a0.2 ≤ 1048576))) else (g_r1 false)) else (g_r1 false)) else (g_r1 false))
def f30_r1_B (k : Nat) (x2 : Bool) : Option (Bool × Unit) := some (decide (x2 = true), ())
theorem f30_r1_P (k : Nat) : f30_o_r1 (fun σ => f30_a k (f30_F_r1 k) .nx σ) = f30_r1_B k := by kernel_rfl
def f30_r1 (k : Nat) : f30_t_r1 := f30_r1_B k
theorem f30_r1_E (k : Nat) : f30_o_r1 (f30_C_r1 k) = f30_r1 k :=
  Eq.trans (congrArg f30_o_r1 (ap_fn (f30_f_r1 k))) ((f30_r1_P k).trans (by rfl))
theorem f30_entry_P (k : Nat) (G_r1 : f30_S) (xs : DL f30_sig) : f30_a k (.c (f30_p 2) 0 :: .c (f30_p 6) 0 :: .j G_r1 :: f30_F_r1 k) .nx (σ0 21 64 f30_sig xs) = f30_entry_B k (f30_o_r1 G_r1) xs.1 := by kernel_rfl
def f30 (k : Nat) (a0 : (Int × Int)) : Option (Bool × Unit) := f30_entry_B k (f30_r1 k) a0
theorem f30_fe (k : Nat) : f30_a k [.c (f30_p 1) 0] = f30_a k (.c (f30_p 2) 0 :: .c (f30_p 6) 0 :: .j (f30_C_r1 k) :: f30_F_r1 k) := (Eq.trans ap_sq (ap_cons _ (Eq.trans ap_sq (ap_cons _ (Eq.trans (ap_pass (C := (f30_C_r1 k)) (fun _ => rfl)) (ap_cons _ (f30_f_r1 k)))))))
theorem f30_eq (k : Nat) (xs : DL f30_sig) : den T f30_Y (f30_E k) f30_A k f30_c 0 (σ0 21 64 f30_sig xs) (Kfin T f30_rs f30_ts) = f30 k xs.1 :=
  Eq.trans (Eq.trans den_sb (ap_at (f30_fe k) _)) ((f30_entry_P k (f30_C_r1 k) xs).trans (by rw [f30_r1_E k] <;> rfl))
noncomputable def f30_con (k : Nat) : Con := ⟨f30_sig, f30_rs, fun xs => f30 k xs.1⟩
theorem f30_ok (k : Nat) : PureOK Try.prog 30 f30_sig f30_rs (fun xs => f30 k xs.1) :=
  (pure_of_den (k := k) (A := f30_A) (T := T) (Y := f30_Y) (E := f30_E k) (M := 64) (ts := f30_ts) T_ok trivial trivial mixed (f := 30) (fn := Try.f30) (c := f30_c) (by kernel_rfl) (by kernel_rfl) (by kernel_rfl) (by decide) (by kernel_rfl)).congr fun xs => (f30_eq k xs).symm
theorem f30_ent : Ent Try.prog 30 := fun args w => by kernel_rfl
/-! ### terrier/terrref4.NetFault$1: function 109 -/
noncomputable def f109_c : Code := Try.f109.body.getD .skip
noncomputable abbrev f109_p (n : Nat) : Code := sb f109_c n
abbrev f109_sig : List PT := [(false, (.int .i64)), (false, (.int .i64))]
abbrev f109_rs : List RT := [.d false .bool]
abbrev f109_ts : List RV := [.tmp 4]
abbrev f109_S := St → Option (RDL f109_rs)
abbrev f109_L := List (Fr (RDL f109_rs))
def f109_Y : Tys := []
noncomputable def f109_E (k : Nat) : Env := []
def f109_A : Ann := { regs := [(1, { slots := [(4, .bool)] })] }
noncomputable abbrev f109_a (k : Nat) (F : f109_L) : Kont (RDL f109_rs) := ap T f109_Y (f109_E k) f109_A k (Kfin T f109_rs f109_ts) F
def f109_s_r1 (x4 : Bool) : St := mkS 12 48 [(4, aB x4)] []
abbrev f109_t_r1 := Bool → Option (Bool × Unit)
abbrev f109_o_r1 (R : f109_S) : f109_t_r1 := (fun x4 => R (f109_s_r1 x4))
noncomputable def f109_Q_r1 (k : Nat) : f109_L := [.c (f109_p 7) 0]
noncomputable def f109_C_r1 (k : Nat) : f109_S := fun σ => f109_a k (f109_Q_r1 k) .nx σ
noncomputable def f109_F_r1 (k : Nat) : f109_L := .c (f109_p 7) 0 :: []
theorem f109_f_r1 (k : Nat) : f109_a k (f109_Q_r1 k) = f109_a k (f109_F_r1 k) := (ap_cons _ rfl)
def f109_entry_B (k : Nat) (g_r1 : f109_t_r1) (a0 : Int) (a1 : Int) : Option (Bool × Unit) := (if 0 ≤ a0 then (g_r1 (decide (a0 < a1))) else (g_r1 false))
def f109_r1_B (k : Nat) (x4 : Bool) : Option (Bool × Unit) := some (decide (x4 = true), ())
theorem f109_r1_P (k : Nat) : f109_o_r1 (fun σ => f109_a k (f109_F_r1 k) .nx σ) = f109_r1_B k := by kernel_rfl
def f109_r1 (k : Nat) : f109_t_r1 := f109_r1_B k
theorem f109_r1_E (k : Nat) : f109_o_r1 (f109_C_r1 k) = f109_r1 k :=
  Eq.trans (congrArg f109_o_r1 (ap_fn (f109_f_r1 k))) ((f109_r1_P k).trans (by rfl))
theorem f109_entry_P (k : Nat) (G_r1 : f109_S) (xs : DL f109_sig) : f109_a k (.c (f109_p 2) 0 :: .c (f109_p 6) 0 :: .j G_r1 :: f109_F_r1 k) .nx (σ0 12 48 f109_sig xs) = f109_entry_B k (f109_o_r1 G_r1) xs.1 xs.2.1 := by kernel_rfl
def f109 (k : Nat) (a0 : Int) (a1 : Int) : Option (Bool × Unit) := f109_entry_B k (f109_r1 k) a0 a1
theorem f109_fe (k : Nat) : f109_a k [.c (f109_p 1) 0] = f109_a k (.c (f109_p 2) 0 :: .c (f109_p 6) 0 :: .j (f109_C_r1 k) :: f109_F_r1 k) := (Eq.trans ap_sq (ap_cons _ (Eq.trans ap_sq (ap_cons _ (Eq.trans (ap_pass (C := (f109_C_r1 k)) (fun _ => rfl)) (ap_cons _ (f109_f_r1 k)))))))
theorem f109_eq (k : Nat) (xs : DL f109_sig) : den T f109_Y (f109_E k) f109_A k f109_c 0 (σ0 12 48 f109_sig xs) (Kfin T f109_rs f109_ts) = f109 k xs.1 xs.2.1 :=
  Eq.trans (Eq.trans den_sb (ap_at (f109_fe k) _)) ((f109_entry_P k (f109_C_r1 k) xs).trans (by rw [f109_r1_E k] <;> rfl))
noncomputable def f109_con (k : Nat) : Con := ⟨f109_sig, f109_rs, fun xs => f109 k xs.1 xs.2.1⟩
theorem f109_ok (k : Nat) : PureOK Try.prog 109 f109_sig f109_rs (fun xs => f109 k xs.1 xs.2.1) :=
  (pure_of_den (k := k) (A := f109_A) (T := T) (Y := f109_Y) (E := f109_E k) (M := 48) (ts := f109_ts) T_ok trivial trivial mixed (f := 109) (fn := Try.f109) (c := f109_c) (by kernel_rfl) (by kernel_rfl) (by kernel_rfl) (by decide) (by kernel_rfl)).congr fun xs => (f109_eq k xs).symm
theorem f109_ent : Ent Try.prog 109 := fun args w => by kernel_rfl
/-! ### terrier/terrref4.NetFault: function 42 -/
noncomputable def f42_c : Code := Try.f42.body.getD .skip
noncomputable abbrev f42_p (n : Nat) : Code := sb f42_c n
abbrev f42_sig : List PT := [(true, Tq7)]
abbrev f42_rs : List RT := [.d false (.int .i64)]
abbrev f42_ts : List RV := [.tmp 2]
abbrev f42_S := St → Option (RDL f42_rs)
abbrev f42_L := List (Fr (RDL f42_rs))
def f42_Y : Tys := []
noncomputable def f42_E (k : Nat) : Env := [(30, .c (f30_con k)), (109, .c (f109_con k))]
def f42_A : Ann := { regs := [(1, { slots := [(1, .id), (27, .bool)], keys := [(1, [.val false Tq1, .val false Tq4, .val false Tq1])] })], loops := [(0, { slots := [(1, .id), (3, .id), (30, .val false Tq1), (31, .id), (32, .id)], keys := [(1, [.val false Tq1, .val false Tq4, .val false Tq1]), (28, [])] }), (3, { slots := [(1, .id), (6, .id), (48, .val false Tq4), (49, .id), (50, .id)], keys := [(1, [.val false Tq1, .val false Tq4, .val false Tq1])] }), (6, { slots := [(1, .id), (6, .id), (9, .id), (86, .val false Tq1), (87, .id), (88, .id)], keys := [(1, [.val false Tq1, .val false Tq4, .val false Tq1]), (84, [])] })], conds := [(18, { slots := [(1, .id), (6, .id), (8, .id), (48, .val false Tq4), (49, .id), (50, .id), (54, .bool)], keys := [(1, [.val false Tq1, .val false Tq4, .val false Tq1]), (8, [])] }), (30, { slots := [(1, .id), (6, .id), (9, .id), (11, .id), (86, .val false Tq1), (87, .id), (88, .id), (92, .bool)], keys := [(1, [.val false Tq1, .val false Tq4, .val false Tq1]), (11, []), (84, [])] })] }
noncomputable abbrev f42_a (k : Nat) (F : f42_L) : Kont (RDL f42_rs) := ap T f42_Y (f42_E k) f42_A k (Kfin T f42_rs f42_ts) F
def f42_s_r1 (y1_0 : (List (Int × Int))) (y1_1 : (List (Int × (Int × (Int × Int))))) (y1_2 : (List (Int × Int))) (x27 : Bool) : St := mkS 132 400 [(1, aP 1), (27, aB x27)] [(1, .box [cV Tq1 y1_0, cV Tq4 y1_1, cV Tq1 y1_2])]
abbrev f42_t_r1 := (List (Int × Int)) → (List (Int × (Int × (Int × Int)))) → (List (Int × Int)) → Bool → Option (Int × Unit)
abbrev f42_o_r1 (R : f42_S) : f42_t_r1 := (fun y1_0 y1_1 y1_2 x27 => R (f42_s_r1 y1_0 y1_1 y1_2 x27))
noncomputable def f42_Q_r1 (k : Nat) : f42_L := [.c (f42_p 13) 0, .c (f42_p 7) 0]
noncomputable def f42_C_r1 (k : Nat) : f42_S := fun σ => f42_a k (f42_Q_r1 k) .nx σ
def f42_s_l0 (y1_0 : (List (Int × Int))) (y1_1 : (List (Int × (Int × (Int × Int))))) (y1_2 : (List (Int × Int))) (y28 : (List (Int × Int))) (x31 : Int) (x32 : Int) : St := mkS 132 400 [(1, aP 1), (3, .cp (.one (.mp 28))), (30, aV Tq1 y1_0), (31, aI x31), (32, aI x32)] [(1, .box [cV Tq1 y1_0, cV Tq4 y1_1, cV Tq1 y1_2]), (28, .set y28)]
abbrev f42_t_l0 := (List (Int × Int)) → (List (Int × (Int × (Int × Int)))) → (List (Int × Int)) → (List (Int × Int)) → Int → Int → Option (Int × Unit)
abbrev f42_o_l0 (R : f42_S) : f42_t_l0 := (fun y1_0 y1_1 y1_2 y28 x31 x32 => R (f42_s_l0 y1_0 y1_1 y1_2 y28 x31 x32))
noncomputable def f42_Q_l0 (k : Nat) (R_l0 : f42_S) : f42_L := [.c (f42_p 244) 0, .j (fun σ => R_l0 (cut f42_A.loops 0 σ)), .blk 0, .c (f42_p 31) 0]
noncomputable def f42_C_l0 (k : Nat) (n : Nat) (σ : St) : Option (RDL f42_rs) := loopK (fun σ K => den T f42_Y (f42_E k) f42_A k (f42_p 244) 0 σ K) (cut f42_A.loops 0) (f42_a k [.blk 0, .c (f42_p 31) 0]) n σ
def f42_s_l3 (y1_0 : (List (Int × Int))) (y1_1 : (List (Int × (Int × (Int × Int))))) (y1_2 : (List (Int × Int))) (x49 : Int) (x50 : Int) : St := mkS 132 400 [(1, aP 1), (6, .cp (.one (.fn 109 []))), (48, aV Tq4 y1_1), (49, aI x49), (50, aI x50)] [(1, .box [cV Tq1 y1_0, cV Tq4 y1_1, cV Tq1 y1_2])]
abbrev f42_t_l3 := (List (Int × Int)) → (List (Int × (Int × (Int × Int)))) → (List (Int × Int)) → Int → Int → Option (Int × Unit)
abbrev f42_o_l3 (R : f42_S) : f42_t_l3 := (fun y1_0 y1_1 y1_2 x49 x50 => R (f42_s_l3 y1_0 y1_1 y1_2 x49 x50))
noncomputable def f42_Q_l3 (k : Nat) (R_l3 : f42_S) : f42_L := [.c (f42_p 1012) 3, .j (fun σ => R_l3 (cut f42_A.loops 3 σ)), .blk 3, .c (f42_p 127) 0]
noncomputable def f42_C_l3 (k : Nat) (n : Nat) (σ : St) : Option (RDL f42_rs) := loopK (fun σ K => den T f42_Y (f42_E k) f42_A k (f42_p 1012) 3 σ K) (cut f42_A.loops 3) (f42_a k [.blk 3, .c (f42_p 127) 0]) n σ
def f42_s_c18 (y1_0 : (List (Int × Int))) (y1_1 : (List (Int × (Int × (Int × Int))))) (y1_2 : (List (Int × Int))) (y8_0 : Int) (y8_1 : Int) (y8_2 : Int) (y8_3 : Int) (x49 : Int) (x50 : Int) (x54 : Bool) : St := mkS 132 400 [(1, aP 1), (6, .cp (.one (.fn 109 []))), (8, aP 8), (48, aV Tq4 y1_1), (49, aI x49), (50, aI x50), (54, aB x54)] [(1, .box [cV Tq1 y1_0, cV Tq4 y1_1, cV Tq1 y1_2]), (8, .box [cI y8_0, cI y8_1, cI y8_2, cI y8_3])]
abbrev f42_t_c18 := (List (Int × Int)) → (List (Int × (Int × (Int × Int)))) → (List (Int × Int)) → Int → Int → Int → Int → Int → Int → Bool → Option (Int × Unit)
abbrev f42_o_c18 (R : f42_S) : f42_t_c18 := (fun y1_0 y1_1 y1_2 y8_0 y8_1 y8_2 y8_3 x49 x50 x54 => R (f42_s_c18 y1_0 y1_1 y1_2 y8_0 y8_1 y8_2 y8_3 x49 x50 x54))
noncomputable def f42_Q_c18 (k : Nat) (R_l3 : f42_S) : f42_L := [.c (f42_p 129637) 5, .blk 5, .blk 4, .c (f42_p 8103) 3, .j (fun σ => R_l3 (cut f42_A.loops 3 σ)), .blk 3, .c (f42_p 127) 0]
noncomputable def f42_C_c18 (k : Nat) (R_l3 : f42_S) : f42_S := fun σ => f42_a k (f42_Q_c18 k R_l3) .nx σ
def f42_s_l6 (y1_0 : (List (Int × Int))) (y1_1 : (List (Int × (Int × (Int × Int))))) (y1_2 : (List (Int × Int))) (y84 : (List (Int × Int))) (x87 : Int) (x88 : Int) : St := mkS 132 400 [(1, aP 1), (6, .cp (.one (.fn 109 []))), (9, .cp (.one (.mp 84))), (86, aV Tq1 y1_2), (87, aI x87), (88, aI x88)] [(1, .box [cV Tq1 y1_0, cV Tq4 y1_1, cV Tq1 y1_2]), (84, .set y84)]
abbrev f42_t_l6 := (List (Int × Int)) → (List (Int × (Int × (Int × Int)))) → (List (Int × Int)) → (List (Int × Int)) → Int → Int → Option (Int × Unit)
abbrev f42_o_l6 (R : f42_S) : f42_t_l6 := (fun y1_0 y1_1 y1_2 y84 x87 x88 => R (f42_s_l6 y1_0 y1_1 y1_2 y84 x87 x88))
noncomputable def f42_Q_l6 (k : Nat) (R_l6 : f42_S) : f42_L := [.c (f42_p 4084) 6, .j (fun σ => R_l6 (cut f42_A.loops 6 σ)), .blk 6, .c (f42_p 511) 0]
noncomputable def f42_C_l6 (k : Nat) (n : Nat) (σ : St) : Option (RDL f42_rs) := loopK (fun σ K => den T f42_Y (f42_E k) f42_A k (f42_p 4084) 6 σ K) (cut f42_A.loops 6) (f42_a k [.blk 6, .c (f42_p 511) 0]) n σ
def f42_s_c30 (y1_0 : (List (Int × Int))) (y1_1 : (List (Int × (Int × (Int × Int))))) (y1_2 : (List (Int × Int))) (y11_0 : Int) (y11_1 : Int) (y84 : (List (Int × Int))) (x87 : Int) (x88 : Int) (x92 : Bool) : St := mkS 132 400 [(1, aP 1), (6, .cp (.one (.fn 109 []))), (9, .cp (.one (.mp 84))), (11, aP 11), (86, aV Tq1 y1_2), (87, aI x87), (88, aI x88), (92, aB x92)] [(1, .box [cV Tq1 y1_0, cV Tq4 y1_1, cV Tq1 y1_2]), (11, .box [cI y11_0, cI y11_1]), (84, .set y84)]
abbrev f42_t_c30 := (List (Int × Int)) → (List (Int × (Int × (Int × Int)))) → (List (Int × Int)) → Int → Int → (List (Int × Int)) → Int → Int → Bool → Option (Int × Unit)
abbrev f42_o_c30 (R : f42_S) : f42_t_c30 := (fun y1_0 y1_1 y1_2 y11_0 y11_1 y84 x87 x88 x92 => R (f42_s_c30 y1_0 y1_1 y1_2 y11_0 y11_1 y84 x87 x88 x92))
noncomputable def f42_Q_c30 (k : Nat) (R_l6 : f42_S) : f42_L := [.c (f42_p 1045705) 8, .blk 8, .c (f42_p 261427) 7, .blk 7, .c (f42_p 32679) 6, .j (fun σ => R_l6 (cut f42_A.loops 6 σ)), .blk 6, .c (f42_p 511) 0]
noncomputable def f42_C_c30 (k : Nat) (R_l6 : f42_S) : f42_S := fun σ => f42_a k (f42_Q_c30 k R_l6) .nx σ
noncomputable def f42_F_r1 (k : Nat) (G_l0 G_l3 G_l6 : f42_S) : f42_L := .c (f42_p 13) 0 :: .c (f42_p 14) 0 :: .c (f42_p 60) 0 :: .j (fun σ => f42_a k (.j (fun σ => G_l0 (cut f42_A.loops 0 σ)) :: .blk 0 :: .c (f42_p 62) 0 :: .c (f42_p 252) 0 :: .j (fun σ => f42_a k (.j (fun σ => G_l3 (cut f42_A.loops 3 σ)) :: .blk 3 :: .c (f42_p 254) 0 :: .c (f42_p 1020) 0 :: .j (fun σ => f42_a k (.j (fun σ => G_l6 (cut f42_A.loops 6 σ)) :: .blk 6 :: .c (f42_p 511) 0 :: []) .nx σ) :: .c (f42_p 511) 0 :: []) .nx σ) :: .c (f42_p 254) 0 :: .c (f42_p 1020) 0 :: .j (fun σ => f42_a k (.j (fun σ => G_l6 (cut f42_A.loops 6 σ)) :: .blk 6 :: .c (f42_p 511) 0 :: []) .nx σ) :: .c (f42_p 511) 0 :: []) .nx σ) :: .c (f42_p 62) 0 :: .c (f42_p 252) 0 :: .j (fun σ => f42_a k (.j (fun σ => G_l3 (cut f42_A.loops 3 σ)) :: .blk 3 :: .c (f42_p 254) 0 :: .c (f42_p 1020) 0 :: .j (fun σ => f42_a k (.j (fun σ => G_l6 (cut f42_A.loops 6 σ)) :: .blk 6 :: .c (f42_p 511) 0 :: []) .nx σ) :: .c (f42_p 511) 0 :: []) .nx σ) :: .c (f42_p 254) 0 :: .c (f42_p 1020) 0 :: .j (fun σ => f42_a k (.j (fun σ => G_l6 (cut f42_A.loops 6 σ)) :: .blk 6 :: .c (f42_p 511) 0 :: []) .nx σ) :: .c (f42_p 511) 0 :: []
theorem f42_f_r1 (k : Nat) : f42_a k (f42_Q_r1 k) = f42_a k (f42_F_r1 k (f42_C_l0 k k) (f42_C_l3 k k) (f42_C_l6 k k)) := (ap_cons _ (Eq.trans ap_sq (ap_cons _ (Eq.trans ap_sq (Eq.trans ap_sq (ap_cons _ (Eq.trans (ap_bl 0) (Eq.trans (ap_j (Eq.trans (ap_lp (C := (f42_C_l0 k)) (fun _ _ => rfl)) (ap_cons _ (ap_cons _ (Eq.trans ap_sq (ap_cons _ (Eq.trans ap_sq (Eq.trans ap_sq (ap_cons _ (Eq.trans (ap_bl 3) (Eq.trans (ap_j (Eq.trans (ap_lp (C := (f42_C_l3 k)) (fun _ _ => rfl)) (ap_cons _ (ap_cons _ (Eq.trans ap_sq (ap_cons _ (Eq.trans ap_sq (Eq.trans ap_sq (ap_cons _ (Eq.trans (ap_bl 6) (Eq.trans (ap_j (Eq.trans (ap_lp (C := (f42_C_l6 k)) (fun _ _ => rfl)) (ap_cons _ (ap_cons _ (ap_cons _ rfl))))) (ap_cons _ (ap_cons _ rfl))))))))))))) (ap_cons _ (Eq.trans ap_sq (ap_cons _ (Eq.trans ap_sq (Eq.trans ap_sq (ap_cons _ (Eq.trans (ap_bl 6) (Eq.trans (ap_j (Eq.trans (ap_lp (C := (f42_C_l6 k)) (fun _ _ => rfl)) (ap_cons _ (ap_cons _ (ap_cons _ rfl))))) (ap_cons _ (ap_cons _ rfl))))))))))))))))))))) (ap_cons _ (Eq.trans ap_sq (ap_cons _ (Eq.trans ap_sq (Eq.trans ap_sq (ap_cons _ (Eq.trans (ap_bl 3) (Eq.trans (ap_j (Eq.trans (ap_lp (C := (f42_C_l3 k)) (fun _ _ => rfl)) (ap_cons _ (ap_cons _ (Eq.trans ap_sq (ap_cons _ (Eq.trans ap_sq (Eq.trans ap_sq (ap_cons _ (Eq.trans (ap_bl 6) (Eq.trans (ap_j (Eq.trans (ap_lp (C := (f42_C_l6 k)) (fun _ _ => rfl)) (ap_cons _ (ap_cons _ (ap_cons _ rfl))))) (ap_cons _ (ap_cons _ rfl))))))))))))) (ap_cons _ (Eq.trans ap_sq (ap_cons _ (Eq.trans ap_sq (Eq.trans ap_sq (ap_cons _ (Eq.trans (ap_bl 6) (Eq.trans (ap_j (Eq.trans (ap_lp (C := (f42_C_l6 k)) (fun _ _ => rfl)) (ap_cons _ (ap_cons _ (ap_cons _ rfl))))) (ap_cons _ (ap_cons _ rfl))))))))))))))))))))))))))
noncomputable def f42_F_l0 (k : Nat) (G_l0 G_l3 G_l6 : f42_S) : f42_L := .c (f42_p 244) 0 :: .j (fun σ => G_l0 (cut f42_A.loops 0 σ)) :: .blk 0 :: .c (f42_p 62) 0 :: .c (f42_p 252) 0 :: .j (fun σ => f42_a k (.j (fun σ => G_l3 (cut f42_A.loops 3 σ)) :: .blk 3 :: .c (f42_p 254) 0 :: .c (f42_p 1020) 0 :: .j (fun σ => f42_a k (.j (fun σ => G_l6 (cut f42_A.loops 6 σ)) :: .blk 6 :: .c (f42_p 511) 0 :: []) .nx σ) :: .c (f42_p 511) 0 :: []) .nx σ) :: .c (f42_p 254) 0 :: .c (f42_p 1020) 0 :: .j (fun σ => f42_a k (.j (fun σ => G_l6 (cut f42_A.loops 6 σ)) :: .blk 6 :: .c (f42_p 511) 0 :: []) .nx σ) :: .c (f42_p 511) 0 :: []
theorem f42_f_l0 (k : Nat) (R_l0 : f42_S) : f42_a k (f42_Q_l0 k R_l0) = f42_a k (f42_F_l0 k R_l0 (f42_C_l3 k k) (f42_C_l6 k k)) := (ap_cons _ (ap_cons _ (ap_cons _ (Eq.trans ap_sq (ap_cons _ (Eq.trans ap_sq (Eq.trans ap_sq (ap_cons _ (Eq.trans (ap_bl 3) (Eq.trans (ap_j (Eq.trans (ap_lp (C := (f42_C_l3 k)) (fun _ _ => rfl)) (ap_cons _ (ap_cons _ (Eq.trans ap_sq (ap_cons _ (Eq.trans ap_sq (Eq.trans ap_sq (ap_cons _ (Eq.trans (ap_bl 6) (Eq.trans (ap_j (Eq.trans (ap_lp (C := (f42_C_l6 k)) (fun _ _ => rfl)) (ap_cons _ (ap_cons _ (ap_cons _ rfl))))) (ap_cons _ (ap_cons _ rfl))))))))))))) (ap_cons _ (Eq.trans ap_sq (ap_cons _ (Eq.trans ap_sq (Eq.trans ap_sq (ap_cons _ (Eq.trans (ap_bl 6) (Eq.trans (ap_j (Eq.trans (ap_lp (C := (f42_C_l6 k)) (fun _ _ => rfl)) (ap_cons _ (ap_cons _ (ap_cons _ rfl))))) (ap_cons _ (ap_cons _ rfl))))))))))))))))))))
noncomputable def f42_F_c18 (k : Nat) (G_l3 G_l6 : f42_S) : f42_L := .c (f42_p 129637) 5 :: .blk 5 :: .blk 4 :: .c (f42_p 8103) 3 :: .j (fun σ => G_l3 (cut f42_A.loops 3 σ)) :: .blk 3 :: .c (f42_p 254) 0 :: .c (f42_p 1020) 0 :: .j (fun σ => f42_a k (.j (fun σ => G_l6 (cut f42_A.loops 6 σ)) :: .blk 6 :: .c (f42_p 511) 0 :: []) .nx σ) :: .c (f42_p 511) 0 :: []
theorem f42_f_c18 (k : Nat) (R_l3 : f42_S) : f42_a k (f42_Q_c18 k R_l3) = f42_a k (f42_F_c18 k R_l3 (f42_C_l6 k k)) := (ap_cons _ (ap_cons _ (ap_cons _ (ap_cons _ (ap_cons _ (ap_cons _ (Eq.trans ap_sq (ap_cons _ (Eq.trans ap_sq (Eq.trans ap_sq (ap_cons _ (Eq.trans (ap_bl 6) (Eq.trans (ap_j (Eq.trans (ap_lp (C := (f42_C_l6 k)) (fun _ _ => rfl)) (ap_cons _ (ap_cons _ (ap_cons _ rfl))))) (ap_cons _ (ap_cons _ rfl)))))))))))))))
noncomputable def f42_F_l3 (k : Nat) (G_l3 G_c18 G_l6 : f42_S) : f42_L := .c (f42_p 2024) 3 :: .c (f42_p 4050) 3 :: .j (fun σ => f42_a k (.c (f42_p 32408) 4 :: .j (fun σ => f42_a k (.c (f42_p 259272) 5 :: .c (f42_p 259273) 5 :: .j G_c18 :: f42_F_c18 k G_l3 G_l6) .nx σ) :: .blk 4 :: .c (f42_p 8103) 3 :: .j (fun σ => G_l3 (cut f42_A.loops 3 σ)) :: .blk 3 :: .c (f42_p 254) 0 :: .c (f42_p 1020) 0 :: .j (fun σ => f42_a k (.j (fun σ => G_l6 (cut f42_A.loops 6 σ)) :: .blk 6 :: .c (f42_p 511) 0 :: []) .nx σ) :: .c (f42_p 511) 0 :: []) .nx σ) :: .c (f42_p 8103) 3 :: .j (fun σ => G_l3 (cut f42_A.loops 3 σ)) :: .blk 3 :: .c (f42_p 254) 0 :: .c (f42_p 1020) 0 :: .j (fun σ => f42_a k (.j (fun σ => G_l6 (cut f42_A.loops 6 σ)) :: .blk 6 :: .c (f42_p 511) 0 :: []) .nx σ) :: .c (f42_p 511) 0 :: []
theorem f42_f_l3 (k : Nat) (R_l3 : f42_S) : f42_a k (f42_Q_l3 k R_l3) = f42_a k (f42_F_l3 k R_l3 (f42_C_c18 k R_l3) (f42_C_l6 k k)) := (Eq.trans ap_sq (ap_cons _ (Eq.trans ap_sq (ap_cons _ (Eq.trans ap_sq (Eq.trans (ap_bl 4) (Eq.trans (ap_j (Eq.trans ap_sq (ap_cons _ (Eq.trans (ap_bl 5) (Eq.trans (ap_j (Eq.trans ap_sq (Eq.trans ap_sq (ap_cons _ (ap_cons _ (Eq.trans (ap_pass (C := (f42_C_c18 k R_l3)) (fun _ => rfl)) (ap_cons _ (f42_f_c18 k R_l3)))))))) (ap_cons _ (ap_cons _ (ap_cons _ (ap_cons _ (ap_cons _ (Eq.trans ap_sq (ap_cons _ (Eq.trans ap_sq (Eq.trans ap_sq (ap_cons _ (Eq.trans (ap_bl 6) (Eq.trans (ap_j (Eq.trans (ap_lp (C := (f42_C_l6 k)) (fun _ _ => rfl)) (ap_cons _ (ap_cons _ (ap_cons _ rfl))))) (ap_cons _ (ap_cons _ rfl))))))))))))))))))) (ap_cons _ (ap_cons _ (ap_cons _ (ap_cons _ (Eq.trans ap_sq (ap_cons _ (Eq.trans ap_sq (Eq.trans ap_sq (ap_cons _ (Eq.trans (ap_bl 6) (Eq.trans (ap_j (Eq.trans (ap_lp (C := (f42_C_l6 k)) (fun _ _ => rfl)) (ap_cons _ (ap_cons _ (ap_cons _ rfl))))) (ap_cons _ (ap_cons _ rfl))))))))))))))))))))
noncomputable def f42_F_c30 (k : Nat) (G_l6 : f42_S) : f42_L := .c (f42_p 1045705) 8 :: .blk 8 :: .c (f42_p 261427) 7 :: .blk 7 :: .c (f42_p 32679) 6 :: .j (fun σ => G_l6 (cut f42_A.loops 6 σ)) :: .blk 6 :: .c (f42_p 511) 0 :: []
theorem f42_f_c30 (k : Nat) (R_l6 : f42_S) : f42_a k (f42_Q_c30 k R_l6) = f42_a k (f42_F_c30 k R_l6) := (ap_cons _ (ap_cons _ (ap_cons _ (ap_cons _ (ap_cons _ (ap_cons _ (ap_cons _ (ap_cons _ rfl))))))))
noncomputable def f42_F_l6 (k : Nat) (G_l6 G_c30 : f42_S) : f42_L := .c (f42_p 8168) 6 :: .c (f42_p 16338) 6 :: .j (fun σ => f42_a k (.c (f42_p 130712) 7 :: .j (fun σ => f42_a k (.c (f42_p 2091408) 8 :: .c (f42_p 2091409) 8 :: .j G_c30 :: f42_F_c30 k G_l6) .nx σ) :: .c (f42_p 261427) 7 :: .blk 7 :: .c (f42_p 32679) 6 :: .j (fun σ => G_l6 (cut f42_A.loops 6 σ)) :: .blk 6 :: .c (f42_p 511) 0 :: []) .nx σ) :: .c (f42_p 32679) 6 :: .j (fun σ => G_l6 (cut f42_A.loops 6 σ)) :: .blk 6 :: .c (f42_p 511) 0 :: []
theorem f42_f_l6 (k : Nat) (R_l6 : f42_S) : f42_a k (f42_Q_l6 k R_l6) = f42_a k (f42_F_l6 k R_l6 (f42_C_c30 k R_l6)) := (Eq.trans ap_sq (ap_cons _ (Eq.trans ap_sq (ap_cons _ (Eq.trans ap_sq (Eq.trans (ap_bl 7) (Eq.trans (ap_j (Eq.trans ap_sq (ap_cons _ (Eq.trans ap_sq (Eq.trans (ap_bl 8) (Eq.trans (ap_j (Eq.trans ap_sq (Eq.trans ap_sq (ap_cons _ (ap_cons _ (Eq.trans (ap_pass (C := (f42_C_c30 k R_l6)) (fun _ => rfl)) (ap_cons _ (f42_f_c30 k R_l6)))))))) (ap_cons _ (ap_cons _ (ap_cons _ (ap_cons _ (ap_cons _ (ap_cons _ (ap_cons _ rfl))))))))))))) (ap_cons _ (ap_cons _ (ap_cons _ (ap_cons _ (ap_cons _ rfl))))))))))))
def f42_entry_B (k : Nat) (g_r1 : f42_t_r1) (a0 : Td11) : Option (Int × Unit) := (if 200 < (a0.1.length : Int) then (g_r1 a0.1 a0.2.1 a0.2.2 true) else (if 600 < (a0.2.1.length : Int) then (g_r1 a0.1 a0.2.1 a0.2.2 true) else (g_r1 a0.1 a0.2.1 a0.2.2 (decide (600 < (a0.2.2.length : Int))))))
def f42_r1_B (k : Nat) (g_l0 : f42_t_l0) (y1_0 : (List (Int × Int))) (y1_1 : (List (Int × (Int × (Int × Int))))) (y1_2 : (List (Int × Int))) (x27 : Bool) : Option (Int × Unit) := (if x27 = true then some (2, ()) else (g_l0 y1_0 y1_1 y1_2 ([] : List (Int × Int)) (y1_0.length : Int) 0))
def f42_l0_B (k : Nat) (g_l0 : f42_t_l0) (g_l3 : f42_t_l3) (y1_0 : (List (Int × Int))) (y1_1 : (List (Int × (Int × (Int × Int))))) (y1_2 : (List (Int × Int))) (y28 : (List (Int × Int))) (x31 : Int) (x32 : Int) : Option (Int × Unit) := (if x32 < x31 then (if 0 ≤ x32 then (if x32 < (y1_0.length : Int) then ((f30 k ((y1_0.getD (x32).toNat (0, 0)).1, (y1_0.getD (x32).toNat (0, 0)).2)).bind fun r1 => (if ¬ (r1.1 = true) then some (1, ()) else (if ((y1_0.getD (x32).toNat (0, 0)).1, (y1_0.getD (x32).toNat (0, 0)).2) ∈ y28 then some (5, ()) else (g_l0 y1_0 y1_1 y1_2 (y28 ++ [((y1_0.getD (x32).toNat (0, 0)).1, (y1_0.getD (x32).toNat (0, 0)).2)]) x31 (w64 (x32 + 1)))))) else none) else none) else (g_l3 y1_0 y1_1 y1_2 (y1_1.length : Int) 0))
def f42_l3_B (k : Nat) (g_c18 : f42_t_c18) (g_l6 : f42_t_l6) (y1_0 : (List (Int × Int))) (y1_1 : (List (Int × (Int × (Int × Int))))) (y1_2 : (List (Int × Int))) (x49 : Int) (x50 : Int) : Option (Int × Unit) := (if x50 < x49 then (if 0 ≤ x50 then (if x50 < (y1_1.length : Int) then ((f109 k ((y1_1.getD (x50).toNat (0, (0, (0, 0)))).1) (y1_0.length : Int)).bind fun r1 => (if ¬ (r1.1 = true) then (g_c18 y1_0 y1_1 y1_2 ((y1_1.getD (x50).toNat (0, (0, (0, 0)))).1) (((y1_1.getD (x50).toNat (0, (0, (0, 0)))).2).1) ((((y1_1.getD (x50).toNat (0, (0, (0, 0)))).2).2).1) ((((y1_1.getD (x50).toNat (0, (0, (0, 0)))).2).2).2) x49 x50 (decide (¬ (r1.1 = true)))) else ((f109 k (((y1_1.getD (x50).toNat (0, (0, (0, 0)))).2).1) (y1_0.length : Int)).bind fun r2 => (if ¬ (r2.1 = true) then (g_c18 y1_0 y1_1 y1_2 ((y1_1.getD (x50).toNat (0, (0, (0, 0)))).1) (((y1_1.getD (x50).toNat (0, (0, (0, 0)))).2).1) ((((y1_1.getD (x50).toNat (0, (0, (0, 0)))).2).2).1) ((((y1_1.getD (x50).toNat (0, (0, (0, 0)))).2).2).2) x49 x50 (decide (¬ (r2.1 = true)))) else (if ((((y1_1.getD (x50).toNat (0, (0, (0, 0)))).2).2).1) < 0 then (g_c18 y1_0 y1_1 y1_2 ((y1_1.getD (x50).toNat (0, (0, (0, 0)))).1) (((y1_1.getD (x50).toNat (0, (0, (0, 0)))).2).1) ((((y1_1.getD (x50).toNat (0, (0, (0, 0)))).2).2).1) ((((y1_1.getD (x50).toNat (0, (0, (0, 0)))).2).2).2) x49 x50 (decide (((((y1_1.getD (x50).toNat (0, (0, (0, 0)))).2).2).1) < 0))) else (g_c18 y1_0 y1_1 y1_2 ((y1_1.getD (x50).toNat (0, (0, (0, 0)))).1) (((y1_1.getD (x50).toNat (0, (0, (0, 0)))).2).1) ((((y1_1.getD (x50).toNat (0, (0, (0, 0)))).2).2).1) ((((y1_1.getD (x50).toNat (0, (0, (0, 0)))).2).2).2) x49 x50 (decide (1099511627776 < ((((y1_1.getD (x50).toNat (0, (0, (0, 0)))).2).2).1))))))))) else none) else none) else (g_l6 y1_0 y1_1 y1_2 ([] : List (Int × Int)) (y1_2.length : Int) 0))
def f42_c18_B (k : Nat) (g_l3 : f42_t_l3) (y1_0 : (List (Int × Int))) (y1_1 : (List (Int × (Int × (Int × Int))))) (y1_2 : (List (Int × Int))) (y8_0 : Int) (y8_1 : Int) (y8_2 : Int) (y8_3 : Int) (x49 : Int) (x50 : Int) (x54 : Bool) : Option (Int × Unit) := (if x54 = true then some (1, ()) else (if y8_0 = y8_1 then some (11, ()) else (g_l3 y1_0 y1_1 y1_2 x49 (w64 (x50 + 1)))))
def f42_l6_B (k : Nat) (g_c30 : f42_t_c30) (y1_0 : (List (Int × Int))) (y1_1 : (List (Int × (Int × (Int × Int))))) (y1_2 : (List (Int × Int))) (y84 : (List (Int × Int))) (x87 : Int) (x88 : Int) : Option (Int × Unit) := (if x88 < x87 then (if 0 ≤ x88 then (if x88 < (y1_2.length : Int) then ((f109 k ((y1_2.getD (x88).toNat (0, 0)).1) (y1_1.length : Int)).bind fun r1 => (if ¬ (r1.1 = true) then (g_c30 y1_0 y1_1 y1_2 ((y1_2.getD (x88).toNat (0, 0)).1) ((y1_2.getD (x88).toNat (0, 0)).2) y84 x87 x88 (decide (¬ (r1.1 = true)))) else ((f109 k ((y1_2.getD (x88).toNat (0, 0)).2) (y1_1.length : Int)).bind fun r2 => (g_c30 y1_0 y1_1 y1_2 ((y1_2.getD (x88).toNat (0, 0)).1) ((y1_2.getD (x88).toNat (0, 0)).2) y84 x87 x88 (decide (¬ (r2.1 = true))))))) else none) else none) else some (0, ()))
def f42_c30_B (k : Nat) (g_l6 : f42_t_l6) (y1_0 : (List (Int × Int))) (y1_1 : (List (Int × (Int × (Int × Int))))) (y1_2 : (List (Int × Int))) (y11_0 : Int) (y11_1 : Int) (y84 : (List (Int × Int))) (x87 : Int) (x88 : Int) (x92 : Bool) : Option (Int × Unit) := (if x92 = true then some (1, ()) else (if 0 ≤ y11_0 then (if y11_0 < (y1_1.length : Int) then (if 0 ≤ y11_1 then (if y11_1 < (y1_1.length : Int) then (if ¬ ((((y1_1.getD (y11_0).toNat (0, (0, (0, 0)))).2).1) = ((y1_1.getD (y11_1).toNat (0, (0, (0, 0)))).1)) then some (9, ()) else (if (y11_0, y11_1) ∈ y84 then some (5, ()) else (g_l6 y1_0 y1_1 y1_2 (y84 ++ [(y11_0, y11_1)]) x87 (w64 (x88 + 1))))) else none) else none) else none) else none))
theorem f42_c18_P (k : Nat) (G_l3 G_l6 : f42_S) : f42_o_c18 (fun σ => f42_a k (f42_F_c18 k G_l3 G_l6) .nx σ) = f42_c18_B k (f42_o_l3 G_l3) := by kernel_rfl
def f42_c18 (k : Nat) (r_l3 : f42_t_l3) : f42_t_c18 := f42_c18_B k r_l3
theorem f42_c18_E (k : Nat) (R_l3 : f42_S) : f42_o_c18 (f42_C_c18 k R_l3) = f42_c18 k (f42_o_l3 R_l3) :=
  Eq.trans (congrArg f42_o_c18 (ap_fn (f42_f_c18 k R_l3))) ((f42_c18_P k R_l3 (f42_C_l6 k k)).trans (by rfl))
theorem f42_c30_P (k : Nat) (G_l6 : f42_S) : f42_o_c30 (fun σ => f42_a k (f42_F_c30 k G_l6) .nx σ) = f42_c30_B k (f42_o_l6 G_l6) := by kernel_rfl
def f42_c30 (k : Nat) (r_l6 : f42_t_l6) : f42_t_c30 := f42_c30_B k r_l6
theorem f42_c30_E (k : Nat) (R_l6 : f42_S) : f42_o_c30 (f42_C_c30 k R_l6) = f42_c30 k (f42_o_l6 R_l6) :=
  Eq.trans (congrArg f42_o_c30 (ap_fn (f42_f_c30 k R_l6))) ((f42_c30_P k R_l6).trans (by rfl))
theorem f42_l6_P (k : Nat) (G_l6 G_c30 : f42_S) : f42_o_l6 (fun σ => f42_a k (f42_F_l6 k G_l6 G_c30) .nx σ) = f42_l6_B k (f42_o_c30 G_c30) := by kernel_rfl
def f42_l6 (k : Nat) : Nat → f42_t_l6
  | 0 => fun _ _ _ _ _ _ => none
  | n + 1 => f42_l6_B k (f42_c30 k (f42_l6 k n))
theorem f42_l6_E (k : Nat) : ∀ n, f42_o_l6 (f42_C_l6 k n) = f42_l6 k n
  | 0 => rfl
  | n + 1 =>
    Eq.trans (congrArg f42_o_l6 (Eq.trans (b := fun σ => f42_a k (f42_Q_l6 k (f42_C_l6 k n)) .nx σ) (by kernel_rfl) (ap_fn (f42_f_l6 k (f42_C_l6 k n))))) ((f42_l6_P k (f42_C_l6 k n) (f42_C_c30 k (f42_C_l6 k n))).trans (by rw [f42_c30_E k (f42_C_l6 k n), f42_l6_E k n] <;> rfl))
theorem f42_l3_P (k : Nat) (G_l3 G_c18 G_l6 : f42_S) : f42_o_l3 (fun σ => f42_a k (f42_F_l3 k G_l3 G_c18 G_l6) .nx σ) = f42_l3_B k (f42_o_c18 G_c18) (f42_o_l6 G_l6) := by kernel_rfl
def f42_l3 (k : Nat) : Nat → f42_t_l3
  | 0 => fun _ _ _ _ _ => none
  | n + 1 => f42_l3_B k (f42_c18 k (f42_l3 k n)) (f42_l6 k k)
theorem f42_l3_E (k : Nat) : ∀ n, f42_o_l3 (f42_C_l3 k n) = f42_l3 k n
  | 0 => rfl
  | n + 1 =>
    Eq.trans (congrArg f42_o_l3 (Eq.trans (b := fun σ => f42_a k (f42_Q_l3 k (f42_C_l3 k n)) .nx σ) (by kernel_rfl) (ap_fn (f42_f_l3 k (f42_C_l3 k n))))) ((f42_l3_P k (f42_C_l3 k n) (f42_C_c18 k (f42_C_l3 k n)) (f42_C_l6 k k)).trans (by rw [f42_c18_E k (f42_C_l3 k n), f42_l6_E k k, f42_l3_E k n] <;> rfl))
theorem f42_l0_P (k : Nat) (G_l0 G_l3 G_l6 : f42_S) : f42_o_l0 (fun σ => f42_a k (f42_F_l0 k G_l0 G_l3 G_l6) .nx σ) = f42_l0_B k (f42_o_l0 G_l0) (f42_o_l3 G_l3) := by kernel_rfl
def f42_l0 (k : Nat) : Nat → f42_t_l0
  | 0 => fun _ _ _ _ _ _ => none
  | n + 1 => f42_l0_B k (f42_l0 k n) (f42_l3 k k)
theorem f42_l0_E (k : Nat) : ∀ n, f42_o_l0 (f42_C_l0 k n) = f42_l0 k n
  | 0 => rfl
  | n + 1 =>
    Eq.trans (congrArg f42_o_l0 (Eq.trans (b := fun σ => f42_a k (f42_Q_l0 k (f42_C_l0 k n)) .nx σ) (by kernel_rfl) (ap_fn (f42_f_l0 k (f42_C_l0 k n))))) ((f42_l0_P k (f42_C_l0 k n) (f42_C_l3 k k) (f42_C_l6 k k)).trans (by rw [f42_l3_E k k, f42_l0_E k n] <;> rfl))
theorem f42_r1_P (k : Nat) (G_l0 G_l3 G_l6 : f42_S) : f42_o_r1 (fun σ => f42_a k (f42_F_r1 k G_l0 G_l3 G_l6) .nx σ) = f42_r1_B k (f42_o_l0 G_l0) := by kernel_rfl
def f42_r1 (k : Nat) : f42_t_r1 := f42_r1_B k (f42_l0 k k)
theorem f42_r1_E (k : Nat) : f42_o_r1 (f42_C_r1 k) = f42_r1 k :=
  Eq.trans (congrArg f42_o_r1 (ap_fn (f42_f_r1 k))) ((f42_r1_P k (f42_C_l0 k k) (f42_C_l3 k k) (f42_C_l6 k k)).trans (by rw [f42_l0_E k k] <;> rfl))
theorem f42_entry_P (k : Nat) (G_r1 G_l0 G_l3 G_l6 : f42_S) (xs : DL f42_sig) : f42_a k (.c (f42_p 2) 0 :: .c (f42_p 12) 0 :: .j G_r1 :: f42_F_r1 k G_l0 G_l3 G_l6) .nx (σ0 132 400 f42_sig xs) = f42_entry_B k (f42_o_r1 G_r1) xs.1 := by kernel_rfl
def f42 (k : Nat) (a0 : Td11) : Option (Int × Unit) := f42_entry_B k (f42_r1 k) a0
theorem f42_fe (k : Nat) : f42_a k [.c (f42_p 1) 0] = f42_a k (.c (f42_p 2) 0 :: .c (f42_p 12) 0 :: .j (f42_C_r1 k) :: f42_F_r1 k (f42_C_l0 k k) (f42_C_l3 k k) (f42_C_l6 k k)) := (Eq.trans ap_sq (ap_cons _ (Eq.trans ap_sq (Eq.trans ap_sq (ap_cons _ (Eq.trans (ap_pass (C := (f42_C_r1 k)) (fun _ => rfl)) (ap_cons _ (f42_f_r1 k))))))))
theorem f42_eq (k : Nat) (xs : DL f42_sig) : den T f42_Y (f42_E k) f42_A k f42_c 0 (σ0 132 400 f42_sig xs) (Kfin T f42_rs f42_ts) = f42 k xs.1 :=
  Eq.trans (Eq.trans den_sb (ap_at (f42_fe k) _)) ((f42_entry_P k (f42_C_r1 k) (f42_C_l0 k k) (f42_C_l3 k k) (f42_C_l6 k k) xs).trans (by rw [f42_r1_E k] <;> rfl))
noncomputable def f42_con (k : Nat) : Con := ⟨f42_sig, f42_rs, fun xs => f42 k xs.1⟩
theorem f42_ok (k : Nat) : PureOK Try.prog 42 f42_sig f42_rs (fun xs => f42 k xs.1) :=
  (pure_of_den (k := k) (A := f42_A) (T := T) (Y := f42_Y) (E := f42_E k) (M := 400) (ts := f42_ts) T_ok ⟨f30_ok k, f109_ok k, trivial⟩ ⟨f30_ent, f109_ent, trivial⟩ mixed (f := 42) (fn := Try.f42) (c := f42_c) (by kernel_rfl) (by kernel_rfl) (by kernel_rfl) (by decide) (by kernel_rfl)).congr fun xs => (f42_eq k xs).symm
theorem f42_ent : Ent Try.prog 42 := fun args w => by kernel_rfl
/-! ### terrier/terrlaw4.nodesFault: function 34 -/
noncomputable def f34_c : Code := Try.f34.body.getD .skip
noncomputable abbrev f34_p (n : Nat) : Code := sb f34_c n
abbrev f34_sig : List PT := [(true, Tq7), (false, Tq0)]
abbrev f34_rs : List RT := [.d false (.int .i64)]
abbrev f34_ts : List RV := [.tmp 4]
abbrev f34_S := St → Option (RDL f34_rs)
abbrev f34_L := List (Fr (RDL f34_rs))
def f34_Y : Tys := []
noncomputable def f34_E (k : Nat) : Env := [(42, .c (f42_con k))]
def f34_A : Ann := { loops := [(0, { slots := [(2, .id), (5, .id), (10, .val false (.int .i64)), (11, .id), (12, .id)], keys := [(2, [.val false Tq1, .val false Tq4, .val false Tq1])] })], regs := [(5, { slots := [(2, .id), (5, .id), (10, .val false (.int .i64)), (11, .id), (12, .id), (28, .bool)], keys := [(2, [.val false Tq1, .val false Tq4, .val false Tq1])] })], conds := [(6, { slots := [(2, .id), (5, .id), (10, .val false (.int .i64)), (11, .id), (12, .id)], keys := [(2, [.val false Tq1, .val false Tq4, .val false Tq1])] })] }
noncomputable abbrev f34_a (k : Nat) (F : f34_L) : Kont (RDL f34_rs) := ap T f34_Y (f34_E k) f34_A k (Kfin T f34_rs f34_ts) F
def f34_s_l0 (y2_0 : (List (Int × Int))) (y2_1 : (List (Int × (Int × (Int × Int))))) (y2_2 : (List (Int × Int))) (x10 : (List Int)) (x11 : Int) (x12 : Int) (x5 : Int) : St := mkS 31 96 [(2, aP 2), (5, aI x5), (10, aV (.int .i64) x10), (11, aI x11), (12, aI x12)] [(2, .box [cV Tq1 y2_0, cV Tq4 y2_1, cV Tq1 y2_2])]
abbrev f34_t_l0 := (List (Int × Int)) → (List (Int × (Int × (Int × Int)))) → (List (Int × Int)) → (List Int) → Int → Int → Int → Option (Int × Unit)
abbrev f34_o_l0 (R : f34_S) : f34_t_l0 := (fun y2_0 y2_1 y2_2 x10 x11 x12 x5 => R (f34_s_l0 y2_0 y2_1 y2_2 x10 x11 x12 x5))
noncomputable def f34_Q_l0 (k : Nat) (R_l0 : f34_S) : f34_L := [.c (f34_p 116) 0, .j (fun σ => R_l0 (cut f34_A.loops 0 σ)), .blk 0, .c (f34_p 15) 0]
noncomputable def f34_C_l0 (k : Nat) (n : Nat) (σ : St) : Option (RDL f34_rs) := loopK (fun σ K => den T f34_Y (f34_E k) f34_A k (f34_p 116) 0 σ K) (cut f34_A.loops 0) (f34_a k [.blk 0, .c (f34_p 15) 0]) n σ
def f34_s_r5 (y2_0 : (List (Int × Int))) (y2_1 : (List (Int × (Int × (Int × Int))))) (y2_2 : (List (Int × Int))) (x10 : (List Int)) (x11 : Int) (x12 : Int) (x28 : Bool) (x5 : Int) : St := mkS 31 96 [(2, aP 2), (5, aI x5), (10, aV (.int .i64) x10), (11, aI x11), (12, aI x12), (28, aB x28)] [(2, .box [cV Tq1 y2_0, cV Tq4 y2_1, cV Tq1 y2_2])]
abbrev f34_t_r5 := (List (Int × Int)) → (List (Int × (Int × (Int × Int)))) → (List (Int × Int)) → (List Int) → Int → Int → Bool → Int → Option (Int × Unit)
abbrev f34_o_r5 (R : f34_S) : f34_t_r5 := (fun y2_0 y2_1 y2_2 x10 x11 x12 x28 x5 => R (f34_s_r5 y2_0 y2_1 y2_2 x10 x11 x12 x28 x5))
noncomputable def f34_Q_r5 (k : Nat) (R_l0 : f34_S) : f34_L := [.c (f34_p 7475) 1, .blk 1, .c (f34_p 935) 0, .j (fun σ => R_l0 (cut f34_A.loops 0 σ)), .blk 0, .c (f34_p 15) 0]
noncomputable def f34_C_r5 (k : Nat) (R_l0 : f34_S) : f34_S := fun σ => f34_a k (f34_Q_r5 k R_l0) .nx σ
def f34_s_c6 (y2_0 : (List (Int × Int))) (y2_1 : (List (Int × (Int × (Int × Int))))) (y2_2 : (List (Int × Int))) (x10 : (List Int)) (x11 : Int) (x12 : Int) (x5 : Int) : St := mkS 31 96 [(2, aP 2), (5, aI x5), (10, aV (.int .i64) x10), (11, aI x11), (12, aI x12)] [(2, .box [cV Tq1 y2_0, cV Tq4 y2_1, cV Tq1 y2_2])]
abbrev f34_t_c6 := (List (Int × Int)) → (List (Int × (Int × (Int × Int)))) → (List (Int × Int)) → (List Int) → Int → Int → Int → Option (Int × Unit)
abbrev f34_o_c6 (R : f34_S) : f34_t_c6 := (fun y2_0 y2_1 y2_2 x10 x11 x12 x5 => R (f34_s_c6 y2_0 y2_1 y2_2 x10 x11 x12 x5))
noncomputable def f34_Q_c6 (k : Nat) (R_l0 : f34_S) : f34_L := [.blk 1, .c (f34_p 935) 0, .j (fun σ => R_l0 (cut f34_A.loops 0 σ)), .blk 0, .c (f34_p 15) 0]
noncomputable def f34_C_c6 (k : Nat) (R_l0 : f34_S) : f34_S := fun σ => f34_a k (f34_Q_c6 k R_l0) .nx σ
noncomputable def f34_F_c6 (k : Nat) (G_l0 : f34_S) : f34_L := .blk 1 :: .c (f34_p 935) 0 :: .j (fun σ => G_l0 (cut f34_A.loops 0 σ)) :: .blk 0 :: .c (f34_p 15) 0 :: []
theorem f34_f_c6 (k : Nat) (R_l0 : f34_S) : f34_a k (f34_Q_c6 k R_l0) = f34_a k (f34_F_c6 k R_l0) := (ap_cons _ (ap_cons _ (ap_cons _ (ap_cons _ (ap_cons _ rfl)))))
noncomputable def f34_F_r5 (k : Nat) (G_l0 G_c6 : f34_S) : f34_L := .c (f34_p 7475) 1 :: .j G_c6 :: f34_F_c6 k G_l0
theorem f34_f_r5 (k : Nat) (R_l0 : f34_S) : f34_a k (f34_Q_r5 k R_l0) = f34_a k (f34_F_r5 k R_l0 (f34_C_c6 k R_l0)) := (ap_cons _ (Eq.trans (ap_pass (C := (f34_C_c6 k R_l0)) (fun _ => rfl)) (ap_cons _ (f34_f_c6 k R_l0))))
noncomputable def f34_F_l0 (k : Nat) (G_l0 G_r5 G_c6 : f34_S) : f34_L := .c (f34_p 232) 0 :: .c (f34_p 466) 0 :: .j (fun σ => f34_a k (.c (f34_p 3736) 1 :: .c (f34_p 7474) 1 :: .j G_r5 :: f34_F_r5 k G_l0 G_c6) .nx σ) :: .c (f34_p 935) 0 :: .j (fun σ => G_l0 (cut f34_A.loops 0 σ)) :: .blk 0 :: .c (f34_p 15) 0 :: []
theorem f34_f_l0 (k : Nat) (R_l0 : f34_S) : f34_a k (f34_Q_l0 k R_l0) = f34_a k (f34_F_l0 k R_l0 (f34_C_r5 k R_l0) (f34_C_c6 k R_l0)) := (Eq.trans ap_sq (ap_cons _ (Eq.trans ap_sq (ap_cons _ (Eq.trans ap_sq (Eq.trans (ap_bl 1) (Eq.trans (ap_j (Eq.trans ap_sq (ap_cons _ (Eq.trans ap_sq (ap_cons _ (Eq.trans (ap_pass (C := (f34_C_r5 k R_l0)) (fun _ => rfl)) (ap_cons _ (f34_f_r5 k R_l0)))))))) (ap_cons _ (ap_cons _ (ap_cons _ (ap_cons _ (ap_cons _ rfl))))))))))))
def f34_entry_B (k : Nat) (g_l0 : f34_t_l0) (a0 : Td11) (a1 : (List Int)) : Option (Int × Unit) := ((f42 k (a0.1, (a0.2.1, a0.2.2))).bind fun r1 => (g_l0 a0.1 a0.2.1 a0.2.2 a1 (a1.length : Int) 0 r1.1))
def f34_l0_B (k : Nat) (g_r5 : f34_t_r5) (y2_0 : (List (Int × Int))) (y2_1 : (List (Int × (Int × (Int × Int))))) (y2_2 : (List (Int × Int))) (x10 : (List Int)) (x11 : Int) (x12 : Int) (x5 : Int) : Option (Int × Unit) := (if x12 < x11 then (if 0 ≤ x12 then (if x12 < (x10.length : Int) then (if x5 = 0 then (if (x10.getD (x12).toNat 0) < 0 then (g_r5 y2_0 y2_1 y2_2 x10 x11 x12 true x5) else (g_r5 y2_0 y2_1 y2_2 x10 x11 x12 (decide ((y2_0.length : Int) ≤ (x10.getD (x12).toNat 0))) x5)) else (g_r5 y2_0 y2_1 y2_2 x10 x11 x12 false x5)) else none) else none) else some (x5, ()))
def f34_r5_B (k : Nat) (g_c6 : f34_t_c6) (y2_0 : (List (Int × Int))) (y2_1 : (List (Int × (Int × (Int × Int))))) (y2_2 : (List (Int × Int))) (x10 : (List Int)) (x11 : Int) (x12 : Int) (x28 : Bool) (x5 : Int) : Option (Int × Unit) := (if x28 = true then (g_c6 y2_0 y2_1 y2_2 x10 x11 x12 1) else (g_c6 y2_0 y2_1 y2_2 x10 x11 x12 x5))
def f34_c6_B (k : Nat) (g_l0 : f34_t_l0) (y2_0 : (List (Int × Int))) (y2_1 : (List (Int × (Int × (Int × Int))))) (y2_2 : (List (Int × Int))) (x10 : (List Int)) (x11 : Int) (x12 : Int) (x5 : Int) : Option (Int × Unit) := (g_l0 y2_0 y2_1 y2_2 x10 x11 (w64 (x12 + 1)) x5)
theorem f34_c6_P (k : Nat) (G_l0 : f34_S) : f34_o_c6 (fun σ => f34_a k (f34_F_c6 k G_l0) .nx σ) = f34_c6_B k (f34_o_l0 G_l0) := by kernel_rfl
def f34_c6 (k : Nat) (r_l0 : f34_t_l0) : f34_t_c6 := f34_c6_B k r_l0
theorem f34_c6_E (k : Nat) (R_l0 : f34_S) : f34_o_c6 (f34_C_c6 k R_l0) = f34_c6 k (f34_o_l0 R_l0) :=
  Eq.trans (congrArg f34_o_c6 (ap_fn (f34_f_c6 k R_l0))) ((f34_c6_P k R_l0).trans (by rfl))
theorem f34_r5_P (k : Nat) (G_l0 G_c6 : f34_S) : f34_o_r5 (fun σ => f34_a k (f34_F_r5 k G_l0 G_c6) .nx σ) = f34_r5_B k (f34_o_c6 G_c6) := by kernel_rfl
def f34_r5 (k : Nat) (r_l0 : f34_t_l0) : f34_t_r5 := f34_r5_B k (f34_c6 k r_l0)
theorem f34_r5_E (k : Nat) (R_l0 : f34_S) : f34_o_r5 (f34_C_r5 k R_l0) = f34_r5 k (f34_o_l0 R_l0) :=
  Eq.trans (congrArg f34_o_r5 (ap_fn (f34_f_r5 k R_l0))) ((f34_r5_P k R_l0 (f34_C_c6 k R_l0)).trans (by rw [f34_c6_E k R_l0] <;> rfl))
theorem f34_l0_P (k : Nat) (G_l0 G_r5 G_c6 : f34_S) : f34_o_l0 (fun σ => f34_a k (f34_F_l0 k G_l0 G_r5 G_c6) .nx σ) = f34_l0_B k (f34_o_r5 G_r5) := by kernel_rfl
def f34_l0 (k : Nat) : Nat → f34_t_l0
  | 0 => fun _ _ _ _ _ _ _ => none
  | n + 1 => f34_l0_B k (f34_r5 k (f34_l0 k n))
theorem f34_l0_E (k : Nat) : ∀ n, f34_o_l0 (f34_C_l0 k n) = f34_l0 k n
  | 0 => rfl
  | n + 1 =>
    Eq.trans (congrArg f34_o_l0 (Eq.trans (b := fun σ => f34_a k (f34_Q_l0 k (f34_C_l0 k n)) .nx σ) (by kernel_rfl) (ap_fn (f34_f_l0 k (f34_C_l0 k n))))) ((f34_l0_P k (f34_C_l0 k n) (f34_C_r5 k (f34_C_l0 k n)) (f34_C_c6 k (f34_C_l0 k n))).trans (by rw [f34_r5_E k (f34_C_l0 k n), f34_l0_E k n] <;> rfl))
theorem f34_entry_P (k : Nat) (G_l0 : f34_S) (xs : DL f34_sig) : f34_a k (.c (f34_p 2) 0 :: .c (f34_p 6) 0 :: .c (f34_p 28) 0 :: .j (fun σ => f34_a k (.j (fun σ => G_l0 (cut f34_A.loops 0 σ)) :: .blk 0 :: .c (f34_p 15) 0 :: []) .nx σ) :: .c (f34_p 15) 0 :: []) .nx (σ0 31 96 f34_sig xs) = f34_entry_B k (f34_o_l0 G_l0) xs.1 xs.2.1 := by kernel_rfl
def f34 (k : Nat) (a0 : Td11) (a1 : (List Int)) : Option (Int × Unit) := f34_entry_B k (f34_l0 k k) a0 a1
theorem f34_fe (k : Nat) : f34_a k [.c (f34_p 1) 0] = f34_a k (.c (f34_p 2) 0 :: .c (f34_p 6) 0 :: .c (f34_p 28) 0 :: .j (fun σ => f34_a k (.j (fun σ => (f34_C_l0 k k) (cut f34_A.loops 0 σ)) :: .blk 0 :: .c (f34_p 15) 0 :: []) .nx σ) :: .c (f34_p 15) 0 :: []) := (Eq.trans ap_sq (ap_cons _ (Eq.trans ap_sq (ap_cons _ (Eq.trans ap_sq (Eq.trans ap_sq (ap_cons _ (Eq.trans (ap_bl 0) (Eq.trans (ap_j (Eq.trans (ap_lp (C := (f34_C_l0 k)) (fun _ _ => rfl)) (ap_cons _ (ap_cons _ (ap_cons _ rfl))))) (ap_cons _ (ap_cons _ rfl)))))))))))
theorem f34_eq (k : Nat) (xs : DL f34_sig) : den T f34_Y (f34_E k) f34_A k f34_c 0 (σ0 31 96 f34_sig xs) (Kfin T f34_rs f34_ts) = f34 k xs.1 xs.2.1 :=
  Eq.trans (Eq.trans den_sb (ap_at (f34_fe k) _)) ((f34_entry_P k (f34_C_l0 k k) xs).trans (by rw [f34_l0_E k k] <;> rfl))
noncomputable def f34_con (k : Nat) : Con := ⟨f34_sig, f34_rs, fun xs => f34 k xs.1 xs.2.1⟩
theorem f34_ok (k : Nat) : PureOK Try.prog 34 f34_sig f34_rs (fun xs => f34 k xs.1 xs.2.1) :=
  (pure_of_den (k := k) (A := f34_A) (T := T) (Y := f34_Y) (E := f34_E k) (M := 96) (ts := f34_ts) T_ok ⟨f42_ok k, trivial⟩ ⟨f42_ent, trivial⟩ mixed (f := 34) (fn := Try.f34) (c := f34_c) (by kernel_rfl) (by kernel_rfl) (by kernel_rfl) (by decide) (by kernel_rfl)).congr fun xs => (f34_eq k xs).symm
theorem f34_ent : Ent Try.prog 34 := fun args w => by kernel_rfl
/-! ### terrier/point.limit: function 148 -/
noncomputable def f148_c : Code := Try.f148.body.getD .skip
noncomputable abbrev f148_p (n : Nat) : Code := sb f148_c n
abbrev f148_sig : List PT := [(false, (.int .i64)), (false, (.int .i64))]
abbrev f148_rs : List RT := [.d false (.int .i64)]
abbrev f148_ts : List RV := [.tmp 4]
abbrev f148_S := St → Option (RDL f148_rs)
abbrev f148_L := List (Fr (RDL f148_rs))
def f148_Y : Tys := []
noncomputable def f148_E (k : Nat) : Env := []
def f148_A : Ann := {}
noncomputable abbrev f148_a (k : Nat) (F : f148_L) : Kont (RDL f148_rs) := ap T f148_Y (f148_E k) f148_A k (Kfin T f148_rs f148_ts) F
def f148_entry_B (k : Nat) (a0 : Int) (a1 : Int) : Option (Int × Unit) := some ((mx2 true (w64 (0 - a1)) (mx2 false a0 a1)), ())
theorem f148_entry_P (k : Nat) (xs : DL f148_sig) : f148_a k (.c (f148_p 1) 0 :: []) .nx (σ0 11 48 f148_sig xs) = f148_entry_B k xs.1 xs.2.1 := by kernel_rfl
def f148 (k : Nat) (a0 : Int) (a1 : Int) : Option (Int × Unit) := f148_entry_B k a0 a1
theorem f148_eq (k : Nat) (xs : DL f148_sig) : den T f148_Y (f148_E k) f148_A k f148_c 0 (σ0 11 48 f148_sig xs) (Kfin T f148_rs f148_ts) = f148 k xs.1 xs.2.1 :=
  Eq.trans (Eq.trans den_sb (ap_at (ap_cons _ rfl) _)) ((f148_entry_P k xs).trans (by rfl))
noncomputable def f148_con (k : Nat) : Con := ⟨f148_sig, f148_rs, fun xs => f148 k xs.1 xs.2.1⟩
theorem f148_ok (k : Nat) : PureOK Try.prog 148 f148_sig f148_rs (fun xs => f148 k xs.1 xs.2.1) :=
  (pure_of_den (k := k) (A := f148_A) (T := T) (Y := f148_Y) (E := f148_E k) (M := 48) (ts := f148_ts) T_ok trivial trivial mixed (f := 148) (fn := Try.f148) (c := f148_c) (by kernel_rfl) (by kernel_rfl) (by kernel_rfl) (by decide) (by kernel_rfl)).congr fun xs => (f148_eq k xs).symm
theorem f148_ent : Ent Try.prog 148 := fun args w => by kernel_rfl
/-! ### terrier/point.Clamp: function 92 -/
noncomputable def f92_c : Code := Try.f92.body.getD .skip
noncomputable abbrev f92_p (n : Nat) : Code := sb f92_c n
abbrev f92_sig : List PT := [(true, Tq1)]
abbrev f92_rs : List RT := [.d true Tq1]
abbrev f92_ts : List RV := [.cell 2 50]
abbrev f92_S := St → Option (RDL f92_rs)
abbrev f92_L := List (Fr (RDL f92_rs))
def f92_Y : Tys := []
noncomputable def f92_E (k : Nat) : Env := [(148, .c (f148_con k))]
def f92_A : Ann := {}
noncomputable abbrev f92_a (k : Nat) (F : f92_L) : Kont (RDL f92_rs) := ap T f92_Y (f92_E k) f92_A k (Kfin T f92_rs f92_ts) F
def f92_entry_B (k : Nat) (a0 : (Int × Int)) : Option ((Int × Int) × Unit) := ((f148 k a0.1 1048576).bind fun r1 => ((f148 k a0.2 1048576).bind fun r2 => some ((r1.1, r2.1), ())))
theorem f92_entry_P (k : Nat) (xs : DL f92_sig) : f92_a k (.c (f92_p 1) 0 :: []) .nx (σ0 10 32 f92_sig xs) = f92_entry_B k xs.1 := by kernel_rfl
def f92 (k : Nat) (a0 : (Int × Int)) : Option ((Int × Int) × Unit) := f92_entry_B k a0
theorem f92_eq (k : Nat) (xs : DL f92_sig) : den T f92_Y (f92_E k) f92_A k f92_c 0 (σ0 10 32 f92_sig xs) (Kfin T f92_rs f92_ts) = f92 k xs.1 :=
  Eq.trans (Eq.trans den_sb (ap_at (ap_cons _ rfl) _)) ((f92_entry_P k xs).trans (by rfl))
noncomputable def f92_con (k : Nat) : Con := ⟨f92_sig, f92_rs, fun xs => f92 k xs.1⟩
theorem f92_ok (k : Nat) : PureOK Try.prog 92 f92_sig f92_rs (fun xs => f92 k xs.1) :=
  (pure_of_den (k := k) (A := f92_A) (T := T) (Y := f92_Y) (E := f92_E k) (M := 32) (ts := f92_ts) T_ok ⟨f148_ok k, trivial⟩ ⟨f148_ent, trivial⟩ mixed (f := 92) (fn := Try.f92) (c := f92_c) (by kernel_rfl) (by kernel_rfl) (by kernel_rfl) (by decide) (by kernel_rfl)).congr fun xs => (f92_eq k xs).symm
theorem f92_ent : Ent Try.prog 92 := fun args w => by kernel_rfl
/-! ### terrier/point.Ok: function 85 -/
noncomputable def f85_c : Code := Try.f85.body.getD .skip
noncomputable abbrev f85_p (n : Nat) : Code := sb f85_c n
abbrev f85_sig : List PT := [(true, Tq1)]
abbrev f85_rs : List RT := [.d false .bool]
abbrev f85_ts : List RV := [.tmp 2]
abbrev f85_S := St → Option (RDL f85_rs)
abbrev f85_L := List (Fr (RDL f85_rs))
def f85_Y : Tys := []
noncomputable def f85_E (k : Nat) : Env := [(92, .c (f92_con k))]
def f85_A : Ann := {}
noncomputable abbrev f85_a (k : Nat) (F : f85_L) : Kont (RDL f85_rs) := ap T f85_Y (f85_E k) f85_A k (Kfin T f85_rs f85_ts) F
def f85_entry_B (k : Nat) (a0 : (Int × Int)) : Option (Bool × Unit) := ((f92 k (a0.1, a0.2)).bind fun r1 => some (decide ((a0.1 = r1.1.1) ∧ (a0.2 = r1.1.2)), ()))
theorem f85_entry_P (k : Nat) (xs : DL f85_sig) : f85_a k (.c (f85_p 1) 0 :: []) .nx (σ0 7 32 f85_sig xs) = f85_entry_B k xs.1 := by kernel_rfl
def f85 (k : Nat) (a0 : (Int × Int)) : Option (Bool × Unit) := f85_entry_B k a0
theorem f85_eq (k : Nat) (xs : DL f85_sig) : den T f85_Y (f85_E k) f85_A k f85_c 0 (σ0 7 32 f85_sig xs) (Kfin T f85_rs f85_ts) = f85 k xs.1 :=
  Eq.trans (Eq.trans den_sb (ap_at (ap_cons _ rfl) _)) ((f85_entry_P k xs).trans (by rfl))
noncomputable def f85_con (k : Nat) : Con := ⟨f85_sig, f85_rs, fun xs => f85 k xs.1⟩
theorem f85_ok (k : Nat) : PureOK Try.prog 85 f85_sig f85_rs (fun xs => f85 k xs.1) :=
  (pure_of_den (k := k) (A := f85_A) (T := T) (Y := f85_Y) (E := f85_E k) (M := 32) (ts := f85_ts) T_ok ⟨f92_ok k, trivial⟩ ⟨f92_ent, trivial⟩ mixed (f := 85) (fn := Try.f85) (c := f85_c) (by kernel_rfl) (by kernel_rfl) (by kernel_rfl) (by decide) (by kernel_rfl)).congr fun xs => (f85_eq k xs).symm
theorem f85_ent : Ent Try.prog 85 := fun args w => by kernel_rfl
/-! ### slices.Index[[]terrier/api.Ban,terrier/api.Ban]: function 159 -/
noncomputable def f159_c : Code := Try.f159.body.getD .skip
noncomputable abbrev f159_p (n : Nat) : Code := sb f159_c n
abbrev f159_sig : List PT := [(false, Tq2), (true, Tq1)]
abbrev f159_rs : List RT := [.d false (.int .i64)]
abbrev f159_ts : List RV := [.tmp 4]
abbrev f159_S := St → Option (RDL f159_rs)
abbrev f159_L := List (Fr (RDL f159_rs))
def f159_Y : Tys := []
noncomputable def f159_E (k : Nat) : Env := []
def f159_A : Ann := { loops := [(0, { slots := [(0, .val false Tq1), (3, .id), (7, .id), (8, .id)], keys := [(3, [])] })] }
noncomputable abbrev f159_a (k : Nat) (F : f159_L) : Kont (RDL f159_rs) := ap T f159_Y (f159_E k) f159_A k (Kfin T f159_rs f159_ts) F
def f159_s_l0 (y3_0 : Int) (y3_1 : Int) (x0 : (List (Int × Int))) (x7 : Int) (x8 : Int) : St := mkS 19 64 [(0, aV Tq1 x0), (3, aP 3), (7, aI x7), (8, aI x8)] [(3, .box [cI y3_0, cI y3_1])]
abbrev f159_t_l0 := Int → Int → (List (Int × Int)) → Int → Int → Option (Int × Unit)
abbrev f159_o_l0 (R : f159_S) : f159_t_l0 := (fun y3_0 y3_1 x0 x7 x8 => R (f159_s_l0 y3_0 y3_1 x0 x7 x8))
noncomputable def f159_Q_l0 (k : Nat) (R_l0 : f159_S) : f159_L := [.c (f159_p 52) 0, .j (fun σ => R_l0 (cut f159_A.loops 0 σ)), .blk 0, .c (f159_p 7) 0]
noncomputable def f159_C_l0 (k : Nat) (n : Nat) (σ : St) : Option (RDL f159_rs) := loopK (fun σ K => den T f159_Y (f159_E k) f159_A k (f159_p 52) 0 σ K) (cut f159_A.loops 0) (f159_a k [.blk 0, .c (f159_p 7) 0]) n σ
noncomputable def f159_F_l0 (k : Nat) (G_l0 : f159_S) : f159_L := .c (f159_p 52) 0 :: .j (fun σ => G_l0 (cut f159_A.loops 0 σ)) :: .blk 0 :: .c (f159_p 7) 0 :: []
theorem f159_f_l0 (k : Nat) (R_l0 : f159_S) : f159_a k (f159_Q_l0 k R_l0) = f159_a k (f159_F_l0 k R_l0) := (ap_cons _ (ap_cons _ (ap_cons _ (ap_cons _ rfl))))
def f159_entry_B (k : Nat) (g_l0 : f159_t_l0) (a0 : Td8) (a1 : (Int × Int)) : Option (Int × Unit) := (g_l0 a1.1 a1.2 a0 (a0.length : Int) 0)
def f159_l0_B (k : Nat) (g_l0 : f159_t_l0) (y3_0 : Int) (y3_1 : Int) (x0 : (List (Int × Int))) (x7 : Int) (x8 : Int) : Option (Int × Unit) := (if x8 < x7 then (if 0 ≤ x8 then (if x8 < (x0.length : Int) then (if (y3_0 = ((x0.getD (x8).toNat (0, 0)).1)) ∧ (y3_1 = ((x0.getD (x8).toNat (0, 0)).2)) then some (x8, ()) else (g_l0 y3_0 y3_1 x0 x7 (w64 (x8 + 1)))) else none) else none) else some ((-1), ()))
theorem f159_l0_P (k : Nat) (G_l0 : f159_S) : f159_o_l0 (fun σ => f159_a k (f159_F_l0 k G_l0) .nx σ) = f159_l0_B k (f159_o_l0 G_l0) := by kernel_rfl
def f159_l0 (k : Nat) : Nat → f159_t_l0
  | 0 => fun _ _ _ _ _ => none
  | n + 1 => f159_l0_B k (f159_l0 k n)
theorem f159_l0_E (k : Nat) : ∀ n, f159_o_l0 (f159_C_l0 k n) = f159_l0 k n
  | 0 => rfl
  | n + 1 =>
    Eq.trans (congrArg f159_o_l0 (Eq.trans (b := fun σ => f159_a k (f159_Q_l0 k (f159_C_l0 k n)) .nx σ) (by kernel_rfl) (ap_fn (f159_f_l0 k (f159_C_l0 k n))))) ((f159_l0_P k (f159_C_l0 k n)).trans (by rw [f159_l0_E k n] <;> rfl))
theorem f159_entry_P (k : Nat) (G_l0 : f159_S) (xs : DL f159_sig) : f159_a k (.c (f159_p 2) 0 :: .c (f159_p 12) 0 :: .j (fun σ => f159_a k (.j (fun σ => G_l0 (cut f159_A.loops 0 σ)) :: .blk 0 :: .c (f159_p 7) 0 :: []) .nx σ) :: .c (f159_p 7) 0 :: []) .nx (σ0 19 64 f159_sig xs) = f159_entry_B k (f159_o_l0 G_l0) xs.1 xs.2.1 := by kernel_rfl
def f159 (k : Nat) (a0 : Td8) (a1 : (Int × Int)) : Option (Int × Unit) := f159_entry_B k (f159_l0 k k) a0 a1
theorem f159_fe (k : Nat) : f159_a k [.c (f159_p 1) 0] = f159_a k (.c (f159_p 2) 0 :: .c (f159_p 12) 0 :: .j (fun σ => f159_a k (.j (fun σ => (f159_C_l0 k k) (cut f159_A.loops 0 σ)) :: .blk 0 :: .c (f159_p 7) 0 :: []) .nx σ) :: .c (f159_p 7) 0 :: []) := (Eq.trans ap_sq (ap_cons _ (Eq.trans ap_sq (Eq.trans ap_sq (ap_cons _ (Eq.trans (ap_bl 0) (Eq.trans (ap_j (Eq.trans (ap_lp (C := (f159_C_l0 k)) (fun _ _ => rfl)) (ap_cons _ (ap_cons _ (ap_cons _ rfl))))) (ap_cons _ (ap_cons _ rfl)))))))))
theorem f159_eq (k : Nat) (xs : DL f159_sig) : den T f159_Y (f159_E k) f159_A k f159_c 0 (σ0 19 64 f159_sig xs) (Kfin T f159_rs f159_ts) = f159 k xs.1 xs.2.1 :=
  Eq.trans (Eq.trans den_sb (ap_at (f159_fe k) _)) ((f159_entry_P k (f159_C_l0 k k) xs).trans (by rw [f159_l0_E k k] <;> rfl))
noncomputable def f159_con (k : Nat) : Con := ⟨f159_sig, f159_rs, fun xs => f159 k xs.1 xs.2.1⟩
theorem f159_ok (k : Nat) : PureOK Try.prog 159 f159_sig f159_rs (fun xs => f159 k xs.1 xs.2.1) :=
  (pure_of_den (k := k) (A := f159_A) (T := T) (Y := f159_Y) (E := f159_E k) (M := 64) (ts := f159_ts) T_ok trivial trivial mixed (f := 159) (fn := Try.f159) (c := f159_c) (by kernel_rfl) (by kernel_rfl) (by kernel_rfl) (by decide) (by kernel_rfl)).congr fun xs => (f159_eq k xs).symm
theorem f159_ent : Ent Try.prog 159 := fun args w => by kernel_rfl
/-! ### slices.Contains[[]terrier/api.Ban,terrier/api.Ban]: function 115 -/
noncomputable def f115_c : Code := Try.f115.body.getD .skip
noncomputable abbrev f115_p (n : Nat) : Code := sb f115_c n
abbrev f115_sig : List PT := [(false, Tq2), (true, Tq1)]
abbrev f115_rs : List RT := [.d false .bool]
abbrev f115_ts : List RV := [.tmp 4]
abbrev f115_S := St → Option (RDL f115_rs)
abbrev f115_L := List (Fr (RDL f115_rs))
def f115_Y : Tys := []
noncomputable def f115_E (k : Nat) : Env := [(159, .c (f159_con k))]
def f115_A : Ann := {}
noncomputable abbrev f115_a (k : Nat) (F : f115_L) : Kont (RDL f115_rs) := ap T f115_Y (f115_E k) f115_A k (Kfin T f115_rs f115_ts) F
def f115_entry_B (k : Nat) (a0 : Td8) (a1 : (Int × Int)) : Option (Bool × Unit) := ((f159 k a0 (a1.1, a1.2)).bind fun r1 => some (decide (0 ≤ r1.1), ()))
theorem f115_entry_P (k : Nat) (xs : DL f115_sig) : f115_a k (.c (f115_p 1) 0 :: []) .nx (σ0 9 32 f115_sig xs) = f115_entry_B k xs.1 xs.2.1 := by kernel_rfl
def f115 (k : Nat) (a0 : Td8) (a1 : (Int × Int)) : Option (Bool × Unit) := f115_entry_B k a0 a1
theorem f115_eq (k : Nat) (xs : DL f115_sig) : den T f115_Y (f115_E k) f115_A k f115_c 0 (σ0 9 32 f115_sig xs) (Kfin T f115_rs f115_ts) = f115 k xs.1 xs.2.1 :=
  Eq.trans (Eq.trans den_sb (ap_at (ap_cons _ rfl) _)) ((f115_entry_P k xs).trans (by rfl))
noncomputable def f115_con (k : Nat) : Con := ⟨f115_sig, f115_rs, fun xs => f115 k xs.1 xs.2.1⟩
theorem f115_ok (k : Nat) : PureOK Try.prog 115 f115_sig f115_rs (fun xs => f115 k xs.1 xs.2.1) :=
  (pure_of_den (k := k) (A := f115_A) (T := T) (Y := f115_Y) (E := f115_E k) (M := 32) (ts := f115_ts) T_ok ⟨f159_ok k, trivial⟩ ⟨f159_ent, trivial⟩ mixed (f := 115) (fn := Try.f115) (c := f115_c) (by kernel_rfl) (by kernel_rfl) (by kernel_rfl) (by decide) (by kernel_rfl)).congr fun xs => (f115_eq k xs).symm
theorem f115_ent : Ent Try.prog 115 := fun args w => by kernel_rfl
/-! ### terrier/net.edge: function 116 -/
noncomputable def f116_c : Code := Try.f116.body.getD .skip
noncomputable abbrev f116_p (n : Nat) : Code := sb f116_c n
abbrev f116_sig : List PT := [(true, Tq7), (false, (.int .i64))]
abbrev f116_rs : List RT := [.d false .bool]
abbrev f116_ts : List RV := [.tmp 4]
abbrev f116_S := St → Option (RDL f116_rs)
abbrev f116_L := List (Fr (RDL f116_rs))
def f116_Y : Tys := []
noncomputable def f116_E (k : Nat) : Env := []
def f116_A : Ann := { regs := [(1, { slots := [(4, .bool)] })] }
noncomputable abbrev f116_a (k : Nat) (F : f116_L) : Kont (RDL f116_rs) := ap T f116_Y (f116_E k) f116_A k (Kfin T f116_rs f116_ts) F
def f116_s_r1 (x4 : Bool) : St := mkS 14 48 [(4, aB x4)] []
abbrev f116_t_r1 := Bool → Option (Bool × Unit)
abbrev f116_o_r1 (R : f116_S) : f116_t_r1 := (fun x4 => R (f116_s_r1 x4))
noncomputable def f116_Q_r1 (k : Nat) : f116_L := [.c (f116_p 7) 0]
noncomputable def f116_C_r1 (k : Nat) : f116_S := fun σ => f116_a k (f116_Q_r1 k) .nx σ
noncomputable def f116_F_r1 (k : Nat) : f116_L := .c (f116_p 7) 0 :: []
theorem f116_f_r1 (k : Nat) : f116_a k (f116_Q_r1 k) = f116_a k (f116_F_r1 k) := (ap_cons _ rfl)
def f116_entry_B (k : Nat) (g_r1 : f116_t_r1) (a0 : Td11) (a1 : Int) : Option (Bool × Unit) := (if 0 ≤ a1 then (g_r1 (decide (a1 < (a0.2.1.length : Int)))) else (g_r1 false))
def f116_r1_B (k : Nat) (x4 : Bool) : Option (Bool × Unit) := some (decide (x4 = true), ())
theorem f116_r1_P (k : Nat) : f116_o_r1 (fun σ => f116_a k (f116_F_r1 k) .nx σ) = f116_r1_B k := by kernel_rfl
def f116_r1 (k : Nat) : f116_t_r1 := f116_r1_B k
theorem f116_r1_E (k : Nat) : f116_o_r1 (f116_C_r1 k) = f116_r1 k :=
  Eq.trans (congrArg f116_o_r1 (ap_fn (f116_f_r1 k))) ((f116_r1_P k).trans (by rfl))
theorem f116_entry_P (k : Nat) (G_r1 : f116_S) (xs : DL f116_sig) : f116_a k (.c (f116_p 2) 0 :: .c (f116_p 6) 0 :: .j G_r1 :: f116_F_r1 k) .nx (σ0 14 48 f116_sig xs) = f116_entry_B k (f116_o_r1 G_r1) xs.1 xs.2.1 := by kernel_rfl
def f116 (k : Nat) (a0 : Td11) (a1 : Int) : Option (Bool × Unit) := f116_entry_B k (f116_r1 k) a0 a1
theorem f116_fe (k : Nat) : f116_a k [.c (f116_p 1) 0] = f116_a k (.c (f116_p 2) 0 :: .c (f116_p 6) 0 :: .j (f116_C_r1 k) :: f116_F_r1 k) := (Eq.trans ap_sq (ap_cons _ (Eq.trans ap_sq (ap_cons _ (Eq.trans (ap_pass (C := (f116_C_r1 k)) (fun _ => rfl)) (ap_cons _ (f116_f_r1 k)))))))
theorem f116_eq (k : Nat) (xs : DL f116_sig) : den T f116_Y (f116_E k) f116_A k f116_c 0 (σ0 14 48 f116_sig xs) (Kfin T f116_rs f116_ts) = f116 k xs.1 xs.2.1 :=
  Eq.trans (Eq.trans den_sb (ap_at (f116_fe k) _)) ((f116_entry_P k (f116_C_r1 k) xs).trans (by rw [f116_r1_E k] <;> rfl))
noncomputable def f116_con (k : Nat) : Con := ⟨f116_sig, f116_rs, fun xs => f116 k xs.1 xs.2.1⟩
theorem f116_ok (k : Nat) : PureOK Try.prog 116 f116_sig f116_rs (fun xs => f116 k xs.1 xs.2.1) :=
  (pure_of_den (k := k) (A := f116_A) (T := T) (Y := f116_Y) (E := f116_E k) (M := 48) (ts := f116_ts) T_ok trivial trivial mixed (f := 116) (fn := Try.f116) (c := f116_c) (by kernel_rfl) (by kernel_rfl) (by kernel_rfl) (by decide) (by kernel_rfl)).congr fun xs => (f116_eq k xs).symm
theorem f116_ent : Ent Try.prog 116 := fun args w => by kernel_rfl
/-! ### slices.Index[[]terrier/api.Point,terrier/api.Point]: function 161 -/
noncomputable def f161_c : Code := Try.f161.body.getD .skip
noncomputable abbrev f161_p (n : Nat) : Code := sb f161_c n
abbrev f161_sig : List PT := [(false, Tq2), (true, Tq1)]
abbrev f161_rs : List RT := [.d false (.int .i64)]
abbrev f161_ts : List RV := [.tmp 4]
abbrev f161_S := St → Option (RDL f161_rs)
abbrev f161_L := List (Fr (RDL f161_rs))
def f161_Y : Tys := []
noncomputable def f161_E (k : Nat) : Env := []
def f161_A : Ann := { loops := [(0, { slots := [(0, .val false Tq1), (3, .id), (7, .id), (8, .id)], keys := [(3, [])] })] }
noncomputable abbrev f161_a (k : Nat) (F : f161_L) : Kont (RDL f161_rs) := ap T f161_Y (f161_E k) f161_A k (Kfin T f161_rs f161_ts) F
def f161_s_l0 (y3_0 : Int) (y3_1 : Int) (x0 : (List (Int × Int))) (x7 : Int) (x8 : Int) : St := mkS 19 64 [(0, aV Tq1 x0), (3, aP 3), (7, aI x7), (8, aI x8)] [(3, .box [cI y3_0, cI y3_1])]
abbrev f161_t_l0 := Int → Int → (List (Int × Int)) → Int → Int → Option (Int × Unit)
abbrev f161_o_l0 (R : f161_S) : f161_t_l0 := (fun y3_0 y3_1 x0 x7 x8 => R (f161_s_l0 y3_0 y3_1 x0 x7 x8))
noncomputable def f161_Q_l0 (k : Nat) (R_l0 : f161_S) : f161_L := [.c (f161_p 52) 0, .j (fun σ => R_l0 (cut f161_A.loops 0 σ)), .blk 0, .c (f161_p 7) 0]
noncomputable def f161_C_l0 (k : Nat) (n : Nat) (σ : St) : Option (RDL f161_rs) := loopK (fun σ K => den T f161_Y (f161_E k) f161_A k (f161_p 52) 0 σ K) (cut f161_A.loops 0) (f161_a k [.blk 0, .c (f161_p 7) 0]) n σ
noncomputable def f161_F_l0 (k : Nat) (G_l0 : f161_S) : f161_L := .c (f161_p 52) 0 :: .j (fun σ => G_l0 (cut f161_A.loops 0 σ)) :: .blk 0 :: .c (f161_p 7) 0 :: []
theorem f161_f_l0 (k : Nat) (R_l0 : f161_S) : f161_a k (f161_Q_l0 k R_l0) = f161_a k (f161_F_l0 k R_l0) := (ap_cons _ (ap_cons _ (ap_cons _ (ap_cons _ rfl))))
def f161_entry_B (k : Nat) (g_l0 : f161_t_l0) (a0 : Td8) (a1 : (Int × Int)) : Option (Int × Unit) := (g_l0 a1.1 a1.2 a0 (a0.length : Int) 0)
def f161_l0_B (k : Nat) (g_l0 : f161_t_l0) (y3_0 : Int) (y3_1 : Int) (x0 : (List (Int × Int))) (x7 : Int) (x8 : Int) : Option (Int × Unit) := (if x8 < x7 then (if 0 ≤ x8 then (if x8 < (x0.length : Int) then (if (y3_0 = ((x0.getD (x8).toNat (0, 0)).1)) ∧ (y3_1 = ((x0.getD (x8).toNat (0, 0)).2)) then some (x8, ()) else (g_l0 y3_0 y3_1 x0 x7 (w64 (x8 + 1)))) else none) else none) else some ((-1), ()))
theorem f161_l0_P (k : Nat) (G_l0 : f161_S) : f161_o_l0 (fun σ => f161_a k (f161_F_l0 k G_l0) .nx σ) = f161_l0_B k (f161_o_l0 G_l0) := by kernel_rfl
def f161_l0 (k : Nat) : Nat → f161_t_l0
  | 0 => fun _ _ _ _ _ => none
  | n + 1 => f161_l0_B k (f161_l0 k n)
theorem f161_l0_E (k : Nat) : ∀ n, f161_o_l0 (f161_C_l0 k n) = f161_l0 k n
  | 0 => rfl
  | n + 1 =>
    Eq.trans (congrArg f161_o_l0 (Eq.trans (b := fun σ => f161_a k (f161_Q_l0 k (f161_C_l0 k n)) .nx σ) (by kernel_rfl) (ap_fn (f161_f_l0 k (f161_C_l0 k n))))) ((f161_l0_P k (f161_C_l0 k n)).trans (by rw [f161_l0_E k n] <;> rfl))
theorem f161_entry_P (k : Nat) (G_l0 : f161_S) (xs : DL f161_sig) : f161_a k (.c (f161_p 2) 0 :: .c (f161_p 12) 0 :: .j (fun σ => f161_a k (.j (fun σ => G_l0 (cut f161_A.loops 0 σ)) :: .blk 0 :: .c (f161_p 7) 0 :: []) .nx σ) :: .c (f161_p 7) 0 :: []) .nx (σ0 19 64 f161_sig xs) = f161_entry_B k (f161_o_l0 G_l0) xs.1 xs.2.1 := by kernel_rfl
def f161 (k : Nat) (a0 : Td8) (a1 : (Int × Int)) : Option (Int × Unit) := f161_entry_B k (f161_l0 k k) a0 a1
theorem f161_fe (k : Nat) : f161_a k [.c (f161_p 1) 0] = f161_a k (.c (f161_p 2) 0 :: .c (f161_p 12) 0 :: .j (fun σ => f161_a k (.j (fun σ => (f161_C_l0 k k) (cut f161_A.loops 0 σ)) :: .blk 0 :: .c (f161_p 7) 0 :: []) .nx σ) :: .c (f161_p 7) 0 :: []) := (Eq.trans ap_sq (ap_cons _ (Eq.trans ap_sq (Eq.trans ap_sq (ap_cons _ (Eq.trans (ap_bl 0) (Eq.trans (ap_j (Eq.trans (ap_lp (C := (f161_C_l0 k)) (fun _ _ => rfl)) (ap_cons _ (ap_cons _ (ap_cons _ rfl))))) (ap_cons _ (ap_cons _ rfl)))))))))
theorem f161_eq (k : Nat) (xs : DL f161_sig) : den T f161_Y (f161_E k) f161_A k f161_c 0 (σ0 19 64 f161_sig xs) (Kfin T f161_rs f161_ts) = f161 k xs.1 xs.2.1 :=
  Eq.trans (Eq.trans den_sb (ap_at (f161_fe k) _)) ((f161_entry_P k (f161_C_l0 k k) xs).trans (by rw [f161_l0_E k k] <;> rfl))
noncomputable def f161_con (k : Nat) : Con := ⟨f161_sig, f161_rs, fun xs => f161 k xs.1 xs.2.1⟩
theorem f161_ok (k : Nat) : PureOK Try.prog 161 f161_sig f161_rs (fun xs => f161 k xs.1 xs.2.1) :=
  (pure_of_den (k := k) (A := f161_A) (T := T) (Y := f161_Y) (E := f161_E k) (M := 64) (ts := f161_ts) T_ok trivial trivial mixed (f := 161) (fn := Try.f161) (c := f161_c) (by kernel_rfl) (by kernel_rfl) (by kernel_rfl) (by decide) (by kernel_rfl)).congr fun xs => (f161_eq k xs).symm
theorem f161_ent : Ent Try.prog 161 := fun args w => by kernel_rfl
/-! ### slices.Contains[[]terrier/api.Point,terrier/api.Point]: function 125 -/
noncomputable def f125_c : Code := Try.f125.body.getD .skip
noncomputable abbrev f125_p (n : Nat) : Code := sb f125_c n
abbrev f125_sig : List PT := [(false, Tq2), (true, Tq1)]
abbrev f125_rs : List RT := [.d false .bool]
abbrev f125_ts : List RV := [.tmp 4]
abbrev f125_S := St → Option (RDL f125_rs)
abbrev f125_L := List (Fr (RDL f125_rs))
def f125_Y : Tys := []
noncomputable def f125_E (k : Nat) : Env := [(161, .c (f161_con k))]
def f125_A : Ann := {}
noncomputable abbrev f125_a (k : Nat) (F : f125_L) : Kont (RDL f125_rs) := ap T f125_Y (f125_E k) f125_A k (Kfin T f125_rs f125_ts) F
def f125_entry_B (k : Nat) (a0 : Td8) (a1 : (Int × Int)) : Option (Bool × Unit) := ((f161 k a0 (a1.1, a1.2)).bind fun r1 => some (decide (0 ≤ r1.1), ()))
theorem f125_entry_P (k : Nat) (xs : DL f125_sig) : f125_a k (.c (f125_p 1) 0 :: []) .nx (σ0 9 32 f125_sig xs) = f125_entry_B k xs.1 xs.2.1 := by kernel_rfl
def f125 (k : Nat) (a0 : Td8) (a1 : (Int × Int)) : Option (Bool × Unit) := f125_entry_B k a0 a1
theorem f125_eq (k : Nat) (xs : DL f125_sig) : den T f125_Y (f125_E k) f125_A k f125_c 0 (σ0 9 32 f125_sig xs) (Kfin T f125_rs f125_ts) = f125 k xs.1 xs.2.1 :=
  Eq.trans (Eq.trans den_sb (ap_at (ap_cons _ rfl) _)) ((f125_entry_P k xs).trans (by rfl))
noncomputable def f125_con (k : Nat) : Con := ⟨f125_sig, f125_rs, fun xs => f125 k xs.1 xs.2.1⟩
theorem f125_ok (k : Nat) : PureOK Try.prog 125 f125_sig f125_rs (fun xs => f125 k xs.1 xs.2.1) :=
  (pure_of_den (k := k) (A := f125_A) (T := T) (Y := f125_Y) (E := f125_E k) (M := 32) (ts := f125_ts) T_ok ⟨f161_ok k, trivial⟩ ⟨f161_ent, trivial⟩ mixed (f := 125) (fn := Try.f125) (c := f125_c) (by kernel_rfl) (by kernel_rfl) (by kernel_rfl) (by decide) (by kernel_rfl)).congr fun xs => (f125_eq k xs).symm
theorem f125_ent : Ent Try.prog 125 := fun args w => by kernel_rfl
/-! ### terrier/net.node: function 138 -/
noncomputable def f138_c : Code := Try.f138.body.getD .skip
noncomputable abbrev f138_p (n : Nat) : Code := sb f138_c n
abbrev f138_sig : List PT := [(true, Tq7), (false, (.int .i64))]
abbrev f138_rs : List RT := [.d false .bool]
abbrev f138_ts : List RV := [.tmp 4]
abbrev f138_S := St → Option (RDL f138_rs)
abbrev f138_L := List (Fr (RDL f138_rs))
def f138_Y : Tys := []
noncomputable def f138_E (k : Nat) : Env := []
def f138_A : Ann := { regs := [(1, { slots := [(4, .bool)] })] }
noncomputable abbrev f138_a (k : Nat) (F : f138_L) : Kont (RDL f138_rs) := ap T f138_Y (f138_E k) f138_A k (Kfin T f138_rs f138_ts) F
def f138_s_r1 (x4 : Bool) : St := mkS 14 48 [(4, aB x4)] []
abbrev f138_t_r1 := Bool → Option (Bool × Unit)
abbrev f138_o_r1 (R : f138_S) : f138_t_r1 := (fun x4 => R (f138_s_r1 x4))
noncomputable def f138_Q_r1 (k : Nat) : f138_L := [.c (f138_p 7) 0]
noncomputable def f138_C_r1 (k : Nat) : f138_S := fun σ => f138_a k (f138_Q_r1 k) .nx σ
noncomputable def f138_F_r1 (k : Nat) : f138_L := .c (f138_p 7) 0 :: []
theorem f138_f_r1 (k : Nat) : f138_a k (f138_Q_r1 k) = f138_a k (f138_F_r1 k) := (ap_cons _ rfl)
def f138_entry_B (k : Nat) (g_r1 : f138_t_r1) (a0 : Td11) (a1 : Int) : Option (Bool × Unit) := (if 0 ≤ a1 then (g_r1 (decide (a1 < (a0.1.length : Int)))) else (g_r1 false))
def f138_r1_B (k : Nat) (x4 : Bool) : Option (Bool × Unit) := some (decide (x4 = true), ())
theorem f138_r1_P (k : Nat) : f138_o_r1 (fun σ => f138_a k (f138_F_r1 k) .nx σ) = f138_r1_B k := by kernel_rfl
def f138_r1 (k : Nat) : f138_t_r1 := f138_r1_B k
theorem f138_r1_E (k : Nat) : f138_o_r1 (f138_C_r1 k) = f138_r1 k :=
  Eq.trans (congrArg f138_o_r1 (ap_fn (f138_f_r1 k))) ((f138_r1_P k).trans (by rfl))
theorem f138_entry_P (k : Nat) (G_r1 : f138_S) (xs : DL f138_sig) : f138_a k (.c (f138_p 2) 0 :: .c (f138_p 6) 0 :: .j G_r1 :: f138_F_r1 k) .nx (σ0 14 48 f138_sig xs) = f138_entry_B k (f138_o_r1 G_r1) xs.1 xs.2.1 := by kernel_rfl
def f138 (k : Nat) (a0 : Td11) (a1 : Int) : Option (Bool × Unit) := f138_entry_B k (f138_r1 k) a0 a1
theorem f138_fe (k : Nat) : f138_a k [.c (f138_p 1) 0] = f138_a k (.c (f138_p 2) 0 :: .c (f138_p 6) 0 :: .j (f138_C_r1 k) :: f138_F_r1 k) := (Eq.trans ap_sq (ap_cons _ (Eq.trans ap_sq (ap_cons _ (Eq.trans (ap_pass (C := (f138_C_r1 k)) (fun _ => rfl)) (ap_cons _ (f138_f_r1 k)))))))
theorem f138_eq (k : Nat) (xs : DL f138_sig) : den T f138_Y (f138_E k) f138_A k f138_c 0 (σ0 14 48 f138_sig xs) (Kfin T f138_rs f138_ts) = f138 k xs.1 xs.2.1 :=
  Eq.trans (Eq.trans den_sb (ap_at (f138_fe k) _)) ((f138_entry_P k (f138_C_r1 k) xs).trans (by rw [f138_r1_E k] <;> rfl))
noncomputable def f138_con (k : Nat) : Con := ⟨f138_sig, f138_rs, fun xs => f138 k xs.1 xs.2.1⟩
theorem f138_ok (k : Nat) : PureOK Try.prog 138 f138_sig f138_rs (fun xs => f138 k xs.1 xs.2.1) :=
  (pure_of_den (k := k) (A := f138_A) (T := T) (Y := f138_Y) (E := f138_E k) (M := 48) (ts := f138_ts) T_ok trivial trivial mixed (f := 138) (fn := Try.f138) (c := f138_c) (by kernel_rfl) (by kernel_rfl) (by kernel_rfl) (by decide) (by kernel_rfl)).congr fun xs => (f138_eq k xs).symm
theorem f138_ent : Ent Try.prog 138 := fun args w => by kernel_rfl
/-! ### terrier/net.Check: function 73 -/
noncomputable def f73_c : Code := Try.f73.body.getD .skip
noncomputable abbrev f73_p (n : Nat) : Code := sb f73_c n
abbrev f73_sig : List PT := [(true, Tq7)]
abbrev f73_rs : List RT := [.d false (.int .i64)]
abbrev f73_ts : List RV := [.tmp 2]
abbrev f73_S := St → Option (RDL f73_rs)
abbrev f73_L := List (Fr (RDL f73_rs))
def f73_Y : Tys := []
noncomputable def f73_E (k : Nat) : Env := [(85, .c (f85_con k)), (115, .c (f115_con k)), (116, .c (f116_con k)), (125, .c (f125_con k)), (138, .c (f138_con k))]
def f73_A : Ann := { regs := [(1, { slots := [(1, .id), (24, .bool)], keys := [(1, [.val false Tq1, .val false Tq4, .val false Tq1])] }), (14, { slots := [(1, .id), (6, .id), (44, .val false Tq4), (45, .id), (46, .id), (71, .bool)], keys := [(1, [.val false Tq1, .val false Tq4, .val false Tq1]), (6, [])] }), (22, { slots := [(1, .id), (7, .id), (8, .id), (79, .val false Tq1), (80, .id), (81, .id), (97, .bool)], keys := [(1, [.val false Tq1, .val false Tq4, .val false Tq1]), (8, [])] })], loops := [(0, { slots := [(1, .id), (26, .val false Tq1), (27, .id), (28, .id)], keys := [(1, [.val false Tq1, .val false Tq4, .val false Tq1])] }), (2, { slots := [(1, .id), (44, .val false Tq4), (45, .id), (46, .id)], keys := [(1, [.val false Tq1, .val false Tq4, .val false Tq1])] }), (4, { slots := [(1, .id), (79, .val false Tq1), (80, .id), (81, .id)], keys := [(1, [.val false Tq1, .val false Tq4, .val false Tq1])] })] }
noncomputable abbrev f73_a (k : Nat) (F : f73_L) : Kont (RDL f73_rs) := ap T f73_Y (f73_E k) f73_A k (Kfin T f73_rs f73_ts) F
def f73_s_r1 (y1_0 : (List (Int × Int))) (y1_1 : (List (Int × (Int × (Int × Int))))) (y1_2 : (List (Int × Int))) (x24 : Bool) : St := mkS 120 368 [(1, aP 1), (24, aB x24)] [(1, .box [cV Tq1 y1_0, cV Tq4 y1_1, cV Tq1 y1_2])]
abbrev f73_t_r1 := (List (Int × Int)) → (List (Int × (Int × (Int × Int)))) → (List (Int × Int)) → Bool → Option (Int × Unit)
abbrev f73_o_r1 (R : f73_S) : f73_t_r1 := (fun y1_0 y1_1 y1_2 x24 => R (f73_s_r1 y1_0 y1_1 y1_2 x24))
noncomputable def f73_Q_r1 (k : Nat) : f73_L := [.c (f73_p 13) 0, .c (f73_p 7) 0]
noncomputable def f73_C_r1 (k : Nat) : f73_S := fun σ => f73_a k (f73_Q_r1 k) .nx σ
def f73_s_l0 (y1_0 : (List (Int × Int))) (y1_1 : (List (Int × (Int × (Int × Int))))) (y1_2 : (List (Int × Int))) (x27 : Int) (x28 : Int) : St := mkS 120 368 [(1, aP 1), (26, aV Tq1 y1_0), (27, aI x27), (28, aI x28)] [(1, .box [cV Tq1 y1_0, cV Tq4 y1_1, cV Tq1 y1_2])]
abbrev f73_t_l0 := (List (Int × Int)) → (List (Int × (Int × (Int × Int)))) → (List (Int × Int)) → Int → Int → Option (Int × Unit)
abbrev f73_o_l0 (R : f73_S) : f73_t_l0 := (fun y1_0 y1_1 y1_2 x27 x28 => R (f73_s_l0 y1_0 y1_1 y1_2 x27 x28))
noncomputable def f73_Q_l0 (k : Nat) (R_l0 : f73_S) : f73_L := [.c (f73_p 116) 0, .j (fun σ => R_l0 (cut f73_A.loops 0 σ)), .blk 0, .c (f73_p 15) 0]
noncomputable def f73_C_l0 (k : Nat) (n : Nat) (σ : St) : Option (RDL f73_rs) := loopK (fun σ K => den T f73_Y (f73_E k) f73_A k (f73_p 116) 0 σ K) (cut f73_A.loops 0) (f73_a k [.blk 0, .c (f73_p 15) 0]) n σ
def f73_s_l2 (y1_0 : (List (Int × Int))) (y1_1 : (List (Int × (Int × (Int × Int))))) (y1_2 : (List (Int × Int))) (x45 : Int) (x46 : Int) : St := mkS 120 368 [(1, aP 1), (44, aV Tq4 y1_1), (45, aI x45), (46, aI x46)] [(1, .box [cV Tq1 y1_0, cV Tq4 y1_1, cV Tq1 y1_2])]
abbrev f73_t_l2 := (List (Int × Int)) → (List (Int × (Int × (Int × Int)))) → (List (Int × Int)) → Int → Int → Option (Int × Unit)
abbrev f73_o_l2 (R : f73_S) : f73_t_l2 := (fun y1_0 y1_1 y1_2 x45 x46 => R (f73_s_l2 y1_0 y1_1 y1_2 x45 x46))
noncomputable def f73_Q_l2 (k : Nat) (R_l2 : f73_S) : f73_L := [.c (f73_p 244) 2, .j (fun σ => R_l2 (cut f73_A.loops 2 σ)), .blk 2, .c (f73_p 31) 0]
noncomputable def f73_C_l2 (k : Nat) (n : Nat) (σ : St) : Option (RDL f73_rs) := loopK (fun σ K => den T f73_Y (f73_E k) f73_A k (f73_p 244) 2 σ K) (cut f73_A.loops 2) (f73_a k [.blk 2, .c (f73_p 31) 0]) n σ
def f73_s_r14 (y1_0 : (List (Int × Int))) (y1_1 : (List (Int × (Int × (Int × Int))))) (y1_2 : (List (Int × Int))) (y6_0 : Int) (y6_1 : Int) (y6_2 : Int) (y6_3 : Int) (x45 : Int) (x46 : Int) (x71 : Bool) : St := mkS 120 368 [(1, aP 1), (6, aP 6), (44, aV Tq4 y1_1), (45, aI x45), (46, aI x46), (71, aB x71)] [(1, .box [cV Tq1 y1_0, cV Tq4 y1_1, cV Tq1 y1_2]), (6, .box [cI y6_0, cI y6_1, cI y6_2, cI y6_3])]
abbrev f73_t_r14 := (List (Int × Int)) → (List (Int × (Int × (Int × Int)))) → (List (Int × Int)) → Int → Int → Int → Int → Int → Int → Bool → Option (Int × Unit)
abbrev f73_o_r14 (R : f73_S) : f73_t_r14 := (fun y1_0 y1_1 y1_2 y6_0 y6_1 y6_2 y6_3 x45 x46 x71 => R (f73_s_r14 y1_0 y1_1 y1_2 y6_0 y6_1 y6_2 y6_3 x45 x46 x71))
noncomputable def f73_Q_r14 (k : Nat) (R_l2 : f73_S) : f73_L := [.c (f73_p 31333) 3, .c (f73_p 15667) 3, .blk 3, .c (f73_p 1959) 2, .j (fun σ => R_l2 (cut f73_A.loops 2 σ)), .blk 2, .c (f73_p 31) 0]
noncomputable def f73_C_r14 (k : Nat) (R_l2 : f73_S) : f73_S := fun σ => f73_a k (f73_Q_r14 k R_l2) .nx σ
def f73_s_l4 (y1_0 : (List (Int × Int))) (y1_1 : (List (Int × (Int × (Int × Int))))) (y1_2 : (List (Int × Int))) (x80 : Int) (x81 : Int) : St := mkS 120 368 [(1, aP 1), (79, aV Tq1 y1_2), (80, aI x80), (81, aI x81)] [(1, .box [cV Tq1 y1_0, cV Tq4 y1_1, cV Tq1 y1_2])]
abbrev f73_t_l4 := (List (Int × Int)) → (List (Int × (Int × (Int × Int)))) → (List (Int × Int)) → Int → Int → Option (Int × Unit)
abbrev f73_o_l4 (R : f73_S) : f73_t_l4 := (fun y1_0 y1_1 y1_2 x80 x81 => R (f73_s_l4 y1_0 y1_1 y1_2 x80 x81))
noncomputable def f73_Q_l4 (k : Nat) (R_l4 : f73_S) : f73_L := [.c (f73_p 500) 4, .j (fun σ => R_l4 (cut f73_A.loops 4 σ)), .blk 4, .c (f73_p 63) 0]
noncomputable def f73_C_l4 (k : Nat) (n : Nat) (σ : St) : Option (RDL f73_rs) := loopK (fun σ K => den T f73_Y (f73_E k) f73_A k (f73_p 500) 4 σ K) (cut f73_A.loops 4) (f73_a k [.blk 4, .c (f73_p 63) 0]) n σ
def f73_s_r22 (y1_0 : (List (Int × Int))) (y1_1 : (List (Int × (Int × (Int × Int))))) (y1_2 : (List (Int × Int))) (y8_0 : Int) (y8_1 : Int) (x7 : Int) (x80 : Int) (x97 : Bool) : St := mkS 120 368 [(1, aP 1), (7, aI x7), (8, aP 8), (79, aV Tq1 y1_2), (80, aI x80), (81, aI x7), (97, aB x97)] [(1, .box [cV Tq1 y1_0, cV Tq4 y1_1, cV Tq1 y1_2]), (8, .box [cI y8_0, cI y8_1])]
abbrev f73_t_r22 := (List (Int × Int)) → (List (Int × (Int × (Int × Int)))) → (List (Int × Int)) → Int → Int → Int → Int → Bool → Option (Int × Unit)
abbrev f73_o_r22 (R : f73_S) : f73_t_r22 := (fun y1_0 y1_1 y1_2 y8_0 y8_1 x7 x80 x97 => R (f73_s_r22 y1_0 y1_1 y1_2 y8_0 y8_1 x7 x80 x97))
noncomputable def f73_Q_r22 (k : Nat) (R_l4 : f73_S) : f73_L := [.c (f73_p 64101) 5, .c (f73_p 32051) 5, .blk 5, .c (f73_p 4007) 4, .j (fun σ => R_l4 (cut f73_A.loops 4 σ)), .blk 4, .c (f73_p 63) 0]
noncomputable def f73_C_r22 (k : Nat) (R_l4 : f73_S) : f73_S := fun σ => f73_a k (f73_Q_r22 k R_l4) .nx σ
noncomputable def f73_F_r1 (k : Nat) (G_l0 G_l2 G_l4 : f73_S) : f73_L := .c (f73_p 13) 0 :: .c (f73_p 28) 0 :: .j (fun σ => f73_a k (.j (fun σ => G_l0 (cut f73_A.loops 0 σ)) :: .blk 0 :: .c (f73_p 60) 0 :: .j (fun σ => f73_a k (.j (fun σ => G_l2 (cut f73_A.loops 2 σ)) :: .blk 2 :: .c (f73_p 124) 0 :: .j (fun σ => f73_a k (.j (fun σ => G_l4 (cut f73_A.loops 4 σ)) :: .blk 4 :: .c (f73_p 63) 0 :: []) .nx σ) :: .c (f73_p 63) 0 :: []) .nx σ) :: .c (f73_p 124) 0 :: .j (fun σ => f73_a k (.j (fun σ => G_l4 (cut f73_A.loops 4 σ)) :: .blk 4 :: .c (f73_p 63) 0 :: []) .nx σ) :: .c (f73_p 63) 0 :: []) .nx σ) :: .c (f73_p 60) 0 :: .j (fun σ => f73_a k (.j (fun σ => G_l2 (cut f73_A.loops 2 σ)) :: .blk 2 :: .c (f73_p 124) 0 :: .j (fun σ => f73_a k (.j (fun σ => G_l4 (cut f73_A.loops 4 σ)) :: .blk 4 :: .c (f73_p 63) 0 :: []) .nx σ) :: .c (f73_p 63) 0 :: []) .nx σ) :: .c (f73_p 124) 0 :: .j (fun σ => f73_a k (.j (fun σ => G_l4 (cut f73_A.loops 4 σ)) :: .blk 4 :: .c (f73_p 63) 0 :: []) .nx σ) :: .c (f73_p 63) 0 :: []
theorem f73_f_r1 (k : Nat) : f73_a k (f73_Q_r1 k) = f73_a k (f73_F_r1 k (f73_C_l0 k k) (f73_C_l2 k k) (f73_C_l4 k k)) := (ap_cons _ (Eq.trans ap_sq (Eq.trans ap_sq (ap_cons _ (Eq.trans (ap_bl 0) (Eq.trans (ap_j (Eq.trans (ap_lp (C := (f73_C_l0 k)) (fun _ _ => rfl)) (ap_cons _ (ap_cons _ (Eq.trans ap_sq (Eq.trans ap_sq (ap_cons _ (Eq.trans (ap_bl 2) (Eq.trans (ap_j (Eq.trans (ap_lp (C := (f73_C_l2 k)) (fun _ _ => rfl)) (ap_cons _ (ap_cons _ (Eq.trans ap_sq (Eq.trans ap_sq (ap_cons _ (Eq.trans (ap_bl 4) (Eq.trans (ap_j (Eq.trans (ap_lp (C := (f73_C_l4 k)) (fun _ _ => rfl)) (ap_cons _ (ap_cons _ (ap_cons _ rfl))))) (ap_cons _ (ap_cons _ rfl))))))))))) (ap_cons _ (Eq.trans ap_sq (Eq.trans ap_sq (ap_cons _ (Eq.trans (ap_bl 4) (Eq.trans (ap_j (Eq.trans (ap_lp (C := (f73_C_l4 k)) (fun _ _ => rfl)) (ap_cons _ (ap_cons _ (ap_cons _ rfl))))) (ap_cons _ (ap_cons _ rfl))))))))))))))))) (ap_cons _ (Eq.trans ap_sq (Eq.trans ap_sq (ap_cons _ (Eq.trans (ap_bl 2) (Eq.trans (ap_j (Eq.trans (ap_lp (C := (f73_C_l2 k)) (fun _ _ => rfl)) (ap_cons _ (ap_cons _ (Eq.trans ap_sq (Eq.trans ap_sq (ap_cons _ (Eq.trans (ap_bl 4) (Eq.trans (ap_j (Eq.trans (ap_lp (C := (f73_C_l4 k)) (fun _ _ => rfl)) (ap_cons _ (ap_cons _ (ap_cons _ rfl))))) (ap_cons _ (ap_cons _ rfl))))))))))) (ap_cons _ (Eq.trans ap_sq (Eq.trans ap_sq (ap_cons _ (Eq.trans (ap_bl 4) (Eq.trans (ap_j (Eq.trans (ap_lp (C := (f73_C_l4 k)) (fun _ _ => rfl)) (ap_cons _ (ap_cons _ (ap_cons _ rfl))))) (ap_cons _ (ap_cons _ rfl))))))))))))))))))))
noncomputable def f73_F_l0 (k : Nat) (G_l0 G_l2 G_l4 : f73_S) : f73_L := .c (f73_p 116) 0 :: .j (fun σ => G_l0 (cut f73_A.loops 0 σ)) :: .blk 0 :: .c (f73_p 60) 0 :: .j (fun σ => f73_a k (.j (fun σ => G_l2 (cut f73_A.loops 2 σ)) :: .blk 2 :: .c (f73_p 124) 0 :: .j (fun σ => f73_a k (.j (fun σ => G_l4 (cut f73_A.loops 4 σ)) :: .blk 4 :: .c (f73_p 63) 0 :: []) .nx σ) :: .c (f73_p 63) 0 :: []) .nx σ) :: .c (f73_p 124) 0 :: .j (fun σ => f73_a k (.j (fun σ => G_l4 (cut f73_A.loops 4 σ)) :: .blk 4 :: .c (f73_p 63) 0 :: []) .nx σ) :: .c (f73_p 63) 0 :: []
theorem f73_f_l0 (k : Nat) (R_l0 : f73_S) : f73_a k (f73_Q_l0 k R_l0) = f73_a k (f73_F_l0 k R_l0 (f73_C_l2 k k) (f73_C_l4 k k)) := (ap_cons _ (ap_cons _ (ap_cons _ (Eq.trans ap_sq (Eq.trans ap_sq (ap_cons _ (Eq.trans (ap_bl 2) (Eq.trans (ap_j (Eq.trans (ap_lp (C := (f73_C_l2 k)) (fun _ _ => rfl)) (ap_cons _ (ap_cons _ (Eq.trans ap_sq (Eq.trans ap_sq (ap_cons _ (Eq.trans (ap_bl 4) (Eq.trans (ap_j (Eq.trans (ap_lp (C := (f73_C_l4 k)) (fun _ _ => rfl)) (ap_cons _ (ap_cons _ (ap_cons _ rfl))))) (ap_cons _ (ap_cons _ rfl))))))))))) (ap_cons _ (Eq.trans ap_sq (Eq.trans ap_sq (ap_cons _ (Eq.trans (ap_bl 4) (Eq.trans (ap_j (Eq.trans (ap_lp (C := (f73_C_l4 k)) (fun _ _ => rfl)) (ap_cons _ (ap_cons _ (ap_cons _ rfl))))) (ap_cons _ (ap_cons _ rfl))))))))))))))))
noncomputable def f73_F_r14 (k : Nat) (G_l2 G_l4 : f73_S) : f73_L := .c (f73_p 31333) 3 :: .c (f73_p 15667) 3 :: .blk 3 :: .c (f73_p 1959) 2 :: .j (fun σ => G_l2 (cut f73_A.loops 2 σ)) :: .blk 2 :: .c (f73_p 124) 0 :: .j (fun σ => f73_a k (.j (fun σ => G_l4 (cut f73_A.loops 4 σ)) :: .blk 4 :: .c (f73_p 63) 0 :: []) .nx σ) :: .c (f73_p 63) 0 :: []
theorem f73_f_r14 (k : Nat) (R_l2 : f73_S) : f73_a k (f73_Q_r14 k R_l2) = f73_a k (f73_F_r14 k R_l2 (f73_C_l4 k k)) := (ap_cons _ (ap_cons _ (ap_cons _ (ap_cons _ (ap_cons _ (ap_cons _ (Eq.trans ap_sq (Eq.trans ap_sq (ap_cons _ (Eq.trans (ap_bl 4) (Eq.trans (ap_j (Eq.trans (ap_lp (C := (f73_C_l4 k)) (fun _ _ => rfl)) (ap_cons _ (ap_cons _ (ap_cons _ rfl))))) (ap_cons _ (ap_cons _ rfl)))))))))))))
noncomputable def f73_F_l2 (k : Nat) (G_l2 G_r14 G_l4 : f73_S) : f73_L := .c (f73_p 488) 2 :: .c (f73_p 978) 2 :: .j (fun σ => f73_a k (.c (f73_p 7832) 3 :: .c (f73_p 31332) 3 :: .j G_r14 :: f73_F_r14 k G_l2 G_l4) .nx σ) :: .c (f73_p 1959) 2 :: .j (fun σ => G_l2 (cut f73_A.loops 2 σ)) :: .blk 2 :: .c (f73_p 124) 0 :: .j (fun σ => f73_a k (.j (fun σ => G_l4 (cut f73_A.loops 4 σ)) :: .blk 4 :: .c (f73_p 63) 0 :: []) .nx σ) :: .c (f73_p 63) 0 :: []
theorem f73_f_l2 (k : Nat) (R_l2 : f73_S) : f73_a k (f73_Q_l2 k R_l2) = f73_a k (f73_F_l2 k R_l2 (f73_C_r14 k R_l2) (f73_C_l4 k k)) := (Eq.trans ap_sq (ap_cons _ (Eq.trans ap_sq (ap_cons _ (Eq.trans ap_sq (Eq.trans (ap_bl 3) (Eq.trans (ap_j (Eq.trans ap_sq (ap_cons _ (Eq.trans ap_sq (Eq.trans ap_sq (ap_cons _ (Eq.trans (ap_pass (C := (f73_C_r14 k R_l2)) (fun _ => rfl)) (ap_cons _ (f73_f_r14 k R_l2))))))))) (ap_cons _ (ap_cons _ (ap_cons _ (ap_cons _ (Eq.trans ap_sq (Eq.trans ap_sq (ap_cons _ (Eq.trans (ap_bl 4) (Eq.trans (ap_j (Eq.trans (ap_lp (C := (f73_C_l4 k)) (fun _ _ => rfl)) (ap_cons _ (ap_cons _ (ap_cons _ rfl))))) (ap_cons _ (ap_cons _ rfl))))))))))))))))))
noncomputable def f73_F_r22 (k : Nat) (G_l4 : f73_S) : f73_L := .c (f73_p 64101) 5 :: .c (f73_p 32051) 5 :: .blk 5 :: .c (f73_p 4007) 4 :: .j (fun σ => G_l4 (cut f73_A.loops 4 σ)) :: .blk 4 :: .c (f73_p 63) 0 :: []
theorem f73_f_r22 (k : Nat) (R_l4 : f73_S) : f73_a k (f73_Q_r22 k R_l4) = f73_a k (f73_F_r22 k R_l4) := (ap_cons _ (ap_cons _ (ap_cons _ (ap_cons _ (ap_cons _ (ap_cons _ (ap_cons _ rfl)))))))
noncomputable def f73_F_l4 (k : Nat) (G_l4 G_r22 : f73_S) : f73_L := .c (f73_p 1000) 4 :: .c (f73_p 2002) 4 :: .j (fun σ => f73_a k (.c (f73_p 16024) 5 :: .c (f73_p 64100) 5 :: .j G_r22 :: f73_F_r22 k G_l4) .nx σ) :: .c (f73_p 4007) 4 :: .j (fun σ => G_l4 (cut f73_A.loops 4 σ)) :: .blk 4 :: .c (f73_p 63) 0 :: []
theorem f73_f_l4 (k : Nat) (R_l4 : f73_S) : f73_a k (f73_Q_l4 k R_l4) = f73_a k (f73_F_l4 k R_l4 (f73_C_r22 k R_l4)) := (Eq.trans ap_sq (ap_cons _ (Eq.trans ap_sq (ap_cons _ (Eq.trans ap_sq (Eq.trans (ap_bl 5) (Eq.trans (ap_j (Eq.trans ap_sq (ap_cons _ (Eq.trans ap_sq (Eq.trans ap_sq (ap_cons _ (Eq.trans (ap_pass (C := (f73_C_r22 k R_l4)) (fun _ => rfl)) (ap_cons _ (f73_f_r22 k R_l4))))))))) (ap_cons _ (ap_cons _ (ap_cons _ (ap_cons _ (ap_cons _ rfl))))))))))))
def f73_entry_B (k : Nat) (g_r1 : f73_t_r1) (a0 : Td11) : Option (Int × Unit) := (if 200 < (a0.1.length : Int) then (g_r1 a0.1 a0.2.1 a0.2.2 true) else (if 600 < (a0.2.1.length : Int) then (g_r1 a0.1 a0.2.1 a0.2.2 true) else (g_r1 a0.1 a0.2.1 a0.2.2 (decide (600 < (a0.2.2.length : Int))))))
def f73_r1_B (k : Nat) (g_l0 : f73_t_l0) (y1_0 : (List (Int × Int))) (y1_1 : (List (Int × (Int × (Int × Int))))) (y1_2 : (List (Int × Int))) (x24 : Bool) : Option (Int × Unit) := (if x24 = true then some (2, ()) else (g_l0 y1_0 y1_1 y1_2 (y1_0.length : Int) 0))
def f73_l0_B (k : Nat) (g_l0 : f73_t_l0) (g_l2 : f73_t_l2) (y1_0 : (List (Int × Int))) (y1_1 : (List (Int × (Int × (Int × Int))))) (y1_2 : (List (Int × Int))) (x27 : Int) (x28 : Int) : Option (Int × Unit) := (if x28 < x27 then (if 0 ≤ x28 then (if x28 < (y1_0.length : Int) then ((f85 k ((y1_0.getD (x28).toNat (0, 0)).1, (y1_0.getD (x28).toNat (0, 0)).2)).bind fun r1 => (if ¬ (r1.1 = true) then some (1, ()) else (if 0 ≤ x28 then (if x28 ≤ (y1_0.length : Int) then ((f125 k (y1_0.take (x28).toNat) ((y1_0.getD (x28).toNat (0, 0)).1, (y1_0.getD (x28).toNat (0, 0)).2)).bind fun r2 => (if r2.1 = true then some (5, ()) else (g_l0 y1_0 y1_1 y1_2 x27 (w64 (x28 + 1))))) else none) else none))) else none) else none) else (g_l2 y1_0 y1_1 y1_2 (y1_1.length : Int) 0))
def f73_l2_B (k : Nat) (g_r14 : f73_t_r14) (g_l4 : f73_t_l4) (y1_0 : (List (Int × Int))) (y1_1 : (List (Int × (Int × (Int × Int))))) (y1_2 : (List (Int × Int))) (x45 : Int) (x46 : Int) : Option (Int × Unit) := (if x46 < x45 then (if 0 ≤ x46 then (if x46 < (y1_1.length : Int) then ((f138 k (y1_0, (y1_1, y1_2)) ((y1_1.getD (x46).toNat (0, (0, (0, 0)))).1)).bind fun r1 => (if ¬ (r1.1 = true) then (g_r14 y1_0 y1_1 y1_2 ((y1_1.getD (x46).toNat (0, (0, (0, 0)))).1) (((y1_1.getD (x46).toNat (0, (0, (0, 0)))).2).1) ((((y1_1.getD (x46).toNat (0, (0, (0, 0)))).2).2).1) ((((y1_1.getD (x46).toNat (0, (0, (0, 0)))).2).2).2) x45 x46 true) else ((f138 k (y1_0, (y1_1, y1_2)) (((y1_1.getD (x46).toNat (0, (0, (0, 0)))).2).1)).bind fun r2 => (if ¬ (r2.1 = true) then (g_r14 y1_0 y1_1 y1_2 ((y1_1.getD (x46).toNat (0, (0, (0, 0)))).1) (((y1_1.getD (x46).toNat (0, (0, (0, 0)))).2).1) ((((y1_1.getD (x46).toNat (0, (0, (0, 0)))).2).2).1) ((((y1_1.getD (x46).toNat (0, (0, (0, 0)))).2).2).2) x45 x46 true) else (if ((((y1_1.getD (x46).toNat (0, (0, (0, 0)))).2).2).1) < 0 then (g_r14 y1_0 y1_1 y1_2 ((y1_1.getD (x46).toNat (0, (0, (0, 0)))).1) (((y1_1.getD (x46).toNat (0, (0, (0, 0)))).2).1) ((((y1_1.getD (x46).toNat (0, (0, (0, 0)))).2).2).1) ((((y1_1.getD (x46).toNat (0, (0, (0, 0)))).2).2).2) x45 x46 true) else (g_r14 y1_0 y1_1 y1_2 ((y1_1.getD (x46).toNat (0, (0, (0, 0)))).1) (((y1_1.getD (x46).toNat (0, (0, (0, 0)))).2).1) ((((y1_1.getD (x46).toNat (0, (0, (0, 0)))).2).2).1) ((((y1_1.getD (x46).toNat (0, (0, (0, 0)))).2).2).2) x45 x46 (decide (1099511627776 < ((((y1_1.getD (x46).toNat (0, (0, (0, 0)))).2).2).1))))))))) else none) else none) else (g_l4 y1_0 y1_1 y1_2 (y1_2.length : Int) 0))
def f73_r14_B (k : Nat) (g_l2 : f73_t_l2) (y1_0 : (List (Int × Int))) (y1_1 : (List (Int × (Int × (Int × Int))))) (y1_2 : (List (Int × Int))) (y6_0 : Int) (y6_1 : Int) (y6_2 : Int) (y6_3 : Int) (x45 : Int) (x46 : Int) (x71 : Bool) : Option (Int × Unit) := (if x71 = true then some (1, ()) else (if y6_0 = y6_1 then some (11, ()) else (g_l2 y1_0 y1_1 y1_2 x45 (w64 (x46 + 1)))))
def f73_l4_B (k : Nat) (g_r22 : f73_t_r22) (y1_0 : (List (Int × Int))) (y1_1 : (List (Int × (Int × (Int × Int))))) (y1_2 : (List (Int × Int))) (x80 : Int) (x81 : Int) : Option (Int × Unit) := (if x81 < x80 then (if 0 ≤ x81 then (if x81 < (y1_2.length : Int) then ((f116 k (y1_0, (y1_1, y1_2)) ((y1_2.getD (x81).toNat (0, 0)).1)).bind fun r1 => (if ¬ (r1.1 = true) then (g_r22 y1_0 y1_1 y1_2 ((y1_2.getD (x81).toNat (0, 0)).1) ((y1_2.getD (x81).toNat (0, 0)).2) x81 x80 true) else ((f116 k (y1_0, (y1_1, y1_2)) ((y1_2.getD (x81).toNat (0, 0)).2)).bind fun r2 => (g_r22 y1_0 y1_1 y1_2 ((y1_2.getD (x81).toNat (0, 0)).1) ((y1_2.getD (x81).toNat (0, 0)).2) x81 x80 (decide (¬ (r2.1 = true))))))) else none) else none) else some (0, ()))
def f73_r22_B (k : Nat) (g_l4 : f73_t_l4) (y1_0 : (List (Int × Int))) (y1_1 : (List (Int × (Int × (Int × Int))))) (y1_2 : (List (Int × Int))) (y8_0 : Int) (y8_1 : Int) (x7 : Int) (x80 : Int) (x97 : Bool) : Option (Int × Unit) := (if x97 = true then some (1, ()) else (if 0 ≤ y8_0 then (if y8_0 < (y1_1.length : Int) then (if 0 ≤ y8_1 then (if y8_1 < (y1_1.length : Int) then (if ¬ ((((y1_1.getD (y8_0).toNat (0, (0, (0, 0)))).2).1) = ((y1_1.getD (y8_1).toNat (0, (0, (0, 0)))).1)) then some (9, ()) else (if 0 ≤ x7 then (if x7 ≤ (y1_2.length : Int) then ((f115 k (y1_2.take (x7).toNat) (y8_0, y8_1)).bind fun r1 => (if r1.1 = true then some (5, ()) else (g_l4 y1_0 y1_1 y1_2 x80 (w64 (x7 + 1))))) else none) else none)) else none) else none) else none) else none))
theorem f73_r14_P (k : Nat) (G_l2 G_l4 : f73_S) : f73_o_r14 (fun σ => f73_a k (f73_F_r14 k G_l2 G_l4) .nx σ) = f73_r14_B k (f73_o_l2 G_l2) := by kernel_rfl
def f73_r14 (k : Nat) (r_l2 : f73_t_l2) : f73_t_r14 := f73_r14_B k r_l2
theorem f73_r14_E (k : Nat) (R_l2 : f73_S) : f73_o_r14 (f73_C_r14 k R_l2) = f73_r14 k (f73_o_l2 R_l2) :=
  Eq.trans (congrArg f73_o_r14 (ap_fn (f73_f_r14 k R_l2))) ((f73_r14_P k R_l2 (f73_C_l4 k k)).trans (by rfl))
theorem f73_r22_P (k : Nat) (G_l4 : f73_S) : f73_o_r22 (fun σ => f73_a k (f73_F_r22 k G_l4) .nx σ) = f73_r22_B k (f73_o_l4 G_l4) := by kernel_rfl
def f73_r22 (k : Nat) (r_l4 : f73_t_l4) : f73_t_r22 := f73_r22_B k r_l4
theorem f73_r22_E (k : Nat) (R_l4 : f73_S) : f73_o_r22 (f73_C_r22 k R_l4) = f73_r22 k (f73_o_l4 R_l4) :=
  Eq.trans (congrArg f73_o_r22 (ap_fn (f73_f_r22 k R_l4))) ((f73_r22_P k R_l4).trans (by rfl))
theorem f73_l4_P (k : Nat) (G_l4 G_r22 : f73_S) : f73_o_l4 (fun σ => f73_a k (f73_F_l4 k G_l4 G_r22) .nx σ) = f73_l4_B k (f73_o_r22 G_r22) := by kernel_rfl
def f73_l4 (k : Nat) : Nat → f73_t_l4
  | 0 => fun _ _ _ _ _ => none
  | n + 1 => f73_l4_B k (f73_r22 k (f73_l4 k n))
theorem f73_l4_E (k : Nat) : ∀ n, f73_o_l4 (f73_C_l4 k n) = f73_l4 k n
  | 0 => rfl
  | n + 1 =>
    Eq.trans (congrArg f73_o_l4 (Eq.trans (b := fun σ => f73_a k (f73_Q_l4 k (f73_C_l4 k n)) .nx σ) (by kernel_rfl) (ap_fn (f73_f_l4 k (f73_C_l4 k n))))) ((f73_l4_P k (f73_C_l4 k n) (f73_C_r22 k (f73_C_l4 k n))).trans (by rw [f73_r22_E k (f73_C_l4 k n), f73_l4_E k n] <;> rfl))
theorem f73_l2_P (k : Nat) (G_l2 G_r14 G_l4 : f73_S) : f73_o_l2 (fun σ => f73_a k (f73_F_l2 k G_l2 G_r14 G_l4) .nx σ) = f73_l2_B k (f73_o_r14 G_r14) (f73_o_l4 G_l4) := by kernel_rfl
def f73_l2 (k : Nat) : Nat → f73_t_l2
  | 0 => fun _ _ _ _ _ => none
  | n + 1 => f73_l2_B k (f73_r14 k (f73_l2 k n)) (f73_l4 k k)
theorem f73_l2_E (k : Nat) : ∀ n, f73_o_l2 (f73_C_l2 k n) = f73_l2 k n
  | 0 => rfl
  | n + 1 =>
    Eq.trans (congrArg f73_o_l2 (Eq.trans (b := fun σ => f73_a k (f73_Q_l2 k (f73_C_l2 k n)) .nx σ) (by kernel_rfl) (ap_fn (f73_f_l2 k (f73_C_l2 k n))))) ((f73_l2_P k (f73_C_l2 k n) (f73_C_r14 k (f73_C_l2 k n)) (f73_C_l4 k k)).trans (by rw [f73_r14_E k (f73_C_l2 k n), f73_l4_E k k, f73_l2_E k n] <;> rfl))
theorem f73_l0_P (k : Nat) (G_l0 G_l2 G_l4 : f73_S) : f73_o_l0 (fun σ => f73_a k (f73_F_l0 k G_l0 G_l2 G_l4) .nx σ) = f73_l0_B k (f73_o_l0 G_l0) (f73_o_l2 G_l2) := by kernel_rfl
def f73_l0 (k : Nat) : Nat → f73_t_l0
  | 0 => fun _ _ _ _ _ => none
  | n + 1 => f73_l0_B k (f73_l0 k n) (f73_l2 k k)
theorem f73_l0_E (k : Nat) : ∀ n, f73_o_l0 (f73_C_l0 k n) = f73_l0 k n
  | 0 => rfl
  | n + 1 =>
    Eq.trans (congrArg f73_o_l0 (Eq.trans (b := fun σ => f73_a k (f73_Q_l0 k (f73_C_l0 k n)) .nx σ) (by kernel_rfl) (ap_fn (f73_f_l0 k (f73_C_l0 k n))))) ((f73_l0_P k (f73_C_l0 k n) (f73_C_l2 k k) (f73_C_l4 k k)).trans (by rw [f73_l2_E k k, f73_l0_E k n] <;> rfl))
theorem f73_r1_P (k : Nat) (G_l0 G_l2 G_l4 : f73_S) : f73_o_r1 (fun σ => f73_a k (f73_F_r1 k G_l0 G_l2 G_l4) .nx σ) = f73_r1_B k (f73_o_l0 G_l0) := by kernel_rfl
def f73_r1 (k : Nat) : f73_t_r1 := f73_r1_B k (f73_l0 k k)
theorem f73_r1_E (k : Nat) : f73_o_r1 (f73_C_r1 k) = f73_r1 k :=
  Eq.trans (congrArg f73_o_r1 (ap_fn (f73_f_r1 k))) ((f73_r1_P k (f73_C_l0 k k) (f73_C_l2 k k) (f73_C_l4 k k)).trans (by rw [f73_l0_E k k] <;> rfl))
theorem f73_entry_P (k : Nat) (G_r1 G_l0 G_l2 G_l4 : f73_S) (xs : DL f73_sig) : f73_a k (.c (f73_p 2) 0 :: .c (f73_p 12) 0 :: .j G_r1 :: f73_F_r1 k G_l0 G_l2 G_l4) .nx (σ0 120 368 f73_sig xs) = f73_entry_B k (f73_o_r1 G_r1) xs.1 := by kernel_rfl
def f73 (k : Nat) (a0 : Td11) : Option (Int × Unit) := f73_entry_B k (f73_r1 k) a0
theorem f73_fe (k : Nat) : f73_a k [.c (f73_p 1) 0] = f73_a k (.c (f73_p 2) 0 :: .c (f73_p 12) 0 :: .j (f73_C_r1 k) :: f73_F_r1 k (f73_C_l0 k k) (f73_C_l2 k k) (f73_C_l4 k k)) := (Eq.trans ap_sq (ap_cons _ (Eq.trans ap_sq (Eq.trans ap_sq (ap_cons _ (Eq.trans (ap_pass (C := (f73_C_r1 k)) (fun _ => rfl)) (ap_cons _ (f73_f_r1 k))))))))
theorem f73_eq (k : Nat) (xs : DL f73_sig) : den T f73_Y (f73_E k) f73_A k f73_c 0 (σ0 120 368 f73_sig xs) (Kfin T f73_rs f73_ts) = f73 k xs.1 :=
  Eq.trans (Eq.trans den_sb (ap_at (f73_fe k) _)) ((f73_entry_P k (f73_C_r1 k) (f73_C_l0 k k) (f73_C_l2 k k) (f73_C_l4 k k) xs).trans (by rw [f73_r1_E k] <;> rfl))
noncomputable def f73_con (k : Nat) : Con := ⟨f73_sig, f73_rs, fun xs => f73 k xs.1⟩
theorem f73_ok (k : Nat) : PureOK Try.prog 73 f73_sig f73_rs (fun xs => f73 k xs.1) :=
  (pure_of_den (k := k) (A := f73_A) (T := T) (Y := f73_Y) (E := f73_E k) (M := 368) (ts := f73_ts) T_ok ⟨f85_ok k, f115_ok k, f116_ok k, f125_ok k, f138_ok k, trivial⟩ ⟨f85_ent, f115_ent, f116_ent, f125_ent, f138_ent, trivial⟩ mixed (f := 73) (fn := Try.f73) (c := f73_c) (by kernel_rfl) (by kernel_rfl) (by kernel_rfl) (by decide) (by kernel_rfl)).congr fun xs => (f73_eq k xs).symm
theorem f73_ent : Ent Try.prog 73 := fun args w => by kernel_rfl
/-! ### terrier/route.valid: function 96 -/
noncomputable def f96_c : Code := Try.f96.body.getD .skip
noncomputable abbrev f96_p (n : Nat) : Code := sb f96_c n
abbrev f96_sig : List PT := [(true, Tq7), (false, Tq0)]
abbrev f96_rs : List RT := [.d false (.int .i64)]
abbrev f96_ts : List RV := [.tmp 4]
abbrev f96_S := St → Option (RDL f96_rs)
abbrev f96_L := List (Fr (RDL f96_rs))
def f96_Y : Tys := []
noncomputable def f96_E (k : Nat) : Env := [(73, .c (f73_con k))]
def f96_A : Ann := { loops := [(0, { slots := [(2, .id), (13, .val false (.int .i64)), (14, .id), (15, .id)], keys := [(2, [.val false Tq1, .val false Tq4, .val false Tq1])] })], regs := [(7, { slots := [(2, .id), (13, .val false (.int .i64)), (14, .id), (15, .id), (27, .bool)], keys := [(2, [.val false Tq1, .val false Tq4, .val false Tq1])] })] }
noncomputable abbrev f96_a (k : Nat) (F : f96_L) : Kont (RDL f96_rs) := ap T f96_Y (f96_E k) f96_A k (Kfin T f96_rs f96_ts) F
def f96_s_l0 (y2_0 : (List (Int × Int))) (y2_1 : (List (Int × (Int × (Int × Int))))) (y2_2 : (List (Int × Int))) (x13 : (List Int)) (x14 : Int) (x15 : Int) : St := mkS 29 96 [(2, aP 2), (13, aV (.int .i64) x13), (14, aI x14), (15, aI x15)] [(2, .box [cV Tq1 y2_0, cV Tq4 y2_1, cV Tq1 y2_2])]
abbrev f96_t_l0 := (List (Int × Int)) → (List (Int × (Int × (Int × Int)))) → (List (Int × Int)) → (List Int) → Int → Int → Option (Int × Unit)
abbrev f96_o_l0 (R : f96_S) : f96_t_l0 := (fun y2_0 y2_1 y2_2 x13 x14 x15 => R (f96_s_l0 y2_0 y2_1 y2_2 x13 x14 x15))
noncomputable def f96_Q_l0 (k : Nat) (R_l0 : f96_S) : f96_L := [.c (f96_p 116) 0, .j (fun σ => R_l0 (cut f96_A.loops 0 σ)), .blk 0, .c (f96_p 15) 0]
noncomputable def f96_C_l0 (k : Nat) (n : Nat) (σ : St) : Option (RDL f96_rs) := loopK (fun σ K => den T f96_Y (f96_E k) f96_A k (f96_p 116) 0 σ K) (cut f96_A.loops 0) (f96_a k [.blk 0, .c (f96_p 15) 0]) n σ
def f96_s_r7 (y2_0 : (List (Int × Int))) (y2_1 : (List (Int × (Int × (Int × Int))))) (y2_2 : (List (Int × Int))) (x13 : (List Int)) (x14 : Int) (x15 : Int) (x27 : Bool) : St := mkS 29 96 [(2, aP 2), (13, aV (.int .i64) x13), (14, aI x14), (15, aI x15), (27, aB x27)] [(2, .box [cV Tq1 y2_0, cV Tq4 y2_1, cV Tq1 y2_2])]
abbrev f96_t_r7 := (List (Int × Int)) → (List (Int × (Int × (Int × Int)))) → (List (Int × Int)) → (List Int) → Int → Int → Bool → Option (Int × Unit)
abbrev f96_o_r7 (R : f96_S) : f96_t_r7 := (fun y2_0 y2_1 y2_2 x13 x14 x15 x27 => R (f96_s_r7 y2_0 y2_1 y2_2 x13 x14 x15 x27))
noncomputable def f96_Q_r7 (k : Nat) (R_l0 : f96_S) : f96_L := [.c (f96_p 7475) 1, .blk 1, .c (f96_p 935) 0, .j (fun σ => R_l0 (cut f96_A.loops 0 σ)), .blk 0, .c (f96_p 15) 0]
noncomputable def f96_C_r7 (k : Nat) (R_l0 : f96_S) : f96_S := fun σ => f96_a k (f96_Q_r7 k R_l0) .nx σ
noncomputable def f96_F_r7 (k : Nat) (G_l0 : f96_S) : f96_L := .c (f96_p 7475) 1 :: .blk 1 :: .c (f96_p 935) 0 :: .j (fun σ => G_l0 (cut f96_A.loops 0 σ)) :: .blk 0 :: .c (f96_p 15) 0 :: []
theorem f96_f_r7 (k : Nat) (R_l0 : f96_S) : f96_a k (f96_Q_r7 k R_l0) = f96_a k (f96_F_r7 k R_l0) := (ap_cons _ (ap_cons _ (ap_cons _ (ap_cons _ (ap_cons _ (ap_cons _ rfl))))))
noncomputable def f96_F_l0 (k : Nat) (G_l0 G_r7 : f96_S) : f96_L := .c (f96_p 232) 0 :: .c (f96_p 466) 0 :: .j (fun σ => f96_a k (.c (f96_p 3736) 1 :: .c (f96_p 7474) 1 :: .j G_r7 :: f96_F_r7 k G_l0) .nx σ) :: .c (f96_p 935) 0 :: .j (fun σ => G_l0 (cut f96_A.loops 0 σ)) :: .blk 0 :: .c (f96_p 15) 0 :: []
theorem f96_f_l0 (k : Nat) (R_l0 : f96_S) : f96_a k (f96_Q_l0 k R_l0) = f96_a k (f96_F_l0 k R_l0 (f96_C_r7 k R_l0)) := (Eq.trans ap_sq (ap_cons _ (Eq.trans ap_sq (ap_cons _ (Eq.trans ap_sq (Eq.trans (ap_bl 1) (Eq.trans (ap_j (Eq.trans ap_sq (ap_cons _ (Eq.trans ap_sq (ap_cons _ (Eq.trans (ap_pass (C := (f96_C_r7 k R_l0)) (fun _ => rfl)) (ap_cons _ (f96_f_r7 k R_l0)))))))) (ap_cons _ (ap_cons _ (ap_cons _ (ap_cons _ (ap_cons _ rfl))))))))))))
def f96_entry_B (k : Nat) (g_l0 : f96_t_l0) (a0 : Td11) (a1 : (List Int)) : Option (Int × Unit) := ((f73 k (a0.1, (a0.2.1, a0.2.2))).bind fun r1 => (if ¬ (r1.1 = 0) then some (r1.1, ()) else (g_l0 a0.1 a0.2.1 a0.2.2 a1 (a1.length : Int) 0)))
def f96_l0_B (k : Nat) (g_r7 : f96_t_r7) (y2_0 : (List (Int × Int))) (y2_1 : (List (Int × (Int × (Int × Int))))) (y2_2 : (List (Int × Int))) (x13 : (List Int)) (x14 : Int) (x15 : Int) : Option (Int × Unit) := (if x15 < x14 then (if 0 ≤ x15 then (if x15 < (x13.length : Int) then (if (x13.getD (x15).toNat 0) < 0 then (g_r7 y2_0 y2_1 y2_2 x13 x14 x15 true) else (g_r7 y2_0 y2_1 y2_2 x13 x14 x15 (decide ((y2_0.length : Int) ≤ (x13.getD (x15).toNat 0))))) else none) else none) else some (0, ()))
def f96_r7_B (k : Nat) (g_l0 : f96_t_l0) (y2_0 : (List (Int × Int))) (y2_1 : (List (Int × (Int × (Int × Int))))) (y2_2 : (List (Int × Int))) (x13 : (List Int)) (x14 : Int) (x15 : Int) (x27 : Bool) : Option (Int × Unit) := (if x27 = true then some (1, ()) else (g_l0 y2_0 y2_1 y2_2 x13 x14 (w64 (x15 + 1))))
theorem f96_r7_P (k : Nat) (G_l0 : f96_S) : f96_o_r7 (fun σ => f96_a k (f96_F_r7 k G_l0) .nx σ) = f96_r7_B k (f96_o_l0 G_l0) := by kernel_rfl
def f96_r7 (k : Nat) (r_l0 : f96_t_l0) : f96_t_r7 := f96_r7_B k r_l0
theorem f96_r7_E (k : Nat) (R_l0 : f96_S) : f96_o_r7 (f96_C_r7 k R_l0) = f96_r7 k (f96_o_l0 R_l0) :=
  Eq.trans (congrArg f96_o_r7 (ap_fn (f96_f_r7 k R_l0))) ((f96_r7_P k R_l0).trans (by rfl))
theorem f96_l0_P (k : Nat) (G_l0 G_r7 : f96_S) : f96_o_l0 (fun σ => f96_a k (f96_F_l0 k G_l0 G_r7) .nx σ) = f96_l0_B k (f96_o_r7 G_r7) := by kernel_rfl
def f96_l0 (k : Nat) : Nat → f96_t_l0
  | 0 => fun _ _ _ _ _ _ => none
  | n + 1 => f96_l0_B k (f96_r7 k (f96_l0 k n))
theorem f96_l0_E (k : Nat) : ∀ n, f96_o_l0 (f96_C_l0 k n) = f96_l0 k n
  | 0 => rfl
  | n + 1 =>
    Eq.trans (congrArg f96_o_l0 (Eq.trans (b := fun σ => f96_a k (f96_Q_l0 k (f96_C_l0 k n)) .nx σ) (by kernel_rfl) (ap_fn (f96_f_l0 k (f96_C_l0 k n))))) ((f96_l0_P k (f96_C_l0 k n) (f96_C_r7 k (f96_C_l0 k n))).trans (by rw [f96_r7_E k (f96_C_l0 k n), f96_l0_E k n] <;> rfl))
theorem f96_entry_P (k : Nat) (G_l0 : f96_S) (xs : DL f96_sig) : f96_a k (.c (f96_p 2) 0 :: .c (f96_p 6) 0 :: .c (f96_p 28) 0 :: .j (fun σ => f96_a k (.j (fun σ => G_l0 (cut f96_A.loops 0 σ)) :: .blk 0 :: .c (f96_p 15) 0 :: []) .nx σ) :: .c (f96_p 15) 0 :: []) .nx (σ0 29 96 f96_sig xs) = f96_entry_B k (f96_o_l0 G_l0) xs.1 xs.2.1 := by kernel_rfl
def f96 (k : Nat) (a0 : Td11) (a1 : (List Int)) : Option (Int × Unit) := f96_entry_B k (f96_l0 k k) a0 a1
theorem f96_fe (k : Nat) : f96_a k [.c (f96_p 1) 0] = f96_a k (.c (f96_p 2) 0 :: .c (f96_p 6) 0 :: .c (f96_p 28) 0 :: .j (fun σ => f96_a k (.j (fun σ => (f96_C_l0 k k) (cut f96_A.loops 0 σ)) :: .blk 0 :: .c (f96_p 15) 0 :: []) .nx σ) :: .c (f96_p 15) 0 :: []) := (Eq.trans ap_sq (ap_cons _ (Eq.trans ap_sq (ap_cons _ (Eq.trans ap_sq (Eq.trans ap_sq (ap_cons _ (Eq.trans (ap_bl 0) (Eq.trans (ap_j (Eq.trans (ap_lp (C := (f96_C_l0 k)) (fun _ _ => rfl)) (ap_cons _ (ap_cons _ (ap_cons _ rfl))))) (ap_cons _ (ap_cons _ rfl)))))))))))
theorem f96_eq (k : Nat) (xs : DL f96_sig) : den T f96_Y (f96_E k) f96_A k f96_c 0 (σ0 29 96 f96_sig xs) (Kfin T f96_rs f96_ts) = f96 k xs.1 xs.2.1 :=
  Eq.trans (Eq.trans den_sb (ap_at (f96_fe k) _)) ((f96_entry_P k (f96_C_l0 k k) xs).trans (by rw [f96_l0_E k k] <;> rfl))
noncomputable def f96_con (k : Nat) : Con := ⟨f96_sig, f96_rs, fun xs => f96 k xs.1 xs.2.1⟩
theorem f96_ok (k : Nat) : PureOK Try.prog 96 f96_sig f96_rs (fun xs => f96 k xs.1 xs.2.1) :=
  (pure_of_den (k := k) (A := f96_A) (T := T) (Y := f96_Y) (E := f96_E k) (M := 96) (ts := f96_ts) T_ok ⟨f73_ok k, trivial⟩ ⟨f73_ent, trivial⟩ mixed (f := 96) (fn := Try.f96) (c := f96_c) (by kernel_rfl) (by kernel_rfl) (by kernel_rfl) (by decide) (by kernel_rfl)).congr fun xs => (f96_eq k xs).symm
theorem f96_ent : Ent Try.prog 96 := fun args w => by kernel_rfl
/-! ### terrier/net.Turn: function 63 -/
noncomputable def f63_c : Code := Try.f63.body.getD .skip
noncomputable abbrev f63_p (n : Nat) : Code := sb f63_c n
abbrev f63_sig : List PT := [(true, Tq7), (false, (.int .i64)), (false, (.int .i64))]
abbrev f63_rs : List RT := [.d false .bool]
abbrev f63_ts : List RV := [.tmp 6]
abbrev f63_S := St → Option (RDL f63_rs)
abbrev f63_L := List (Fr (RDL f63_rs))
def f63_Y : Tys := []
noncomputable def f63_E (k : Nat) : Env := [(115, .c (f115_con k)), (116, .c (f116_con k))]
def f63_A : Ann := { regs := [(1, { slots := [(6, .bool)] })] }
noncomputable abbrev f63_a (k : Nat) (F : f63_L) : Kont (RDL f63_rs) := ap T f63_Y (f63_E k) f63_A k (Kfin T f63_rs f63_ts) F
def f63_s_r1 (x6 : Bool) : St := mkS 39 128 [(6, aB x6)] []
abbrev f63_t_r1 := Bool → Option (Bool × Unit)
abbrev f63_o_r1 (R : f63_S) : f63_t_r1 := (fun x6 => R (f63_s_r1 x6))
noncomputable def f63_Q_r1 (k : Nat) : f63_L := [.c (f63_p 7) 0]
noncomputable def f63_C_r1 (k : Nat) : f63_S := fun σ => f63_a k (f63_Q_r1 k) .nx σ
noncomputable def f63_F_r1 (k : Nat) : f63_L := .c (f63_p 7) 0 :: []
theorem f63_f_r1 (k : Nat) : f63_a k (f63_Q_r1 k) = f63_a k (f63_F_r1 k) := (ap_cons _ rfl)
def f63_entry_B (k : Nat) (g_r1 : f63_t_r1) (a0 : Td11) (a1 : Int) (a2 : Int) : Option (Bool × Unit) := ((f116 k (a0.1, (a0.2.1, a0.2.2)) a1).bind fun r1 => (if r1.1 = true then ((f116 k (a0.1, (a0.2.1, a0.2.2)) a2).bind fun r2 => (if r2.1 = true then (if 0 ≤ a1 then (if a1 < (a0.2.1.length : Int) then (if 0 ≤ a2 then (if a2 < (a0.2.1.length : Int) then (if (((a0.2.1.getD (a1).toNat (0, (0, (0, 0)))).2).1) = ((a0.2.1.getD (a2).toNat (0, (0, (0, 0)))).1) then ((f115 k a0.2.2 (a1, a2)).bind fun r3 => (g_r1 (decide (¬ (r3.1 = true))))) else (g_r1 false)) else none) else none) else none) else none) else (g_r1 false))) else (g_r1 false)))
def f63_r1_B (k : Nat) (x6 : Bool) : Option (Bool × Unit) := some (decide (x6 = true), ())
theorem f63_r1_P (k : Nat) : f63_o_r1 (fun σ => f63_a k (f63_F_r1 k) .nx σ) = f63_r1_B k := by kernel_rfl
def f63_r1 (k : Nat) : f63_t_r1 := f63_r1_B k
theorem f63_r1_E (k : Nat) : f63_o_r1 (f63_C_r1 k) = f63_r1 k :=
  Eq.trans (congrArg f63_o_r1 (ap_fn (f63_f_r1 k))) ((f63_r1_P k).trans (by rfl))
theorem f63_entry_P (k : Nat) (G_r1 : f63_S) (xs : DL f63_sig) : f63_a k (.c (f63_p 2) 0 :: .c (f63_p 6) 0 :: .j G_r1 :: f63_F_r1 k) .nx (σ0 39 128 f63_sig xs) = f63_entry_B k (f63_o_r1 G_r1) xs.1 xs.2.1 xs.2.2.1 := by kernel_rfl
def f63 (k : Nat) (a0 : Td11) (a1 : Int) (a2 : Int) : Option (Bool × Unit) := f63_entry_B k (f63_r1 k) a0 a1 a2
theorem f63_fe (k : Nat) : f63_a k [.c (f63_p 1) 0] = f63_a k (.c (f63_p 2) 0 :: .c (f63_p 6) 0 :: .j (f63_C_r1 k) :: f63_F_r1 k) := (Eq.trans ap_sq (ap_cons _ (Eq.trans ap_sq (ap_cons _ (Eq.trans (ap_pass (C := (f63_C_r1 k)) (fun _ => rfl)) (ap_cons _ (f63_f_r1 k)))))))
theorem f63_eq (k : Nat) (xs : DL f63_sig) : den T f63_Y (f63_E k) f63_A k f63_c 0 (σ0 39 128 f63_sig xs) (Kfin T f63_rs f63_ts) = f63 k xs.1 xs.2.1 xs.2.2.1 :=
  Eq.trans (Eq.trans den_sb (ap_at (f63_fe k) _)) ((f63_entry_P k (f63_C_r1 k) xs).trans (by rw [f63_r1_E k] <;> rfl))
noncomputable def f63_con (k : Nat) : Con := ⟨f63_sig, f63_rs, fun xs => f63 k xs.1 xs.2.1 xs.2.2.1⟩
theorem f63_ok (k : Nat) : PureOK Try.prog 63 f63_sig f63_rs (fun xs => f63 k xs.1 xs.2.1 xs.2.2.1) :=
  (pure_of_den (k := k) (A := f63_A) (T := T) (Y := f63_Y) (E := f63_E k) (M := 128) (ts := f63_ts) T_ok ⟨f115_ok k, f116_ok k, trivial⟩ ⟨f115_ent, f116_ent, trivial⟩ mixed (f := 63) (fn := Try.f63) (c := f63_c) (by kernel_rfl) (by kernel_rfl) (by kernel_rfl) (by decide) (by kernel_rfl)).congr fun xs => (f63_eq k xs).symm
theorem f63_ent : Ent Try.prog 63 := fun args w => by kernel_rfl
/-! ### terrier/net.Out: function 107 -/
noncomputable def f107_c : Code := Try.f107.body.getD .skip
noncomputable abbrev f107_p (n : Nat) : Code := sb f107_c n
abbrev f107_sig : List PT := [(true, Tq7), (false, (.int .i64))]
abbrev f107_rs : List RT := [.new (.int .i64)]
abbrev f107_ts : List RV := [.tmp 4]
abbrev f107_S := St → Option (RDL f107_rs)
abbrev f107_L := List (Fr (RDL f107_rs))
def f107_Y : Tys := [(3, (.int .i64))]
noncomputable def f107_E (k : Nat) : Env := []
def f107_A : Ann := { loops := [(0, { mat := [(5, 23, (.int .i64))], slots := [(1, .id), (5, .id), (9, .val false Tq4), (10, .id), (11, .id)], keys := [(23, [])] })], conds := [(6, { mat := [(5, 23, (.int .i64))], slots := [(1, .id), (5, .id), (9, .val false Tq4), (10, .id), (11, .id)], keys := [(23, [])] })] }
noncomputable abbrev f107_a (k : Nat) (F : f107_L) : Kont (RDL f107_rs) := ap T f107_Y (f107_E k) f107_A k (Kfin T f107_rs f107_ts) F
def f107_s_l0 (y23 : (List Int)) (x1 : Int) (x10 : Int) (x11 : Int) (x9 : (List (Int × (Int × (Int × Int))))) : St := mkS 26 80 [(1, aI x1), (5, aO 23), (9, aV Tq4 x9), (10, aI x10), (11, aI x11)] [(23, .vec (.int .i64) y23)]
abbrev f107_t_l0 := (List Int) → Int → Int → Int → (List (Int × (Int × (Int × Int)))) → Option ((List Int) × Unit)
abbrev f107_o_l0 (R : f107_S) : f107_t_l0 := (fun y23 x1 x10 x11 x9 => R (f107_s_l0 y23 x1 x10 x11 x9))
noncomputable def f107_Q_l0 (k : Nat) (R_l0 : f107_S) : f107_L := [.c (f107_p 116) 0, .j (fun σ => R_l0 (cut f107_A.loops 0 σ)), .blk 0, .c (f107_p 15) 0]
noncomputable def f107_C_l0 (k : Nat) (n : Nat) (σ : St) : Option (RDL f107_rs) := loopK (fun σ K => den T f107_Y (f107_E k) f107_A k (f107_p 116) 0 σ K) (cut f107_A.loops 0) (f107_a k [.blk 0, .c (f107_p 15) 0]) n σ
def f107_s_c6 (y23 : (List Int)) (x1 : Int) (x10 : Int) (x11 : Int) (x9 : (List (Int × (Int × (Int × Int))))) : St := mkS 26 80 [(1, aI x1), (5, aO 23), (9, aV Tq4 x9), (10, aI x10), (11, aI x11)] [(23, .vec (.int .i64) y23)]
abbrev f107_t_c6 := (List Int) → Int → Int → Int → (List (Int × (Int × (Int × Int)))) → Option ((List Int) × Unit)
abbrev f107_o_c6 (R : f107_S) : f107_t_c6 := (fun y23 x1 x10 x11 x9 => R (f107_s_c6 y23 x1 x10 x11 x9))
noncomputable def f107_Q_c6 (k : Nat) (R_l0 : f107_S) : f107_L := [.blk 1, .c (f107_p 935) 0, .j (fun σ => R_l0 (cut f107_A.loops 0 σ)), .blk 0, .c (f107_p 15) 0]
noncomputable def f107_C_c6 (k : Nat) (R_l0 : f107_S) : f107_S := fun σ => f107_a k (f107_Q_c6 k R_l0) .nx σ
noncomputable def f107_F_c6 (k : Nat) (G_l0 : f107_S) : f107_L := .blk 1 :: .c (f107_p 935) 0 :: .j (fun σ => G_l0 (cut f107_A.loops 0 σ)) :: .blk 0 :: .c (f107_p 15) 0 :: []
theorem f107_f_c6 (k : Nat) (R_l0 : f107_S) : f107_a k (f107_Q_c6 k R_l0) = f107_a k (f107_F_c6 k R_l0) := (ap_cons _ (ap_cons _ (ap_cons _ (ap_cons _ (ap_cons _ rfl)))))
noncomputable def f107_F_l0 (k : Nat) (G_l0 G_c6 : f107_S) : f107_L := .c (f107_p 232) 0 :: .c (f107_p 466) 0 :: .j (fun σ => f107_a k (.c (f107_p 3736) 1 :: .c (f107_p 7474) 1 :: .c (f107_p 7475) 1 :: .j G_c6 :: f107_F_c6 k G_l0) .nx σ) :: .c (f107_p 935) 0 :: .j (fun σ => G_l0 (cut f107_A.loops 0 σ)) :: .blk 0 :: .c (f107_p 15) 0 :: []
theorem f107_f_l0 (k : Nat) (R_l0 : f107_S) : f107_a k (f107_Q_l0 k R_l0) = f107_a k (f107_F_l0 k R_l0 (f107_C_c6 k R_l0)) := (Eq.trans ap_sq (ap_cons _ (Eq.trans ap_sq (ap_cons _ (Eq.trans ap_sq (Eq.trans (ap_bl 1) (Eq.trans (ap_j (Eq.trans ap_sq (ap_cons _ (Eq.trans ap_sq (ap_cons _ (ap_cons _ (Eq.trans (ap_pass (C := (f107_C_c6 k R_l0)) (fun _ => rfl)) (ap_cons _ (f107_f_c6 k R_l0))))))))) (ap_cons _ (ap_cons _ (ap_cons _ (ap_cons _ (ap_cons _ rfl))))))))))))
def f107_entry_B (k : Nat) (g_l0 : f107_t_l0) (a0 : Td11) (a1 : Int) : Option ((List Int) × Unit) := (g_l0 ([] : List Int) a1 (a0.2.1.length : Int) 0 a0.2.1)
def f107_l0_B (k : Nat) (g_c6 : f107_t_c6) (y23 : (List Int)) (x1 : Int) (x10 : Int) (x11 : Int) (x9 : (List (Int × (Int × (Int × Int))))) : Option ((List Int) × Unit) := (if x11 < x10 then (if 0 ≤ x11 then (if x11 < (x9.length : Int) then (if ((x9.getD (x11).toNat (0, (0, (0, 0)))).1) = x1 then (if (y23.length + 1) * 8 ≤ 140737488355328 then (g_c6 (y23 ++ [x11]) x1 x10 x11 x9) else none) else (g_c6 y23 x1 x10 x11 x9)) else none) else none) else some (y23, ()))
def f107_c6_B (k : Nat) (g_l0 : f107_t_l0) (y23 : (List Int)) (x1 : Int) (x10 : Int) (x11 : Int) (x9 : (List (Int × (Int × (Int × Int))))) : Option ((List Int) × Unit) := (g_l0 y23 x1 x10 (w64 (x11 + 1)) x9)
theorem f107_c6_P (k : Nat) (G_l0 : f107_S) : f107_o_c6 (fun σ => f107_a k (f107_F_c6 k G_l0) .nx σ) = f107_c6_B k (f107_o_l0 G_l0) := by kernel_rfl
def f107_c6 (k : Nat) (r_l0 : f107_t_l0) : f107_t_c6 := f107_c6_B k r_l0
theorem f107_c6_E (k : Nat) (R_l0 : f107_S) : f107_o_c6 (f107_C_c6 k R_l0) = f107_c6 k (f107_o_l0 R_l0) :=
  Eq.trans (congrArg f107_o_c6 (ap_fn (f107_f_c6 k R_l0))) ((f107_c6_P k R_l0).trans (by rfl))
theorem f107_l0_P (k : Nat) (G_l0 G_c6 : f107_S) : f107_o_l0 (fun σ => f107_a k (f107_F_l0 k G_l0 G_c6) .nx σ) = f107_l0_B k (f107_o_c6 G_c6) := by kernel_rfl
def f107_l0 (k : Nat) : Nat → f107_t_l0
  | 0 => fun _ _ _ _ _ => none
  | n + 1 => f107_l0_B k (f107_c6 k (f107_l0 k n))
theorem f107_l0_E (k : Nat) : ∀ n, f107_o_l0 (f107_C_l0 k n) = f107_l0 k n
  | 0 => rfl
  | n + 1 =>
    Eq.trans (congrArg f107_o_l0 (Eq.trans (b := fun σ => f107_a k (f107_Q_l0 k (f107_C_l0 k n)) .nx σ) (by kernel_rfl) (ap_fn (f107_f_l0 k (f107_C_l0 k n))))) ((f107_l0_P k (f107_C_l0 k n) (f107_C_c6 k (f107_C_l0 k n))).trans (by rw [f107_c6_E k (f107_C_l0 k n), f107_l0_E k n] <;> rfl))
theorem f107_entry_P (k : Nat) (G_l0 : f107_S) (xs : DL f107_sig) : f107_a k (.c (f107_p 2) 0 :: .c (f107_p 6) 0 :: .c (f107_p 28) 0 :: .j (fun σ => f107_a k (.j (fun σ => G_l0 (cut f107_A.loops 0 σ)) :: .blk 0 :: .c (f107_p 15) 0 :: []) .nx σ) :: .c (f107_p 15) 0 :: []) .nx (σ0 26 80 f107_sig xs) = f107_entry_B k (f107_o_l0 G_l0) xs.1 xs.2.1 := by kernel_rfl
def f107 (k : Nat) (a0 : Td11) (a1 : Int) : Option ((List Int) × Unit) := f107_entry_B k (f107_l0 k k) a0 a1
theorem f107_fe (k : Nat) : f107_a k [.c (f107_p 1) 0] = f107_a k (.c (f107_p 2) 0 :: .c (f107_p 6) 0 :: .c (f107_p 28) 0 :: .j (fun σ => f107_a k (.j (fun σ => (f107_C_l0 k k) (cut f107_A.loops 0 σ)) :: .blk 0 :: .c (f107_p 15) 0 :: []) .nx σ) :: .c (f107_p 15) 0 :: []) := (Eq.trans ap_sq (ap_cons _ (Eq.trans ap_sq (ap_cons _ (Eq.trans ap_sq (Eq.trans ap_sq (ap_cons _ (Eq.trans (ap_bl 0) (Eq.trans (ap_j (Eq.trans (ap_lp (C := (f107_C_l0 k)) (fun _ _ => rfl)) (ap_cons _ (ap_cons _ (ap_cons _ rfl))))) (ap_cons _ (ap_cons _ rfl)))))))))))
theorem f107_eq (k : Nat) (xs : DL f107_sig) : den T f107_Y (f107_E k) f107_A k f107_c 0 (σ0 26 80 f107_sig xs) (Kfin T f107_rs f107_ts) = f107 k xs.1 xs.2.1 :=
  Eq.trans (Eq.trans den_sb (ap_at (f107_fe k) _)) ((f107_entry_P k (f107_C_l0 k k) xs).trans (by rw [f107_l0_E k k] <;> rfl))
noncomputable def f107_con (k : Nat) : Con := ⟨f107_sig, f107_rs, fun xs => f107 k xs.1 xs.2.1⟩
theorem f107_ok (k : Nat) : PureOK Try.prog 107 f107_sig f107_rs (fun xs => f107 k xs.1 xs.2.1) :=
  (pure_of_den (k := k) (A := f107_A) (T := T) (Y := f107_Y) (E := f107_E k) (M := 80) (ts := f107_ts) T_ok trivial trivial mixed (f := 107) (fn := Try.f107) (c := f107_c) (by kernel_rfl) (by kernel_rfl) (by kernel_rfl) (by decide) (by kernel_rfl)).congr fun xs => (f107_eq k xs).symm
theorem f107_ent : Ent Try.prog 107 := fun args w => by kernel_rfl
/-! ### terrier/route.start: function 97 -/
noncomputable def f97_c : Code := Try.f97.body.getD .skip
noncomputable abbrev f97_p (n : Nat) : Code := sb f97_c n
abbrev f97_sig : List PT := [(true, Tq7)]
abbrev f97_rs : List RT := [.obj (.box [.d Tq7, .o, .d Tq12]) [.row Tq16]]
abbrev f97_ts : List RV := [.tmp 2]
abbrev f97_S := St → Option (RDL f97_rs)
abbrev f97_L := List (Fr (RDL f97_rs))
def f97_Y : Tys := [(3, (.int .i64)), (25, Tq20), (155, Tq16)]
noncomputable def f97_E (k : Nat) : Env := [(63, .c (f63_con k)), (107, .c (f107_con k))]
def f97_A : Ann := { loops := [(0, { slots := [(1, .id), (3, .id), (20, .val false Tq4), (21, .id), (22, .id)], keys := [(1, [.val false Tq1, .val false Tq4, .val false Tq1]), (12, []), (16, []), (18, [.val false Tq1, .val false Tq4, .val false Tq1, .id, .id])] }), (2, { slots := [(1, .id), (3, .id), (4, .id), (20, .val false Tq4), (21, .id), (22, .id), (30, .id), (31, .id), (32, .id)], keys := [(1, [.val false Tq1, .val false Tq4, .val false Tq1]), (12, []), (16, []), (18, [.val false Tq1, .val false Tq4, .val false Tq1, .id, .id]), (30, [])] })], blks := [(0, { unr := [16], slots := [(3, .id)], keys := [(12, []), (16, []), (18, [.val false Tq1, .val false Tq4, .val false Tq1, .id, .id])] })], conds := [(9, { slots := [(1, .id), (3, .id), (4, .id), (20, .val false Tq4), (21, .id), (22, .id), (30, .id), (31, .id), (32, .id)], keys := [(1, [.val false Tq1, .val false Tq4, .val false Tq1]), (12, []), (16, []), (18, [.val false Tq1, .val false Tq4, .val false Tq1, .id, .id]), (30, [])] })] }
noncomputable abbrev f97_a (k : Nat) (F : f97_L) : Kont (RDL f97_rs) := ap T f97_Y (f97_E k) f97_A k (Kfin T f97_rs f97_ts) F
def f97_s_l0 (y1_0 : (List (Int × Int))) (y1_1 : (List (Int × (Int × (Int × Int))))) (y1_2 : (List (Int × Int))) (y12 : (List (Int × (Int × (Int × (Bool × Bool)))))) (y16 : (List (List Int))) (x21 : Int) (x22 : Int) : St := mkS 59 192 [(1, aP 1), (3, aP 18), (20, aV Tq4 y1_1), (21, aI x21), (22, aI x22)] [(1, .box [cV Tq1 y1_0, cV Tq4 y1_1, cV Tq1 y1_2]), (12, .vec Tq16 y12), (16, .rows (.int .i64) y16 none), (18, .box [cV Tq1 y1_0, cV Tq4 y1_1, cV Tq1 y1_2, .own 12, .own 16])]
abbrev f97_t_l0 := (List (Int × Int)) → (List (Int × (Int × (Int × Int)))) → (List (Int × Int)) → (List (Int × (Int × (Int × (Bool × Bool))))) → (List (List Int)) → Int → Int → Option (((Td11 × Td17 × Unit) × (List (Int × Td19)) × Unit) × Unit)
abbrev f97_o_l0 (R : f97_S) : f97_t_l0 := (fun y1_0 y1_1 y1_2 y12 y16 x21 x22 => R (f97_s_l0 y1_0 y1_1 y1_2 y12 y16 x21 x22))
noncomputable def f97_Q_l0 (k : Nat) (R_l0 : f97_S) : f97_L := [.c (f97_p 116) 0, .j (fun σ => R_l0 (cut f97_A.loops 0 σ)), .blk 0, .c (f97_p 15) 0]
noncomputable def f97_C_l0 (k : Nat) (n : Nat) (σ : St) : Option (RDL f97_rs) := loopK (fun σ K => den T f97_Y (f97_E k) f97_A k (f97_p 116) 0 σ K) (cut f97_A.loops 0) (f97_a k [.blk 0, .c (f97_p 15) 0]) n σ
def f97_s_l2 (y1_0 : (List (Int × Int))) (y1_1 : (List (Int × (Int × (Int × Int))))) (y1_2 : (List (Int × Int))) (y12 : (List (Int × (Int × (Int × (Bool × Bool)))))) (y16 : (List (List Int))) (y30 : (List Int)) (x21 : Int) (x22 : Int) (x31 : Int) (x32 : Int) : St := mkS 59 192 [(1, aP 1), (3, aP 18), (4, aI x22), (20, aV Tq4 y1_1), (21, aI x21), (22, aI x22), (30, aO 30), (31, aI x31), (32, aI x32)] [(1, .box [cV Tq1 y1_0, cV Tq4 y1_1, cV Tq1 y1_2]), (12, .vec Tq16 y12), (16, .rows (.int .i64) y16 none), (18, .box [cV Tq1 y1_0, cV Tq4 y1_1, cV Tq1 y1_2, .own 12, .own 16]), (30, .vec (.int .i64) y30)]
abbrev f97_t_l2 := (List (Int × Int)) → (List (Int × (Int × (Int × Int)))) → (List (Int × Int)) → (List (Int × (Int × (Int × (Bool × Bool))))) → (List (List Int)) → (List Int) → Int → Int → Int → Int → Option (((Td11 × Td17 × Unit) × (List (Int × Td19)) × Unit) × Unit)
abbrev f97_o_l2 (R : f97_S) : f97_t_l2 := (fun y1_0 y1_1 y1_2 y12 y16 y30 x21 x22 x31 x32 => R (f97_s_l2 y1_0 y1_1 y1_2 y12 y16 y30 x21 x22 x31 x32))
noncomputable def f97_Q_l2 (k : Nat) (R_l0 R_l2 : f97_S) : f97_L := [.c (f97_p 29900) 2, .j (fun σ => R_l2 (cut f97_A.loops 2 σ)), .blk 2, .blk 1, .c (f97_p 935) 0, .j (fun σ => R_l0 (cut f97_A.loops 0 σ)), .blk 0, .c (f97_p 15) 0]
noncomputable def f97_C_l2 (k : Nat) (R_l0 : f97_S) (n : Nat) (σ : St) : Option (RDL f97_rs) := loopK (fun σ K => den T f97_Y (f97_E k) f97_A k (f97_p 29900) 2 σ K) (cut f97_A.loops 2) (f97_a k [.blk 2, .blk 1, .c (f97_p 935) 0, .j (fun σ => R_l0 (cut f97_A.loops 0 σ)), .blk 0, .c (f97_p 15) 0]) n σ
def f97_s_b0 (y12 : (List (Int × (Int × (Int × (Bool × Bool)))))) (y16 : (List (List Int))) (y18_0 : (List (Int × Int))) (y18_1 : (List (Int × (Int × (Int × Int))))) (y18_2 : (List (Int × Int))) : St := mkS 59 192 [(3, aP 18)] [(12, .vec Tq16 y12), (16, .vec Tq0 y16), (18, .box [cV Tq1 y18_0, cV Tq4 y18_1, cV Tq1 y18_2, .own 12, .own 16])]
abbrev f97_t_b0 := (List (Int × (Int × (Int × (Bool × Bool))))) → (List (List Int)) → (List (Int × Int)) → (List (Int × (Int × (Int × Int)))) → (List (Int × Int)) → Option (((Td11 × Td17 × Unit) × (List (Int × Td19)) × Unit) × Unit)
abbrev f97_o_b0 (R : f97_S) : f97_t_b0 := (fun y12 y16 y18_0 y18_1 y18_2 => R (f97_s_b0 y12 y16 y18_0 y18_1 y18_2))
noncomputable def f97_Q_b0 (k : Nat) : f97_L := [.c (f97_p 15) 0]
noncomputable def f97_C_b0 (k : Nat) : f97_S := fun σ => f97_a k (f97_Q_b0 k) .nx σ
def f97_s_c9 (y1_0 : (List (Int × Int))) (y1_1 : (List (Int × (Int × (Int × Int))))) (y1_2 : (List (Int × Int))) (y12 : (List (Int × (Int × (Int × (Bool × Bool)))))) (y16 : (List (List Int))) (y30 : (List Int)) (x21 : Int) (x22 : Int) (x31 : Int) (x32 : Int) : St := mkS 59 192 [(1, aP 1), (3, aP 18), (4, aI x22), (20, aV Tq4 y1_1), (21, aI x21), (22, aI x22), (30, aO 30), (31, aI x31), (32, aI x32)] [(1, .box [cV Tq1 y1_0, cV Tq4 y1_1, cV Tq1 y1_2]), (12, .vec Tq16 y12), (16, .rows (.int .i64) y16 none), (18, .box [cV Tq1 y1_0, cV Tq4 y1_1, cV Tq1 y1_2, .own 12, .own 16]), (30, .vec (.int .i64) y30)]
abbrev f97_t_c9 := (List (Int × Int)) → (List (Int × (Int × (Int × Int)))) → (List (Int × Int)) → (List (Int × (Int × (Int × (Bool × Bool))))) → (List (List Int)) → (List Int) → Int → Int → Int → Int → Option (((Td11 × Td17 × Unit) × (List (Int × Td19)) × Unit) × Unit)
abbrev f97_o_c9 (R : f97_S) : f97_t_c9 := (fun y1_0 y1_1 y1_2 y12 y16 y30 x21 x22 x31 x32 => R (f97_s_c9 y1_0 y1_1 y1_2 y12 y16 y30 x21 x22 x31 x32))
noncomputable def f97_Q_c9 (k : Nat) (R_l2 R_l0 : f97_S) : f97_L := [.blk 3, .c (f97_p 239207) 2, .j (fun σ => R_l2 (cut f97_A.loops 2 σ)), .blk 2, .blk 1, .c (f97_p 935) 0, .j (fun σ => R_l0 (cut f97_A.loops 0 σ)), .blk 0, .c (f97_p 15) 0]
noncomputable def f97_C_c9 (k : Nat) (R_l2 R_l0 : f97_S) : f97_S := fun σ => f97_a k (f97_Q_c9 k R_l2 R_l0) .nx σ
noncomputable def f97_F_b0 (k : Nat) : f97_L := .c (f97_p 15) 0 :: []
theorem f97_f_b0 (k : Nat) : f97_a k (f97_Q_b0 k) = f97_a k (f97_F_b0 k) := (ap_cons _ rfl)
noncomputable def f97_F_l0 (k : Nat) (G_l0 G_l2 G_b0 : f97_S) : f97_L := .c (f97_p 232) 0 :: .c (f97_p 466) 0 :: .j (fun σ => f97_a k (.c (f97_p 3736) 1 :: .c (f97_p 7474) 1 :: .j (fun σ => f97_a k (.j (fun σ => G_l2 (cut f97_A.loops 2 σ)) :: .blk 2 :: .blk 1 :: .c (f97_p 935) 0 :: .j (fun σ => G_l0 (cut f97_A.loops 0 σ)) :: .b 0 (fun σ => G_b0 (cut f97_A.blks 0 σ)) :: f97_F_b0 k) .nx σ) :: .blk 1 :: .c (f97_p 935) 0 :: .j (fun σ => G_l0 (cut f97_A.loops 0 σ)) :: .b 0 (fun σ => G_b0 (cut f97_A.blks 0 σ)) :: f97_F_b0 k) .nx σ) :: .c (f97_p 935) 0 :: .j (fun σ => G_l0 (cut f97_A.loops 0 σ)) :: .b 0 (fun σ => G_b0 (cut f97_A.blks 0 σ)) :: f97_F_b0 k
theorem f97_f_l0 (k : Nat) (R_l0 : f97_S) : f97_a k (f97_Q_l0 k R_l0) = f97_a k (f97_F_l0 k R_l0 (f97_C_l2 k R_l0 k) (f97_C_b0 k)) := (Eq.trans ap_sq (ap_cons _ (Eq.trans ap_sq (ap_cons _ (Eq.trans ap_sq (Eq.trans (ap_bl 1) (Eq.trans (ap_j (Eq.trans ap_sq (ap_cons _ (Eq.trans ap_sq (ap_cons _ (Eq.trans (ap_bl 2) (Eq.trans (ap_j (Eq.trans (ap_lp (C := (f97_C_l2 k R_l0)) (fun _ _ => rfl)) (ap_cons _ (ap_cons _ (ap_cons _ (ap_cons _ (ap_cons _ (Eq.trans (ap_blkb (C := (f97_C_b0 k)) (fun _ => rfl)) (ap_cons _ (f97_f_b0 k)))))))))) (ap_cons _ (ap_cons _ (ap_cons _ (ap_cons _ (Eq.trans (ap_blkb (C := (f97_C_b0 k)) (fun _ => rfl)) (ap_cons _ (f97_f_b0 k)))))))))))))) (ap_cons _ (ap_cons _ (ap_cons _ (Eq.trans (ap_blkb (C := (f97_C_b0 k)) (fun _ => rfl)) (ap_cons _ (f97_f_b0 k)))))))))))))
noncomputable def f97_F_c9 (k : Nat) (G_l0 G_l2 G_b0 : f97_S) : f97_L := .blk 3 :: .c (f97_p 239207) 2 :: .j (fun σ => G_l2 (cut f97_A.loops 2 σ)) :: .blk 2 :: .blk 1 :: .c (f97_p 935) 0 :: .j (fun σ => G_l0 (cut f97_A.loops 0 σ)) :: .b 0 (fun σ => G_b0 (cut f97_A.blks 0 σ)) :: f97_F_b0 k
theorem f97_f_c9 (k : Nat) (R_l2 R_l0 : f97_S) : f97_a k (f97_Q_c9 k R_l2 R_l0) = f97_a k (f97_F_c9 k R_l0 R_l2 (f97_C_b0 k)) := (ap_cons _ (ap_cons _ (ap_cons _ (ap_cons _ (ap_cons _ (ap_cons _ (ap_cons _ (Eq.trans (ap_blkb (C := (f97_C_b0 k)) (fun _ => rfl)) (ap_cons _ (f97_f_b0 k))))))))))
noncomputable def f97_F_l2 (k : Nat) (G_l0 G_l2 G_b0 G_c9 : f97_S) : f97_L := .c (f97_p 59800) 2 :: .c (f97_p 119602) 2 :: .j (fun σ => f97_a k (.c (f97_p 956824) 3 :: .c (f97_p 1913650) 3 :: .c (f97_p 1913651) 3 :: .j G_c9 :: f97_F_c9 k G_l0 G_l2 G_b0) .nx σ) :: .c (f97_p 239207) 2 :: .j (fun σ => G_l2 (cut f97_A.loops 2 σ)) :: .blk 2 :: .blk 1 :: .c (f97_p 935) 0 :: .j (fun σ => G_l0 (cut f97_A.loops 0 σ)) :: .b 0 (fun σ => G_b0 (cut f97_A.blks 0 σ)) :: f97_F_b0 k
theorem f97_f_l2 (k : Nat) (R_l0 R_l2 : f97_S) : f97_a k (f97_Q_l2 k R_l0 R_l2) = f97_a k (f97_F_l2 k R_l0 R_l2 (f97_C_b0 k) (f97_C_c9 k R_l2 R_l0)) := (Eq.trans ap_sq (ap_cons _ (Eq.trans ap_sq (ap_cons _ (Eq.trans ap_sq (Eq.trans (ap_bl 3) (Eq.trans (ap_j (Eq.trans ap_sq (ap_cons _ (Eq.trans ap_sq (ap_cons _ (ap_cons _ (Eq.trans (ap_pass (C := (f97_C_c9 k R_l2 R_l0)) (fun _ => rfl)) (ap_cons _ (f97_f_c9 k R_l2 R_l0))))))))) (ap_cons _ (ap_cons _ (ap_cons _ (ap_cons _ (ap_cons _ (ap_cons _ (ap_cons _ (Eq.trans (ap_blkb (C := (f97_C_b0 k)) (fun _ => rfl)) (ap_cons _ (f97_f_b0 k)))))))))))))))))
def f97_entry_B (k : Nat) (g_l0 : f97_t_l0) (a0 : Td11) : Option (((Td11 × Td17 × Unit) × (List (Int × Td19)) × Unit) × Unit) := (if 0 ≤ (a0.2.1.length : Int) then (if (a0.2.1.length : Int) ≤ 1073741824 then (if 0 ≤ (a0.2.1.length : Int) then (if (a0.2.1.length : Int) ≤ 1073741824 then (g_l0 a0.1 a0.2.1 a0.2.2 (List.replicate ((a0.2.1.length : Int)).toNat ((0, (0, (0, (false, false)))) : (Int × (Int × (Int × (Bool × Bool)))))) (List.replicate ((a0.2.1.length : Int)).toNat ([] : List Int)) (a0.2.1.length : Int) 0) else none) else none) else none) else none)
def f97_l0_B (k : Nat) (g_l2 : f97_t_l2) (g_b0 : f97_t_b0) (y1_0 : (List (Int × Int))) (y1_1 : (List (Int × (Int × (Int × Int))))) (y1_2 : (List (Int × Int))) (y12 : (List (Int × (Int × (Int × (Bool × Bool)))))) (y16 : (List (List Int))) (x21 : Int) (x22 : Int) : Option (((Td11 × Td17 × Unit) × (List (Int × Td19)) × Unit) × Unit) := (if x22 < x21 then (if 0 ≤ x22 then (if x22 < (y1_1.length : Int) then ((f107 k (y1_0, (y1_1, y1_2)) (((y1_1.getD (x22).toNat (0, (0, (0, 0)))).2).1)).bind fun r1 => (g_l2 y1_0 y1_1 y1_2 y12 y16 r1.1 x21 x22 (r1.1.length : Int) 0)) else none) else none) else (g_b0 y12 y16 y1_0 y1_1 y1_2))
def f97_l2_B (k : Nat) (g_l0 : f97_t_l0) (g_c9 : f97_t_c9) (y1_0 : (List (Int × Int))) (y1_1 : (List (Int × (Int × (Int × Int))))) (y1_2 : (List (Int × Int))) (y12 : (List (Int × (Int × (Int × (Bool × Bool)))))) (y16 : (List (List Int))) (y30 : (List Int)) (x21 : Int) (x22 : Int) (x31 : Int) (x32 : Int) : Option (((Td11 × Td17 × Unit) × (List (Int × Td19)) × Unit) × Unit) := (if x32 < x31 then (if 0 ≤ x32 then (if x32 < (y30.length : Int) then ((f63 k (y1_0, (y1_1, y1_2)) x22 (y30.getD ((x32).toNat) 0)).bind fun r1 => (if r1.1 = true then (if 0 ≤ x22 then (if x22 < (y16.length : Int) then (if ((y16.getD ((x22).toNat) []).length + 1) * 8 ≤ 140737488355328 then (if 0 ≤ x22 then (if x22 < (y16.length : Int) then (if ((x22).toNat) = ((x22).toNat) then (g_c9 y1_0 y1_1 y1_2 y12 (y16.set ((x22).toNat) ((y16.getD ((x22).toNat) []) ++ [(y30.getD ((x32).toNat) 0)])) y30 x21 x22 x31 x32) else none) else none) else none) else none) else none) else none) else (g_c9 y1_0 y1_1 y1_2 y12 y16 y30 x21 x22 x31 x32))) else none) else none) else (g_l0 y1_0 y1_1 y1_2 y12 y16 x21 (w64 (x22 + 1))))
def f97_b0_B (k : Nat) (y12 : (List (Int × (Int × (Int × (Bool × Bool)))))) (y16 : (List (List Int))) (y18_0 : (List (Int × Int))) (y18_1 : (List (Int × (Int × (Int × Int))))) (y18_2 : (List (Int × Int))) : Option (((Td11 × Td17 × Unit) × (List (Int × Td19)) × Unit) × Unit) := some ((((y18_0, (y18_1, y18_2)), y16, ()), (y12, ())), ())
def f97_c9_B (k : Nat) (g_l2 : f97_t_l2) (y1_0 : (List (Int × Int))) (y1_1 : (List (Int × (Int × (Int × Int))))) (y1_2 : (List (Int × Int))) (y12 : (List (Int × (Int × (Int × (Bool × Bool)))))) (y16 : (List (List Int))) (y30 : (List Int)) (x21 : Int) (x22 : Int) (x31 : Int) (x32 : Int) : Option (((Td11 × Td17 × Unit) × (List (Int × Td19)) × Unit) × Unit) := (g_l2 y1_0 y1_1 y1_2 y12 y16 y30 x21 x22 x31 (w64 (x32 + 1)))
theorem f97_c9_P (k : Nat) (G_l0 G_l2 G_b0 : f97_S) : f97_o_c9 (fun σ => f97_a k (f97_F_c9 k G_l0 G_l2 G_b0) .nx σ) = f97_c9_B k (f97_o_l2 G_l2) := by kernel_rfl
def f97_c9 (k : Nat) (r_l2 : f97_t_l2) (r_l0 : f97_t_l0) : f97_t_c9 := f97_c9_B k r_l2
theorem f97_c9_E (k : Nat) (R_l2 R_l0 : f97_S) : f97_o_c9 (f97_C_c9 k R_l2 R_l0) = f97_c9 k (f97_o_l2 R_l2) (f97_o_l0 R_l0) :=
  Eq.trans (congrArg f97_o_c9 (ap_fn (f97_f_c9 k R_l2 R_l0))) ((f97_c9_P k R_l0 R_l2 (f97_C_b0 k)).trans (by rfl))
theorem f97_l2_P (k : Nat) (G_l0 G_l2 G_b0 G_c9 : f97_S) : f97_o_l2 (fun σ => f97_a k (f97_F_l2 k G_l0 G_l2 G_b0 G_c9) .nx σ) = f97_l2_B k (f97_o_l0 G_l0) (f97_o_c9 G_c9) := by kernel_rfl
def f97_l2 (k : Nat) (r_l0 : f97_t_l0) : Nat → f97_t_l2
  | 0 => fun _ _ _ _ _ _ _ _ _ _ => none
  | n + 1 => f97_l2_B k r_l0 (f97_c9 k (f97_l2 k r_l0 n) r_l0)
theorem f97_l2_E (k : Nat) (R_l0 : f97_S) : ∀ n, f97_o_l2 (f97_C_l2 k R_l0 n) = f97_l2 k (f97_o_l0 R_l0) n
  | 0 => rfl
  | n + 1 =>
    Eq.trans (congrArg f97_o_l2 (Eq.trans (b := fun σ => f97_a k (f97_Q_l2 k R_l0 (f97_C_l2 k R_l0 n)) .nx σ) (by kernel_rfl) (ap_fn (f97_f_l2 k R_l0 (f97_C_l2 k R_l0 n))))) ((f97_l2_P k R_l0 (f97_C_l2 k R_l0 n) (f97_C_b0 k) (f97_C_c9 k (f97_C_l2 k R_l0 n) R_l0)).trans (by rw [f97_c9_E k (f97_C_l2 k R_l0 n) R_l0, f97_l2_E k R_l0 n] <;> rfl))
theorem f97_b0_P (k : Nat) : f97_o_b0 (fun σ => f97_a k (f97_F_b0 k) .nx σ) = f97_b0_B k := by kernel_rfl
def f97_b0 (k : Nat) : f97_t_b0 := f97_b0_B k
theorem f97_b0_E (k : Nat) : f97_o_b0 (f97_C_b0 k) = f97_b0 k :=
  Eq.trans (congrArg f97_o_b0 (ap_fn (f97_f_b0 k))) ((f97_b0_P k).trans (by rfl))
theorem f97_l0_P (k : Nat) (G_l0 G_l2 G_b0 : f97_S) : f97_o_l0 (fun σ => f97_a k (f97_F_l0 k G_l0 G_l2 G_b0) .nx σ) = f97_l0_B k (f97_o_l2 G_l2) (f97_o_b0 G_b0) := by kernel_rfl
def f97_l0 (k : Nat) : Nat → f97_t_l0
  | 0 => fun _ _ _ _ _ _ _ => none
  | n + 1 => f97_l0_B k (f97_l2 k (f97_l0 k n) k) (f97_b0 k)
theorem f97_l0_E (k : Nat) : ∀ n, f97_o_l0 (f97_C_l0 k n) = f97_l0 k n
  | 0 => rfl
  | n + 1 =>
    Eq.trans (congrArg f97_o_l0 (Eq.trans (b := fun σ => f97_a k (f97_Q_l0 k (f97_C_l0 k n)) .nx σ) (by kernel_rfl) (ap_fn (f97_f_l0 k (f97_C_l0 k n))))) ((f97_l0_P k (f97_C_l0 k n) (f97_C_l2 k (f97_C_l0 k n) k) (f97_C_b0 k)).trans (by rw [f97_l2_E k (f97_C_l0 k n) k, f97_b0_E k, f97_l0_E k n] <;> rfl))
theorem f97_entry_P (k : Nat) (G_l0 G_b0 : f97_S) (xs : DL f97_sig) : f97_a k (.c (f97_p 2) 0 :: .c (f97_p 6) 0 :: .c (f97_p 28) 0 :: .j (fun σ => f97_a k (.j (fun σ => G_l0 (cut f97_A.loops 0 σ)) :: .b 0 (fun σ => G_b0 (cut f97_A.blks 0 σ)) :: f97_F_b0 k) .nx σ) :: f97_F_b0 k) .nx (σ0 59 192 f97_sig xs) = f97_entry_B k (f97_o_l0 G_l0) xs.1 := by kernel_rfl
def f97 (k : Nat) (a0 : Td11) : Option (((Td11 × Td17 × Unit) × (List (Int × Td19)) × Unit) × Unit) := f97_entry_B k (f97_l0 k k) a0
theorem f97_fe (k : Nat) : f97_a k [.c (f97_p 1) 0] = f97_a k (.c (f97_p 2) 0 :: .c (f97_p 6) 0 :: .c (f97_p 28) 0 :: .j (fun σ => f97_a k (.j (fun σ => (f97_C_l0 k k) (cut f97_A.loops 0 σ)) :: .b 0 (fun σ => (f97_C_b0 k) (cut f97_A.blks 0 σ)) :: f97_F_b0 k) .nx σ) :: f97_F_b0 k) := (Eq.trans ap_sq (ap_cons _ (Eq.trans ap_sq (ap_cons _ (Eq.trans ap_sq (Eq.trans ap_sq (ap_cons _ (Eq.trans (ap_bl 0) (Eq.trans (ap_j (Eq.trans (ap_lp (C := (f97_C_l0 k)) (fun _ _ => rfl)) (ap_cons _ (Eq.trans (ap_blkb (C := (f97_C_b0 k)) (fun _ => rfl)) (ap_cons _ (f97_f_b0 k)))))) (ap_cons _ (f97_f_b0 k)))))))))))
theorem f97_eq (k : Nat) (xs : DL f97_sig) : den T f97_Y (f97_E k) f97_A k f97_c 0 (σ0 59 192 f97_sig xs) (Kfin T f97_rs f97_ts) = f97 k xs.1 :=
  Eq.trans (Eq.trans den_sb (ap_at (f97_fe k) _)) ((f97_entry_P k (f97_C_l0 k k) (f97_C_b0 k) xs).trans (by rw [f97_l0_E k k] <;> rfl))
noncomputable def f97_con (k : Nat) : Con := ⟨f97_sig, f97_rs, fun xs => f97 k xs.1⟩
theorem f97_ok (k : Nat) : PureOK Try.prog 97 f97_sig f97_rs (fun xs => f97 k xs.1) :=
  (pure_of_den (k := k) (A := f97_A) (T := T) (Y := f97_Y) (E := f97_E k) (M := 192) (ts := f97_ts) T_ok ⟨f63_ok k, f107_ok k, trivial⟩ ⟨f63_ent, f107_ent, trivial⟩ mixed (f := 97) (fn := Try.f97) (c := f97_c) (by kernel_rfl) (by kernel_rfl) (by kernel_rfl) (by decide) (by kernel_rfl)).congr fun xs => (f97_eq k xs).symm
theorem f97_ent : Ent Try.prog 97 := fun args w => by kernel_rfl
/-! ### cmp.isNaN[int]: function 175 -/
noncomputable def f175_c : Code := Try.f175.body.getD .skip
noncomputable abbrev f175_p (n : Nat) : Code := sb f175_c n
abbrev f175_sig : List PT := [(false, (.int .i64))]
abbrev f175_rs : List RT := [.d false .bool]
abbrev f175_ts : List RV := [.tmp 2]
abbrev f175_S := St → Option (RDL f175_rs)
abbrev f175_L := List (Fr (RDL f175_rs))
def f175_Y : Tys := []
noncomputable def f175_E (k : Nat) : Env := []
def f175_A : Ann := {}
noncomputable abbrev f175_a (k : Nat) (F : f175_L) : Kont (RDL f175_rs) := ap T f175_Y (f175_E k) f175_A k (Kfin T f175_rs f175_ts) F
def f175_entry_B (k : Nat) (a0 : Int) : Option (Bool × Unit) := some (decide (¬ (a0 = a0)), ())
theorem f175_entry_P (k : Nat) (xs : DL f175_sig) : f175_a k (.c (f175_p 1) 0 :: []) .nx (σ0 6 32 f175_sig xs) = f175_entry_B k xs.1 := by kernel_rfl
def f175 (k : Nat) (a0 : Int) : Option (Bool × Unit) := f175_entry_B k a0
theorem f175_eq (k : Nat) (xs : DL f175_sig) : den T f175_Y (f175_E k) f175_A k f175_c 0 (σ0 6 32 f175_sig xs) (Kfin T f175_rs f175_ts) = f175 k xs.1 :=
  Eq.trans (Eq.trans den_sb (ap_at (ap_cons _ rfl) _)) ((f175_entry_P k xs).trans (by rfl))
noncomputable def f175_con (k : Nat) : Con := ⟨f175_sig, f175_rs, fun xs => f175 k xs.1⟩
theorem f175_ok (k : Nat) : PureOK Try.prog 175 f175_sig f175_rs (fun xs => f175 k xs.1) :=
  (pure_of_den (k := k) (A := f175_A) (T := T) (Y := f175_Y) (E := f175_E k) (M := 32) (ts := f175_ts) T_ok trivial trivial mixed (f := 175) (fn := Try.f175) (c := f175_c) (by kernel_rfl) (by kernel_rfl) (by kernel_rfl) (by decide) (by kernel_rfl)).congr fun xs => (f175_eq k xs).symm
theorem f175_ent : Ent Try.prog 175 := fun args w => by kernel_rfl
/-! ### cmp.Compare[int]: function 133 -/
noncomputable def f133_c : Code := Try.f133.body.getD .skip
noncomputable abbrev f133_p (n : Nat) : Code := sb f133_c n
abbrev f133_sig : List PT := [(false, (.int .i64)), (false, (.int .i64))]
abbrev f133_rs : List RT := [.d false (.int .i64)]
abbrev f133_ts : List RV := [.tmp 4]
abbrev f133_S := St → Option (RDL f133_rs)
abbrev f133_L := List (Fr (RDL f133_rs))
def f133_Y : Tys := []
noncomputable def f133_E (k : Nat) : Env := [(175, .c (f175_con k))]
def f133_A : Ann := {}
noncomputable abbrev f133_a (k : Nat) (F : f133_L) : Kont (RDL f133_rs) := ap T f133_Y (f133_E k) f133_A k (Kfin T f133_rs f133_ts) F
def f133_entry_B (k : Nat) (a0 : Int) (a1 : Int) : Option (Int × Unit) := ((f175 k a0).bind fun r1 => ((f175 k a1).bind fun r2 => (if r1.1 = true then (if r2.1 = true then some (0, ()) else some ((-1), ())) else (if r2.1 = true then some (1, ()) else (if a0 < a1 then some ((-1), ()) else (if a1 < a0 then some (1, ()) else some (0, ())))))))
theorem f133_entry_P (k : Nat) (xs : DL f133_sig) : f133_a k (.c (f133_p 1) 0 :: []) .nx (σ0 20 64 f133_sig xs) = f133_entry_B k xs.1 xs.2.1 := by kernel_rfl
def f133 (k : Nat) (a0 : Int) (a1 : Int) : Option (Int × Unit) := f133_entry_B k a0 a1
theorem f133_eq (k : Nat) (xs : DL f133_sig) : den T f133_Y (f133_E k) f133_A k f133_c 0 (σ0 20 64 f133_sig xs) (Kfin T f133_rs f133_ts) = f133 k xs.1 xs.2.1 :=
  Eq.trans (Eq.trans den_sb (ap_at (ap_cons _ rfl) _)) ((f133_entry_P k xs).trans (by rfl))
noncomputable def f133_con (k : Nat) : Con := ⟨f133_sig, f133_rs, fun xs => f133 k xs.1 xs.2.1⟩
theorem f133_ok (k : Nat) : PureOK Try.prog 133 f133_sig f133_rs (fun xs => f133 k xs.1 xs.2.1) :=
  (pure_of_den (k := k) (A := f133_A) (T := T) (Y := f133_Y) (E := f133_E k) (M := 64) (ts := f133_ts) T_ok ⟨f175_ok k, trivial⟩ ⟨f175_ent, trivial⟩ mixed (f := 133) (fn := Try.f133) (c := f133_c) (by kernel_rfl) (by kernel_rfl) (by kernel_rfl) (by decide) (by kernel_rfl)).congr fun xs => (f133_eq k xs).symm
theorem f133_ent : Ent Try.prog 133 := fun args w => by kernel_rfl
/-! ### slices.Compare[[]int,int]: function 68 -/
noncomputable def f68_c : Code := Try.f68.body.getD .skip
noncomputable abbrev f68_p (n : Nat) : Code := sb f68_c n
abbrev f68_sig : List PT := [(false, Tq0), (false, Tq0)]
abbrev f68_rs : List RT := [.d false (.int .i64)]
abbrev f68_ts : List RV := [.tmp 4]
abbrev f68_S := St → Option (RDL f68_rs)
abbrev f68_L := List (Fr (RDL f68_rs))
def f68_Y : Tys := []
noncomputable def f68_E (k : Nat) : Env := [(133, .c (f133_con k))]
def f68_A : Ann := { loops := [(0, { slots := [(0, .val false (.int .i64)), (1, .val false (.int .i64)), (9, .val false (.int .i64)), (10, .id), (11, .id)] })] }
noncomputable abbrev f68_a (k : Nat) (F : f68_L) : Kont (RDL f68_rs) := ap T f68_Y (f68_E k) f68_A k (Kfin T f68_rs f68_ts) F
def f68_s_l0 (x0 : (List Int)) (x1 : (List Int)) (x10 : Int) (x11 : Int) : St := mkS 36 112 [(0, aV (.int .i64) x0), (1, aV (.int .i64) x1), (9, aV (.int .i64) x0), (10, aI x10), (11, aI x11)] []
abbrev f68_t_l0 := (List Int) → (List Int) → Int → Int → Option (Int × Unit)
abbrev f68_o_l0 (R : f68_S) : f68_t_l0 := (fun x0 x1 x10 x11 => R (f68_s_l0 x0 x1 x10 x11))
noncomputable def f68_Q_l0 (k : Nat) (R_l0 : f68_S) : f68_L := [.c (f68_p 52) 0, .j (fun σ => R_l0 (cut f68_A.loops 0 σ)), .blk 0, .c (f68_p 7) 0]
noncomputable def f68_C_l0 (k : Nat) (n : Nat) (σ : St) : Option (RDL f68_rs) := loopK (fun σ K => den T f68_Y (f68_E k) f68_A k (f68_p 52) 0 σ K) (cut f68_A.loops 0) (f68_a k [.blk 0, .c (f68_p 7) 0]) n σ
noncomputable def f68_F_l0 (k : Nat) (G_l0 : f68_S) : f68_L := .c (f68_p 52) 0 :: .j (fun σ => G_l0 (cut f68_A.loops 0 σ)) :: .blk 0 :: .c (f68_p 7) 0 :: []
theorem f68_f_l0 (k : Nat) (R_l0 : f68_S) : f68_a k (f68_Q_l0 k R_l0) = f68_a k (f68_F_l0 k R_l0) := (ap_cons _ (ap_cons _ (ap_cons _ (ap_cons _ rfl))))
def f68_entry_B (k : Nat) (g_l0 : f68_t_l0) (a0 : (List Int)) (a1 : (List Int)) : Option (Int × Unit) := (g_l0 a0 a1 (a0.length : Int) 0)
def f68_l0_B (k : Nat) (g_l0 : f68_t_l0) (x0 : (List Int)) (x1 : (List Int)) (x10 : Int) (x11 : Int) : Option (Int × Unit) := (if x11 < x10 then (if 0 ≤ x11 then (if x11 < (x0.length : Int) then (if (x1.length : Int) ≤ x11 then some (1, ()) else (if 0 ≤ x11 then (if x11 < (x1.length : Int) then ((f133 k (x0.getD (x11).toNat 0) (x1.getD (x11).toNat 0)).bind fun r1 => (if ¬ (r1.1 = 0) then some (r1.1, ()) else (g_l0 x0 x1 x10 (w64 (x11 + 1))))) else none) else none)) else none) else none) else (if (x0.length : Int) < (x1.length : Int) then some ((-1), ()) else some (0, ())))
theorem f68_l0_P (k : Nat) (G_l0 : f68_S) : f68_o_l0 (fun σ => f68_a k (f68_F_l0 k G_l0) .nx σ) = f68_l0_B k (f68_o_l0 G_l0) := by kernel_rfl
def f68_l0 (k : Nat) : Nat → f68_t_l0
  | 0 => fun _ _ _ _ => none
  | n + 1 => f68_l0_B k (f68_l0 k n)
theorem f68_l0_E (k : Nat) : ∀ n, f68_o_l0 (f68_C_l0 k n) = f68_l0 k n
  | 0 => rfl
  | n + 1 =>
    Eq.trans (congrArg f68_o_l0 (Eq.trans (b := fun σ => f68_a k (f68_Q_l0 k (f68_C_l0 k n)) .nx σ) (by kernel_rfl) (ap_fn (f68_f_l0 k (f68_C_l0 k n))))) ((f68_l0_P k (f68_C_l0 k n)).trans (by rw [f68_l0_E k n] <;> rfl))
theorem f68_entry_P (k : Nat) (G_l0 : f68_S) (xs : DL f68_sig) : f68_a k (.c (f68_p 2) 0 :: .c (f68_p 12) 0 :: .j (fun σ => f68_a k (.j (fun σ => G_l0 (cut f68_A.loops 0 σ)) :: .blk 0 :: .c (f68_p 7) 0 :: []) .nx σ) :: .c (f68_p 7) 0 :: []) .nx (σ0 36 112 f68_sig xs) = f68_entry_B k (f68_o_l0 G_l0) xs.1 xs.2.1 := by kernel_rfl
def f68 (k : Nat) (a0 : (List Int)) (a1 : (List Int)) : Option (Int × Unit) := f68_entry_B k (f68_l0 k k) a0 a1
theorem f68_fe (k : Nat) : f68_a k [.c (f68_p 1) 0] = f68_a k (.c (f68_p 2) 0 :: .c (f68_p 12) 0 :: .j (fun σ => f68_a k (.j (fun σ => (f68_C_l0 k k) (cut f68_A.loops 0 σ)) :: .blk 0 :: .c (f68_p 7) 0 :: []) .nx σ) :: .c (f68_p 7) 0 :: []) := (Eq.trans ap_sq (ap_cons _ (Eq.trans ap_sq (Eq.trans ap_sq (ap_cons _ (Eq.trans (ap_bl 0) (Eq.trans (ap_j (Eq.trans (ap_lp (C := (f68_C_l0 k)) (fun _ _ => rfl)) (ap_cons _ (ap_cons _ (ap_cons _ rfl))))) (ap_cons _ (ap_cons _ rfl)))))))))
theorem f68_eq (k : Nat) (xs : DL f68_sig) : den T f68_Y (f68_E k) f68_A k f68_c 0 (σ0 36 112 f68_sig xs) (Kfin T f68_rs f68_ts) = f68 k xs.1 xs.2.1 :=
  Eq.trans (Eq.trans den_sb (ap_at (f68_fe k) _)) ((f68_entry_P k (f68_C_l0 k k) xs).trans (by rw [f68_l0_E k k] <;> rfl))
noncomputable def f68_con (k : Nat) : Con := ⟨f68_sig, f68_rs, fun xs => f68 k xs.1 xs.2.1⟩
theorem f68_ok (k : Nat) : PureOK Try.prog 68 f68_sig f68_rs (fun xs => f68 k xs.1 xs.2.1) :=
  (pure_of_den (k := k) (A := f68_A) (T := T) (Y := f68_Y) (E := f68_E k) (M := 112) (ts := f68_ts) T_ok ⟨f133_ok k, trivial⟩ ⟨f133_ent, trivial⟩ mixed (f := 68) (fn := Try.f68) (c := f68_c) (by kernel_rfl) (by kernel_rfl) (by kernel_rfl) (by decide) (by kernel_rfl)).congr fun xs => (f68_eq k xs).symm
theorem f68_ent : Ent Try.prog 68 := fun args w => by kernel_rfl
/-! ### slices.Reverse[[]int,int]: function 151 -/
noncomputable def f151_c : Code := Try.f151.body.getD .skip
noncomputable abbrev f151_p (n : Nat) : Code := sb f151_c n
abbrev f151_sig : List PT := []
abbrev f151_rs : List RT := []
abbrev f151_ts : List RV := []
abbrev f151_ls : List LO := [.row (.int .i64)]
abbrev f151_S := St → Option (LOD f151_ls × RDL f151_rs)
abbrev f151_L := List (Fr (LOD f151_ls × RDL f151_rs))
def f151_Y : Tys := []
noncomputable def f151_E (k : Nat) : Env := []
def f151_A : Ann := { loops := [(0, { slots := [(0, .id), (2, .id), (3, .id)], keys := [(0, [])] })] }
noncomputable abbrev f151_a (k : Nat) (F : f151_L) : Kont (LOD f151_ls × RDL f151_rs) := ap T f151_Y (f151_E k) f151_A k (KfinB T true f151_ls f151_rs f151_ts) F
def f151_s_l0 (y0 : (List Int)) (x2 : Int) (x3 : Int) : St := mkS 28 97 [(0, aO 0), (2, aI x2), (3, aI x3)] [(0, .vec (.int .i64) y0)]
abbrev f151_t_l0 := (List Int) → Int → Int → Option (((List Int) × Unit) × (Unit))
abbrev f151_o_l0 (R : f151_S) : f151_t_l0 := (fun y0 x2 x3 => R (f151_s_l0 y0 x2 x3))
noncomputable def f151_Q_l0 (k : Nat) (R_l0 : f151_S) : f151_L := [.c (f151_p 12) 0, .j (fun σ => R_l0 (cut f151_A.loops 0 σ)), .blk 0]
noncomputable def f151_C_l0 (k : Nat) (n : Nat) (σ : St) : Option (LOD f151_ls × RDL f151_rs) := loopK (fun σ K => den T f151_Y (f151_E k) f151_A k (f151_p 12) 0 σ K) (cut f151_A.loops 0) (f151_a k [.blk 0]) n σ
noncomputable def f151_F_l0 (k : Nat) (G_l0 : f151_S) : f151_L := .c (f151_p 12) 0 :: .j (fun σ => G_l0 (cut f151_A.loops 0 σ)) :: .blk 0 :: []
theorem f151_f_l0 (k : Nat) (R_l0 : f151_S) : f151_a k (f151_Q_l0 k R_l0) = f151_a k (f151_F_l0 k R_l0) := (ap_cons _ (ap_cons _ (ap_cons _ rfl)))
def f151_entry_B (k : Nat) (g_l0 : f151_t_l0) (a : (List Int)) : Option (((List Int) × Unit) × (Unit)) := (g_l0 a 0 (w64 ((a.length : Int) - 1)))
def f151_l0_B (k : Nat) (g_l0 : f151_t_l0) (y0 : (List Int)) (x2 : Int) (x3 : Int) : Option (((List Int) × Unit) × (Unit)) := (if x2 < x3 then (if 0 ≤ x3 then (if x3 < (y0.length : Int) then (if 0 ≤ x2 then (if x2 < (y0.length : Int) then (if 0 ≤ x2 then (if x2 < (y0.length : Int) then (if 0 ≤ x3 then (if x3 < ((y0.set ((x2).toNat) (y0.getD ((x3).toNat) 0)).length : Int) then (g_l0 ((y0.set ((x2).toNat) (y0.getD ((x3).toNat) 0)).set ((x3).toNat) (y0.getD ((x2).toNat) 0)) (w64 (x2 + 1)) (w64 (x3 - 1))) else none) else none) else none) else none) else none) else none) else none) else none) else some ((y0, ()), (())))
theorem f151_l0_P (k : Nat) (G_l0 : f151_S) : f151_o_l0 (fun σ => f151_a k (f151_F_l0 k G_l0) .nx σ) = f151_l0_B k (f151_o_l0 G_l0) := by kernel_rfl
def f151_l0 (k : Nat) : Nat → f151_t_l0
  | 0 => fun _ _ _ => none
  | n + 1 => f151_l0_B k (f151_l0 k n)
theorem f151_l0_E (k : Nat) : ∀ n, f151_o_l0 (f151_C_l0 k n) = f151_l0 k n
  | 0 => rfl
  | n + 1 =>
    Eq.trans (congrArg f151_o_l0 (Eq.trans (b := fun σ => f151_a k (f151_Q_l0 k (f151_C_l0 k n)) .nx σ) (by kernel_rfl) (ap_fn (f151_f_l0 k (f151_C_l0 k n))))) ((f151_l0_P k (f151_C_l0 k n)).trans (by rw [f151_l0_E k n] <;> rfl))
theorem f151_entry_P (k : Nat) (G_l0 : f151_S) (x : LOD f151_ls) (xs : DL f151_sig) : f151_a k (.c (f151_p 2) 0 :: .j (fun σ => f151_a k (.j (fun σ => G_l0 (cut f151_A.loops 0 σ)) :: .blk 0 :: []) .nx σ) :: []) .nx (σ0B 28 97 0 f151_ls x f151_sig xs) = f151_entry_B k (f151_o_l0 G_l0) x.1 := by kernel_rfl
def f151 (k : Nat) (a : (List Int)) : Option (((List Int) × Unit) × (Unit)) := f151_entry_B k (f151_l0 k k) a
theorem f151_fe (k : Nat) : f151_a k [.c (f151_p 1) 0] = f151_a k (.c (f151_p 2) 0 :: .j (fun σ => f151_a k (.j (fun σ => (f151_C_l0 k k) (cut f151_A.loops 0 σ)) :: .blk 0 :: []) .nx σ) :: []) := (Eq.trans ap_sq (ap_cons _ (Eq.trans (ap_bl 0) (Eq.trans (ap_j (Eq.trans (ap_lp (C := (f151_C_l0 k)) (fun _ _ => rfl)) (ap_cons _ (ap_cons _ rfl)))) (ap_cons _ rfl)))))
theorem f151_eq (k : Nat) (x : LOD f151_ls) (xs : DL f151_sig) : den T f151_Y (f151_E k) f151_A k f151_c 0 (σ0B 28 97 0 f151_ls x f151_sig xs) (KfinB T true f151_ls f151_rs f151_ts) = f151 k x.1 :=
  Eq.trans (Eq.trans den_sb (ap_at (f151_fe k) _)) ((f151_entry_P k (f151_C_l0 k k) x xs).trans (by rw [f151_l0_E k k] <;> rfl))
noncomputable def f151_con (k : Nat) : BCon := ⟨0, true, f151_ls, f151_sig, f151_rs, fun x xs => f151 k x.1⟩
theorem f151_ok (k : Nat) : BoxOK Try.prog 151 0 true f151_ls f151_sig f151_rs (fun x xs => f151 k x.1) :=
  (box_of_den (k := k) (A := f151_A) (T := T) (Y := f151_Y) (E := f151_E k) (M := 97) (ts := f151_ts) T_ok trivial trivial mixed (f := 151) (fn := Try.f151) (c := f151_c) (by kernel_rfl) (by kernel_rfl) (by kernel_rfl) (by decide) (by kernel_rfl) (by decide)).congr fun x xs => (f151_eq k x xs).symm
theorem f151_ent : Ent Try.prog 151 := fun args w => by kernel_rfl
/-! ### (*terrier/route.search).way: function 101 -/
noncomputable def f101_c : Code := Try.f101.body.getD .skip
noncomputable abbrev f101_p (n : Nat) : Code := sb f101_c n
abbrev f101_sig : List PT := [(false, (.ptr Tq23)), (false, (.int .i64))]
abbrev f101_rs : List RT := [.new (.int .i64)]
abbrev f101_ts : List RV := [.tmp 4]
abbrev f101_S := St → Option (RDL f101_rs)
abbrev f101_L := List (Fr (RDL f101_rs))
def f101_Y : Tys := [(3, (.int .i64))]
noncomputable def f101_E (k : Nat) : Env := [(151, .b (f151_con k))]
def f101_A : Ann := { loops := [(0, { mat := [(5, 19, (.int .i64))], slots := [(0, .id), (1, .id), (5, .id)], keys := [(19, [])] })] }
noncomputable abbrev f101_a (k : Nat) (F : f101_L) : Kont (RDL f101_rs) := ap T f101_Y (f101_E k) f101_A k (Kfin T f101_rs f101_ts) F
def f101_s_l0 (y19 : (List Int)) (x0 : (((List (Int × Int)) × ((List (Int × (Int × (Int × Int)))) × (List (Int × Int)))) × ((List (Int × (Int × (Int × (Bool × Bool))))) × (List (List Int))))) (x1 : Int) : St := mkS 23 80 [(0, .cp (.one (.fptr Tq23 x0 0))), (1, aI x1), (5, aO 19)] [(19, .vec (.int .i64) y19)]
abbrev f101_t_l0 := (List Int) → (((List (Int × Int)) × ((List (Int × (Int × (Int × Int)))) × (List (Int × Int)))) × ((List (Int × (Int × (Int × (Bool × Bool))))) × (List (List Int)))) → Int → Option ((List Int) × Unit)
abbrev f101_o_l0 (R : f101_S) : f101_t_l0 := (fun y19 x0 x1 => R (f101_s_l0 y19 x0 x1))
noncomputable def f101_Q_l0 (k : Nat) (R_l0 : f101_S) : f101_L := [.c (f101_p 56) 0, .j (fun σ => R_l0 (cut f101_A.loops 0 σ)), .blk 0, .c (f101_p 15) 0]
noncomputable def f101_C_l0 (k : Nat) (n : Nat) (σ : St) : Option (RDL f101_rs) := loopK (fun σ K => den T f101_Y (f101_E k) f101_A k (f101_p 56) 0 σ K) (cut f101_A.loops 0) (f101_a k [.blk 0, .c (f101_p 15) 0]) n σ
noncomputable def f101_F_l0 (k : Nat) (G_l0 : f101_S) : f101_L := .c (f101_p 56) 0 :: .j (fun σ => G_l0 (cut f101_A.loops 0 σ)) :: .blk 0 :: .c (f101_p 15) 0 :: []
theorem f101_f_l0 (k : Nat) (R_l0 : f101_S) : f101_a k (f101_Q_l0 k R_l0) = f101_a k (f101_F_l0 k R_l0) := (ap_cons _ (ap_cons _ (ap_cons _ (ap_cons _ rfl))))
def f101_entry_B (k : Nat) (g_l0 : f101_t_l0) (a0 : Td26) (a1 : Int) : Option ((List Int) × Unit) := (g_l0 ([] : List Int) a0 a1)
def f101_l0_B (k : Nat) (g_l0 : f101_t_l0) (y19 : (List Int)) (x0 : (((List (Int × Int)) × ((List (Int × (Int × (Int × Int)))) × (List (Int × Int)))) × ((List (Int × (Int × (Int × (Bool × Bool))))) × (List (List Int))))) (x1 : Int) : Option ((List Int) × Unit) := (if 0 ≤ x1 then (if (y19.length + 1) * 8 ≤ 140737488355328 then (if 0 ≤ x1 then (if x1 < (x0.2.1.length : Int) then (g_l0 (y19 ++ [x1]) x0 ((((x0.2.1.getD (x1).toNat (0, (0, (0, (false, false))))).2).2).1)) else none) else none) else none) else ((f151 k y19).bind fun r1 => some (r1.1.1, ())))
theorem f101_l0_P (k : Nat) (G_l0 : f101_S) : f101_o_l0 (fun σ => f101_a k (f101_F_l0 k G_l0) .nx σ) = f101_l0_B k (f101_o_l0 G_l0) := by kernel_rfl
def f101_l0 (k : Nat) : Nat → f101_t_l0
  | 0 => fun _ _ _ => none
  | n + 1 => f101_l0_B k (f101_l0 k n)
theorem f101_l0_E (k : Nat) : ∀ n, f101_o_l0 (f101_C_l0 k n) = f101_l0 k n
  | 0 => rfl
  | n + 1 =>
    Eq.trans (congrArg f101_o_l0 (Eq.trans (b := fun σ => f101_a k (f101_Q_l0 k (f101_C_l0 k n)) .nx σ) (by kernel_rfl) (ap_fn (f101_f_l0 k (f101_C_l0 k n))))) ((f101_l0_P k (f101_C_l0 k n)).trans (by rw [f101_l0_E k n] <;> rfl))
theorem f101_entry_P (k : Nat) (G_l0 : f101_S) (xs : DL f101_sig) : f101_a k (.c (f101_p 2) 0 :: .c (f101_p 6) 0 :: .j (fun σ => f101_a k (.j (fun σ => G_l0 (cut f101_A.loops 0 σ)) :: .blk 0 :: .c (f101_p 15) 0 :: []) .nx σ) :: .c (f101_p 15) 0 :: []) .nx (σ0 23 80 f101_sig xs) = f101_entry_B k (f101_o_l0 G_l0) xs.1 xs.2.1 := by kernel_rfl
def f101 (k : Nat) (a0 : Td26) (a1 : Int) : Option ((List Int) × Unit) := f101_entry_B k (f101_l0 k k) a0 a1
theorem f101_fe (k : Nat) : f101_a k [.c (f101_p 1) 0] = f101_a k (.c (f101_p 2) 0 :: .c (f101_p 6) 0 :: .j (fun σ => f101_a k (.j (fun σ => (f101_C_l0 k k) (cut f101_A.loops 0 σ)) :: .blk 0 :: .c (f101_p 15) 0 :: []) .nx σ) :: .c (f101_p 15) 0 :: []) := (Eq.trans ap_sq (ap_cons _ (Eq.trans ap_sq (ap_cons _ (Eq.trans ap_sq (Eq.trans (ap_bl 0) (Eq.trans (ap_j (Eq.trans (ap_lp (C := (f101_C_l0 k)) (fun _ _ => rfl)) (ap_cons _ (ap_cons _ (ap_cons _ rfl))))) (ap_cons _ (ap_cons _ rfl)))))))))
theorem f101_eq (k : Nat) (xs : DL f101_sig) : den T f101_Y (f101_E k) f101_A k f101_c 0 (σ0 23 80 f101_sig xs) (Kfin T f101_rs f101_ts) = f101 k xs.1 xs.2.1 :=
  Eq.trans (Eq.trans den_sb (ap_at (f101_fe k) _)) ((f101_entry_P k (f101_C_l0 k k) xs).trans (by rw [f101_l0_E k k] <;> rfl))
noncomputable def f101_con (k : Nat) : Con := ⟨f101_sig, f101_rs, fun xs => f101 k xs.1 xs.2.1⟩
theorem f101_ok (k : Nat) : PureOK Try.prog 101 f101_sig f101_rs (fun xs => f101 k xs.1 xs.2.1) :=
  (pure_of_den (k := k) (A := f101_A) (T := T) (Y := f101_Y) (E := f101_E k) (M := 80) (ts := f101_ts) T_ok ⟨f151_ok k, trivial⟩ ⟨f151_ent, trivial⟩ mixed (f := 101) (fn := Try.f101) (c := f101_c) (by kernel_rfl) (by kernel_rfl) (by kernel_rfl) (by decide) (by kernel_rfl)).congr fun xs => (f101_eq k xs).symm
theorem f101_ent : Ent Try.prog 101 := fun args w => by kernel_rfl
/-! ### (*terrier/route.search).better: function 185 -/
noncomputable def f185_c : Code := Try.f185.body.getD .skip
noncomputable abbrev f185_p (n : Nat) : Code := sb f185_c n
abbrev f185_sig : List PT := [(false, (.ptr Tq23)), (false, (.int .i64)), (false, (.int .i64)), (false, (.int .i64)), (false, (.int .i64))]
abbrev f185_rs : List RT := [.d false .bool]
abbrev f185_ts : List RV := [.tmp 10]
abbrev f185_S := St → Option (RDL f185_rs)
abbrev f185_L := List (Fr (RDL f185_rs))
def f185_Y : Tys := [(3, (.int .i64))]
noncomputable def f185_E (k : Nat) : Env := [(68, .c (f68_con k)), (101, .c (f101_con k))]
def f185_A : Ann := { regs := [(2, { slots := [(0, .id), (1, .id), (3, .id), (4, .id), (11, .id), (29, .bool)], keys := [(11, [.id, .id, .id, .bool, .bool])] }), (3, { slots := [(10, .bool)] })], conds := [(3, { slots := [(0, .id), (1, .id), (4, .id), (11, .id)], keys := [(11, [.id, .id, .id, .bool, .bool])] }), (8, { frz := [47, 53], slots := [(0, .id), (11, .id), (12, .val false (.int .i64)), (13, .id)], keys := [(11, [.id, .id, .id, .bool, .bool]), (48, [])] }), (10, { frz := [48, 60], slots := [(12, .val false (.int .i64)), (13, .val false (.int .i64))] })] }
noncomputable abbrev f185_a (k : Nat) (F : f185_L) : Kont (RDL f185_rs) := ap T f185_Y (f185_E k) f185_A k (Kfin T f185_rs f185_ts) F
def f185_s_r2 (y11_0 : Int) (y11_1 : Int) (y11_2 : Int) (y11_3 : Bool) (y11_4 : Bool) (x0 : (((List (Int × Int)) × ((List (Int × (Int × (Int × Int)))) × (List (Int × Int)))) × ((List (Int × (Int × (Int × (Bool × Bool))))) × (List (List Int))))) (x1 : Int) (x29 : Bool) (x3 : Int) (x4 : Int) : St := mkS 65 208 [(0, .cp (.one (.fptr Tq23 x0 0))), (1, aI x1), (3, aI x3), (4, aI x4), (11, aP 11), (29, aB x29)] [(11, .box [cI y11_0, cI y11_1, cI y11_2, pB y11_3, pB y11_4])]
abbrev f185_t_r2 := Int → Int → Int → Bool → Bool → (((List (Int × Int)) × ((List (Int × (Int × (Int × Int)))) × (List (Int × Int)))) × ((List (Int × (Int × (Int × (Bool × Bool))))) × (List (List Int)))) → Int → Bool → Int → Int → Option (Bool × Unit)
abbrev f185_o_r2 (R : f185_S) : f185_t_r2 := (fun y11_0 y11_1 y11_2 y11_3 y11_4 x0 x1 x29 x3 x4 => R (f185_s_r2 y11_0 y11_1 y11_2 y11_3 y11_4 x0 x1 x29 x3 x4))
noncomputable def f185_Q_r2 (k : Nat) : f185_L := [.c (f185_p 29) 0, .c (f185_p 15) 0]
noncomputable def f185_C_r2 (k : Nat) : f185_S := fun σ => f185_a k (f185_Q_r2 k) .nx σ
def f185_s_r3 (x10 : Bool) : St := mkS 65 208 [(10, aB x10)] []
abbrev f185_t_r3 := Bool → Option (Bool × Unit)
abbrev f185_o_r3 (R : f185_S) : f185_t_r3 := (fun x10 => R (f185_s_r3 x10))
noncomputable def f185_Q_r3 (k : Nat) : f185_L := [.c (f185_p 117) 0, .cond 3, .c (f185_p 15) 0]
noncomputable def f185_C_r3 (k : Nat) : f185_S := fun σ => f185_a k (f185_Q_r3 k) .nx σ
def f185_s_c3 (y11_0 : Int) (y11_1 : Int) (y11_2 : Int) (y11_3 : Bool) (y11_4 : Bool) (x0 : (((List (Int × Int)) × ((List (Int × (Int × (Int × Int)))) × (List (Int × Int)))) × ((List (Int × (Int × (Int × (Bool × Bool))))) × (List (List Int))))) (x1 : Int) (x4 : Int) : St := mkS 65 208 [(0, .cp (.one (.fptr Tq23 x0 0))), (1, aI x1), (4, aI x4), (11, aP 11)] [(11, .box [cI y11_0, cI y11_1, cI y11_2, pB y11_3, pB y11_4])]
abbrev f185_t_c3 := Int → Int → Int → Bool → Bool → (((List (Int × Int)) × ((List (Int × (Int × (Int × Int)))) × (List (Int × Int)))) × ((List (Int × (Int × (Int × (Bool × Bool))))) × (List (List Int)))) → Int → Int → Option (Bool × Unit)
abbrev f185_o_c3 (R : f185_S) : f185_t_c3 := (fun y11_0 y11_1 y11_2 y11_3 y11_4 x0 x1 x4 => R (f185_s_c3 y11_0 y11_1 y11_2 y11_3 y11_4 x0 x1 x4))
noncomputable def f185_Q_c3 (k : Nat) : f185_L := [.c (f185_p 15) 0]
noncomputable def f185_C_c3 (k : Nat) : f185_S := fun σ => f185_a k (f185_Q_c3 k) .nx σ
def f185_s_c8 (y11_0 : Int) (y11_1 : Int) (y11_2 : Int) (y11_3 : Bool) (y11_4 : Bool) (y48 : (List Int)) (x0 : (((List (Int × Int)) × ((List (Int × (Int × (Int × Int)))) × (List (Int × Int)))) × ((List (Int × (Int × (Int × (Bool × Bool))))) × (List (List Int))))) (x12 : (List Int)) : St := mkS 65 208 [(0, .cp (.one (.fptr Tq23 x0 0))), (11, aP 11), (12, aV (.int .i64) x12), (13, aO 48)] [(11, .box [cI y11_0, cI y11_1, cI y11_2, pB y11_3, pB y11_4]), (48, .vec (.int .i64) y48)]
abbrev f185_t_c8 := Int → Int → Int → Bool → Bool → (List Int) → (((List (Int × Int)) × ((List (Int × (Int × (Int × Int)))) × (List (Int × Int)))) × ((List (Int × (Int × (Int × (Bool × Bool))))) × (List (List Int)))) → (List Int) → Option (Bool × Unit)
abbrev f185_o_c8 (R : f185_S) : f185_t_c8 := (fun y11_0 y11_1 y11_2 y11_3 y11_4 y48 x0 x12 => R (f185_s_c8 y11_0 y11_1 y11_2 y11_3 y11_4 y48 x0 x12))
noncomputable def f185_Q_c8 (k : Nat) : f185_L := [.c (f185_p 127) 0]
noncomputable def f185_C_c8 (k : Nat) : f185_S := fun σ => f185_a k (f185_Q_c8 k) .nx σ
def f185_s_c10 (x12 : (List Int)) (x13 : (List Int)) : St := mkS 65 208 [(12, aV (.int .i64) x12), (13, aV (.int .i64) x13)] []
abbrev f185_t_c10 := (List Int) → (List Int) → Option (Bool × Unit)
abbrev f185_o_c10 (R : f185_S) : f185_t_c10 := (fun x12 x13 => R (f185_s_c10 x12 x13))
noncomputable def f185_Q_c10 (k : Nat) : f185_L := [.c (f185_p 255) 0]
noncomputable def f185_C_c10 (k : Nat) : f185_S := fun σ => f185_a k (f185_Q_c10 k) .nx σ
noncomputable def f185_F_c10 (k : Nat) : f185_L := .c (f185_p 255) 0 :: []
theorem f185_f_c10 (k : Nat) : f185_a k (f185_Q_c10 k) = f185_a k (f185_F_c10 k) := (ap_cons _ rfl)
noncomputable def f185_F_c8 (k : Nat) (G_c10 : f185_S) : f185_L := .c (f185_p 508) 0 :: .c (f185_p 509) 0 :: .j G_c10 :: f185_F_c10 k
theorem f185_f_c8 (k : Nat) : f185_a k (f185_Q_c8 k) = f185_a k (f185_F_c8 k (f185_C_c10 k)) := (Eq.trans ap_sq (Eq.trans ap_sq (ap_cons _ (ap_cons _ (Eq.trans (ap_pass (C := (f185_C_c10 k)) (fun _ => rfl)) (ap_cons _ (f185_f_c10 k)))))))
noncomputable def f185_F_c3 (k : Nat) (G_c8 G_c10 : f185_S) : f185_L := .c (f185_p 30) 0 :: .c (f185_p 62) 0 :: .c (f185_p 252) 0 :: .c (f185_p 253) 0 :: .j G_c8 :: f185_F_c8 k G_c10
theorem f185_f_c3 (k : Nat) : f185_a k (f185_Q_c3 k) = f185_a k (f185_F_c3 k (f185_C_c8 k) (f185_C_c10 k)) := (Eq.trans ap_sq (ap_cons _ (Eq.trans ap_sq (ap_cons _ (Eq.trans ap_sq (Eq.trans ap_sq (ap_cons _ (ap_cons _ (Eq.trans (ap_pass (C := (f185_C_c8 k)) (fun _ => rfl)) (ap_cons _ (f185_f_c8 k)))))))))))
noncomputable def f185_F_r3 (k : Nat) (G_c3 G_c8 G_c10 : f185_S) : f185_L := .c (f185_p 117) 0 :: .j (fun σ => G_c3 (cut f185_A.conds 3 σ)) :: f185_F_c3 k G_c8 G_c10
theorem f185_f_r3 (k : Nat) : f185_a k (f185_Q_r3 k) = f185_a k (f185_F_r3 k (f185_C_c3 k) (f185_C_c8 k) (f185_C_c10 k)) := (ap_cons _ (Eq.trans (ap_condj (C := (f185_C_c3 k)) (fun _ => rfl)) (ap_cons _ (f185_f_c3 k))))
noncomputable def f185_F_r2 (k : Nat) (G_r3 G_c3 G_c8 G_c10 : f185_S) : f185_L := .i (.tmp 29) (fun σ => f185_a k (.c (f185_p 116) 0 :: .j G_r3 :: f185_F_r3 k G_c3 G_c8 G_c10) .nx σ) (fun σ => f185_a k (.c (f185_p 59) 0 :: .j (fun σ => G_c3 (cut f185_A.conds 3 σ)) :: f185_F_c3 k G_c8 G_c10) .nx σ) :: f185_F_c3 k G_c8 G_c10
theorem f185_f_r2 (k : Nat) : f185_a k (f185_Q_r2 k) = f185_a k (f185_F_r2 k (f185_C_r3 k) (f185_C_c3 k) (f185_C_c8 k) (f185_C_c10 k)) := (Eq.trans (ap_cn (.tmp 29) 3) (Eq.trans (ap_i (Eq.trans ap_sq (ap_cons _ (Eq.trans (ap_pass (C := (f185_C_r3 k)) (fun _ => rfl)) (ap_cons _ (f185_f_r3 k))))) (ap_cons _ (Eq.trans (ap_condj (C := (f185_C_c3 k)) (fun _ => rfl)) (ap_cons _ (f185_f_c3 k))))) (ap_cons _ (f185_f_c3 k))))
def f185_entry_B (k : Nat) (g_r2 : f185_t_r2) (a0 : Td26) (a1 : Int) (a2 : Int) (a3 : Int) (a4 : Int) : Option (Bool × Unit) := (if 0 ≤ a2 then (if a2 < (a0.2.1.length : Int) then (if ¬ ((((((a0.2.1.getD (a2).toNat (0, (0, (0, (false, false))))).2).2).2).1) = true) then (g_r2 ((a0.2.1.getD (a2).toNat (0, (0, (0, (false, false))))).1) (((a0.2.1.getD (a2).toNat (0, (0, (0, (false, false))))).2).1) ((((a0.2.1.getD (a2).toNat (0, (0, (0, (false, false))))).2).2).1) (decide ((((((a0.2.1.getD (a2).toNat (0, (0, (0, (false, false))))).2).2).2).1) = true)) (decide ((((((a0.2.1.getD (a2).toNat (0, (0, (0, (false, false))))).2).2).2).2) = true)) a0 a1 true a3 a4) else (g_r2 ((a0.2.1.getD (a2).toNat (0, (0, (0, (false, false))))).1) (((a0.2.1.getD (a2).toNat (0, (0, (0, (false, false))))).2).1) ((((a0.2.1.getD (a2).toNat (0, (0, (0, (false, false))))).2).2).1) (decide ((((((a0.2.1.getD (a2).toNat (0, (0, (0, (false, false))))).2).2).2).1) = true)) (decide ((((((a0.2.1.getD (a2).toNat (0, (0, (0, (false, false))))).2).2).2).2) = true)) a0 a1 (decide (¬ (a3 = ((a0.2.1.getD (a2).toNat (0, (0, (0, (false, false))))).1)))) a3 a4)) else none) else none)
def f185_r2_B (k : Nat) (g_r3 : f185_t_r3) (g_c3 : f185_t_c3) (y11_0 : Int) (y11_1 : Int) (y11_2 : Int) (y11_3 : Bool) (y11_4 : Bool) (x0 : (((List (Int × Int)) × ((List (Int × (Int × (Int × Int)))) × (List (Int × Int)))) × ((List (Int × (Int × (Int × (Bool × Bool))))) × (List (List Int))))) (x1 : Int) (x29 : Bool) (x3 : Int) (x4 : Int) : Option (Bool × Unit) := (if x29 = true then (if ¬ (y11_3 = true) then (g_r3 true) else (g_r3 (decide (x3 < y11_0)))) else (g_c3 y11_0 y11_1 y11_2 (decide (y11_3 = true)) (decide (y11_4 = true)) x0 x1 x4))
def f185_r3_B (k : Nat) (x10 : Bool) : Option (Bool × Unit) := some (decide (x10 = true), ())
def f185_c3_B (k : Nat) (g_c8 : f185_t_c8) (y11_0 : Int) (y11_1 : Int) (y11_2 : Int) (y11_3 : Bool) (y11_4 : Bool) (x0 : (((List (Int × Int)) × ((List (Int × (Int × (Int × Int)))) × (List (Int × Int)))) × ((List (Int × (Int × (Int × (Bool × Bool))))) × (List (List Int))))) (x1 : Int) (x4 : Int) : Option (Bool × Unit) := (if ¬ (x4 = y11_1) then some (decide (x4 < y11_1), ()) else (if 0 ≤ x1 then ((f101 k x0 x1).bind fun r1 => (g_c8 y11_0 y11_1 y11_2 (decide (y11_3 = true)) (decide (y11_4 = true)) ([] : List Int) x0 r1.1)) else (g_c8 y11_0 y11_1 y11_2 (decide (y11_3 = true)) (decide (y11_4 = true)) ([] : List Int) x0 ([] : List Int))))
def f185_c8_B (k : Nat) (g_c10 : f185_t_c10) (y11_0 : Int) (y11_1 : Int) (y11_2 : Int) (y11_3 : Bool) (y11_4 : Bool) (y48 : (List Int)) (x0 : (((List (Int × Int)) × ((List (Int × (Int × (Int × Int)))) × (List (Int × Int)))) × ((List (Int × (Int × (Int × (Bool × Bool))))) × (List (List Int))))) (x12 : (List Int)) : Option (Bool × Unit) := (if 0 ≤ y11_2 then ((f101 k x0 y11_2).bind fun r1 => (g_c10 x12 r1.1)) else (g_c10 x12 y48))
def f185_c10_B (k : Nat) (x12 : (List Int)) (x13 : (List Int)) : Option (Bool × Unit) := ((f68 k x12 x13).bind fun r1 => some (decide (r1.1 < 0), ()))
theorem f185_r3_P (k : Nat) (G_c3 G_c8 G_c10 : f185_S) : f185_o_r3 (fun σ => f185_a k (f185_F_r3 k G_c3 G_c8 G_c10) .nx σ) = f185_r3_B k := by kernel_rfl
def f185_r3 (k : Nat) : f185_t_r3 := f185_r3_B k
theorem f185_r3_E (k : Nat) : f185_o_r3 (f185_C_r3 k) = f185_r3 k :=
  Eq.trans (congrArg f185_o_r3 (ap_fn (f185_f_r3 k))) ((f185_r3_P k (f185_C_c3 k) (f185_C_c8 k) (f185_C_c10 k)).trans (by rfl))
theorem f185_c10_P (k : Nat) : f185_o_c10 (fun σ => f185_a k (f185_F_c10 k) .nx σ) = f185_c10_B k := by kernel_rfl
def f185_c10 (k : Nat) : f185_t_c10 := f185_c10_B k
theorem f185_c10_E (k : Nat) : f185_o_c10 (f185_C_c10 k) = f185_c10 k :=
  Eq.trans (congrArg f185_o_c10 (ap_fn (f185_f_c10 k))) ((f185_c10_P k).trans (by rfl))
theorem f185_c8_P (k : Nat) (G_c10 : f185_S) : f185_o_c8 (fun σ => f185_a k (f185_F_c8 k G_c10) .nx σ) = f185_c8_B k (f185_o_c10 G_c10) := by kernel_rfl
def f185_c8 (k : Nat) : f185_t_c8 := f185_c8_B k (f185_c10 k)
theorem f185_c8_E (k : Nat) : f185_o_c8 (f185_C_c8 k) = f185_c8 k :=
  Eq.trans (congrArg f185_o_c8 (ap_fn (f185_f_c8 k))) ((f185_c8_P k (f185_C_c10 k)).trans (by rw [f185_c10_E k] <;> rfl))
theorem f185_c3_P (k : Nat) (G_c8 G_c10 : f185_S) : f185_o_c3 (fun σ => f185_a k (f185_F_c3 k G_c8 G_c10) .nx σ) = f185_c3_B k (f185_o_c8 G_c8) := by kernel_rfl
def f185_c3 (k : Nat) : f185_t_c3 := f185_c3_B k (f185_c8 k)
theorem f185_c3_E (k : Nat) : f185_o_c3 (f185_C_c3 k) = f185_c3 k :=
  Eq.trans (congrArg f185_o_c3 (ap_fn (f185_f_c3 k))) ((f185_c3_P k (f185_C_c8 k) (f185_C_c10 k)).trans (by rw [f185_c8_E k] <;> rfl))
theorem f185_r2_P (k : Nat) (G_r3 G_c3 G_c8 G_c10 : f185_S) : f185_o_r2 (fun σ => f185_a k (f185_F_r2 k G_r3 G_c3 G_c8 G_c10) .nx σ) = f185_r2_B k (f185_o_r3 G_r3) (f185_o_c3 G_c3) := by kernel_rfl
def f185_r2 (k : Nat) : f185_t_r2 := f185_r2_B k (f185_r3 k) (f185_c3 k)
theorem f185_r2_E (k : Nat) : f185_o_r2 (f185_C_r2 k) = f185_r2 k :=
  Eq.trans (congrArg f185_o_r2 (ap_fn (f185_f_r2 k))) ((f185_r2_P k (f185_C_r3 k) (f185_C_c3 k) (f185_C_c8 k) (f185_C_c10 k)).trans (by rw [f185_r3_E k, f185_c3_E k] <;> rfl))
theorem f185_entry_P (k : Nat) (G_r2 G_r3 G_c3 G_c8 G_c10 : f185_S) (xs : DL f185_sig) : f185_a k (.c (f185_p 2) 0 :: .c (f185_p 6) 0 :: .c (f185_p 28) 0 :: .j G_r2 :: f185_F_r2 k G_r3 G_c3 G_c8 G_c10) .nx (σ0 65 208 f185_sig xs) = f185_entry_B k (f185_o_r2 G_r2) xs.1 xs.2.1 xs.2.2.1 xs.2.2.2.1 xs.2.2.2.2.1 := by kernel_rfl
def f185 (k : Nat) (a0 : Td26) (a1 : Int) (a2 : Int) (a3 : Int) (a4 : Int) : Option (Bool × Unit) := f185_entry_B k (f185_r2 k) a0 a1 a2 a3 a4
theorem f185_fe (k : Nat) : f185_a k [.c (f185_p 1) 0] = f185_a k (.c (f185_p 2) 0 :: .c (f185_p 6) 0 :: .c (f185_p 28) 0 :: .j (f185_C_r2 k) :: f185_F_r2 k (f185_C_r3 k) (f185_C_c3 k) (f185_C_c8 k) (f185_C_c10 k)) := (Eq.trans ap_sq (ap_cons _ (Eq.trans ap_sq (ap_cons _ (Eq.trans ap_sq (Eq.trans ap_sq (ap_cons _ (Eq.trans (ap_pass (C := (f185_C_r2 k)) (fun _ => rfl)) (ap_cons _ (f185_f_r2 k))))))))))
theorem f185_eq (k : Nat) (xs : DL f185_sig) : den T f185_Y (f185_E k) f185_A k f185_c 0 (σ0 65 208 f185_sig xs) (Kfin T f185_rs f185_ts) = f185 k xs.1 xs.2.1 xs.2.2.1 xs.2.2.2.1 xs.2.2.2.2.1 :=
  Eq.trans (Eq.trans den_sb (ap_at (f185_fe k) _)) ((f185_entry_P k (f185_C_r2 k) (f185_C_r3 k) (f185_C_c3 k) (f185_C_c8 k) (f185_C_c10 k) xs).trans (by rw [f185_r2_E k] <;> rfl))
noncomputable def f185_con (k : Nat) : Con := ⟨f185_sig, f185_rs, fun xs => f185 k xs.1 xs.2.1 xs.2.2.1 xs.2.2.2.1 xs.2.2.2.2.1⟩
theorem f185_ok (k : Nat) : PureOK Try.prog 185 f185_sig f185_rs (fun xs => f185 k xs.1 xs.2.1 xs.2.2.1 xs.2.2.2.1 xs.2.2.2.2.1) :=
  (pure_of_den (k := k) (A := f185_A) (T := T) (Y := f185_Y) (E := f185_E k) (M := 208) (ts := f185_ts) T_ok ⟨f68_ok k, f101_ok k, trivial⟩ ⟨f68_ent, f101_ent, trivial⟩ mixed (f := 185) (fn := Try.f185) (c := f185_c) (by kernel_rfl) (by kernel_rfl) (by kernel_rfl) (by decide) (by kernel_rfl)).congr fun xs => (f185_eq k xs).symm
theorem f185_ent : Ent Try.prog 185 := fun args w => by kernel_rfl
/-! ### (*terrier/route.search).offer: function 149 -/
noncomputable def f149_c : Code := Try.f149.body.getD .skip
noncomputable abbrev f149_p (n : Nat) : Code := sb f149_c n
abbrev f149_sig : List PT := [(false, (.int .i64)), (false, (.int .i64))]
abbrev f149_rs : List RT := []
abbrev f149_ts : List RV := []
abbrev f149_ls : List LO := [.box [.d Tq7, .o, .d Tq12], .row Tq16]
abbrev f149_S := St → Option (LOD f149_ls × RDL f149_rs)
abbrev f149_L := List (Fr (LOD f149_ls × RDL f149_rs))
def f149_Y : Tys := []
noncomputable def f149_E (k : Nat) : Env := [(185, .c (f185_con k))]
def f149_A : Ann := { conds := [(2, { slots := [(0, .id), (1, .id), (2, .id), (6, .id), (7, .id)], keys := [(0, [.val false Tq1, .val false Tq4, .val false Tq1, .id, .val false Tq0]), (1, [])] }), (4, { slots := [(0, .id)], keys := [(0, [.val false Tq1, .val false Tq4, .val false Tq1, .id, .val false Tq0]), (1, [])] })], regs := [(3, { slots := [(0, .id), (1, .id), (2, .id), (6, .id), (7, .id), (54, .bool)], keys := [(0, [.val false Tq1, .val false Tq4, .val false Tq1, .id, .val false Tq0]), (1, [])] })] }
noncomputable abbrev f149_a (k : Nat) (F : f149_L) : Kont (LOD f149_ls × RDL f149_rs) := ap T f149_Y (f149_E k) f149_A k (KfinB T true f149_ls f149_rs f149_ts) F
def f149_s_c2 (y0_0 : (List (Int × Int))) (y0_1 : (List (Int × (Int × (Int × Int))))) (y0_2 : (List (Int × Int))) (y0_4 : (List (List Int))) (y1 : (List (Int × (Int × (Int × (Bool × Bool)))))) (x1 : Int) (x2 : Int) (x6 : Int) (x7 : Int) : St := mkS 65 210 [(0, aP 0), (1, aI x1), (2, aI x2), (6, aI x6), (7, aI x7)] [(0, .box [cV Tq1 y0_0, cV Tq4 y0_1, cV Tq1 y0_2, .own 1, cV Tq0 y0_4]), (1, .vec Tq16 y1)]
abbrev f149_t_c2 := (List (Int × Int)) → (List (Int × (Int × (Int × Int)))) → (List (Int × Int)) → (List (List Int)) → (List (Int × (Int × (Int × (Bool × Bool))))) → Int → Int → Int → Int → Option (((Td11 × Td17 × Unit) × (List (Int × Td19)) × Unit) × (Unit))
abbrev f149_o_c2 (R : f149_S) : f149_t_c2 := (fun y0_0 y0_1 y0_2 y0_4 y1 x1 x2 x6 x7 => R (f149_s_c2 y0_0 y0_1 y0_2 y0_4 y1 x1 x2 x6 x7))
noncomputable def f149_Q_c2 (k : Nat) : f149_L := [.c (f149_p 7) 0]
noncomputable def f149_C_c2 (k : Nat) : f149_S := fun σ => f149_a k (f149_Q_c2 k) .nx σ
def f149_s_r3 (y0_0 : (List (Int × Int))) (y0_1 : (List (Int × (Int × (Int × Int))))) (y0_2 : (List (Int × Int))) (y0_4 : (List (List Int))) (y1 : (List (Int × (Int × (Int × (Bool × Bool)))))) (x1 : Int) (x2 : Int) (x54 : Bool) (x6 : Int) (x7 : Int) : St := mkS 65 210 [(0, aP 0), (1, aI x1), (2, aI x2), (6, aI x6), (7, aI x7), (54, aB x54)] [(0, .box [cV Tq1 y0_0, cV Tq4 y0_1, cV Tq1 y0_2, .own 1, cV Tq0 y0_4]), (1, .vec Tq16 y1)]
abbrev f149_t_r3 := (List (Int × Int)) → (List (Int × (Int × (Int × Int)))) → (List (Int × Int)) → (List (List Int)) → (List (Int × (Int × (Int × (Bool × Bool))))) → Int → Int → Bool → Int → Int → Option (((Td11 × Td17 × Unit) × (List (Int × Td19)) × Unit) × (Unit))
abbrev f149_o_r3 (R : f149_S) : f149_t_r3 := (fun y0_0 y0_1 y0_2 y0_4 y1 x1 x2 x54 x6 x7 => R (f149_s_r3 y0_0 y0_1 y0_2 y0_4 y1 x1 x2 x54 x6 x7))
noncomputable def f149_Q_r3 (k : Nat) : f149_L := [.c (f149_p 15) 0]
noncomputable def f149_C_r3 (k : Nat) : f149_S := fun σ => f149_a k (f149_Q_r3 k) .nx σ
def f149_s_c4 (y0_0 : (List (Int × Int))) (y0_1 : (List (Int × (Int × (Int × Int))))) (y0_2 : (List (Int × Int))) (y0_4 : (List (List Int))) (y1 : (List (Int × (Int × (Int × (Bool × Bool)))))) : St := mkS 65 210 [(0, aP 0)] [(0, .box [cV Tq1 y0_0, cV Tq4 y0_1, cV Tq1 y0_2, .own 1, cV Tq0 y0_4]), (1, .vec Tq16 y1)]
abbrev f149_t_c4 := (List (Int × Int)) → (List (Int × (Int × (Int × Int)))) → (List (Int × Int)) → (List (List Int)) → (List (Int × (Int × (Int × (Bool × Bool))))) → Option (((Td11 × Td17 × Unit) × (List (Int × Td19)) × Unit) × (Unit))
abbrev f149_o_c4 (R : f149_S) : f149_t_c4 := (fun y0_0 y0_1 y0_2 y0_4 y1 => R (f149_s_c4 y0_0 y0_1 y0_2 y0_4 y1))
noncomputable def f149_Q_c4 (k : Nat) : f149_L := []
noncomputable def f149_C_c4 (k : Nat) : f149_S := fun σ => f149_a k (f149_Q_c4 k) .nx σ
noncomputable def f149_F_c4 (k : Nat) : f149_L := []
theorem f149_f_c4 (k : Nat) : f149_a k (f149_Q_c4 k) = f149_a k (f149_F_c4 k) := rfl
noncomputable def f149_F_r3 (k : Nat) (G_c4 : f149_S) : f149_L := .c (f149_p 15) 0 :: .j G_c4 :: f149_F_c4 k
theorem f149_f_r3 (k : Nat) : f149_a k (f149_Q_r3 k) = f149_a k (f149_F_r3 k (f149_C_c4 k)) := (ap_cons _ (Eq.trans (ap_pass (C := (f149_C_c4 k)) (fun _ => rfl)) (ap_cons _ (f149_f_c4 k))))
noncomputable def f149_F_c2 (k : Nat) (G_r3 G_c4 : f149_S) : f149_L := .c (f149_p 14) 0 :: .j G_r3 :: f149_F_r3 k G_c4
theorem f149_f_c2 (k : Nat) : f149_a k (f149_Q_c2 k) = f149_a k (f149_F_c2 k (f149_C_r3 k) (f149_C_c4 k)) := (Eq.trans ap_sq (ap_cons _ (Eq.trans (ap_pass (C := (f149_C_r3 k)) (fun _ => rfl)) (ap_cons _ (f149_f_r3 k)))))
def f149_entry_B (k : Nat) (g_c2 : f149_t_c2) (l0 : Td11) (l1 : Td17) (l2 : Td24) (a0 : Int) (a1 : Int) : Option (((Td11 × Td17 × Unit) × (List (Int × Td19)) × Unit) × (Unit)) := (if 0 ≤ a1 then (if a1 < (l0.2.1.length : Int) then (if 0 ≤ a0 then (if 0 ≤ a0 then (if a0 < (l2.length : Int) then (if 0 ≤ a0 then (if a0 < (l2.length : Int) then (g_c2 l0.1 l0.2.1 l0.2.2 l1 l2 a0 a1 (w64 (((((l0.2.1.getD (a1).toNat (0, (0, (0, 0)))).2).2).1) + ((l2.getD ((a0).toNat) (0, (0, (0, (false, false))))).1))) (w64 (1 + (((l2.getD ((a0).toNat) (0, (0, (0, (false, false))))).2).1)))) else none) else none) else none) else none) else (g_c2 l0.1 l0.2.1 l0.2.2 l1 l2 a0 a1 ((((l0.2.1.getD (a1).toNat (0, (0, (0, 0)))).2).2).1) 1)) else none) else none)
def f149_c2_B (k : Nat) (g_r3 : f149_t_r3) (y0_0 : (List (Int × Int))) (y0_1 : (List (Int × (Int × (Int × Int))))) (y0_2 : (List (Int × Int))) (y0_4 : (List (List Int))) (y1 : (List (Int × (Int × (Int × (Bool × Bool)))))) (x1 : Int) (x2 : Int) (x6 : Int) (x7 : Int) : Option (((Td11 × Td17 × Unit) × (List (Int × Td19)) × Unit) × (Unit)) := (if 0 ≤ x2 then (if x2 < (y1.length : Int) then (if ¬ ((((((y1.getD ((x2).toNat) (0, (0, (0, (false, false))))).2).2).2).2) = true) then ((f185 k ((y0_0, (y0_1, y0_2)), (y1, y0_4)) x1 x2 x6 x7).bind fun r1 => (g_r3 y0_0 y0_1 y0_2 y0_4 y1 x1 x2 (decide (r1.1 = true)) x6 x7)) else (g_r3 y0_0 y0_1 y0_2 y0_4 y1 x1 x2 false x6 x7)) else none) else none)
def f149_r3_B (k : Nat) (g_c4 : f149_t_c4) (y0_0 : (List (Int × Int))) (y0_1 : (List (Int × (Int × (Int × Int))))) (y0_2 : (List (Int × Int))) (y0_4 : (List (List Int))) (y1 : (List (Int × (Int × (Int × (Bool × Bool)))))) (x1 : Int) (x2 : Int) (x54 : Bool) (x6 : Int) (x7 : Int) : Option (((Td11 × Td17 × Unit) × (List (Int × Td19)) × Unit) × (Unit)) := (if x54 = true then (if 0 ≤ x2 then (if x2 < (y1.length : Int) then (g_c4 y0_0 y0_1 y0_2 y0_4 (y1.set ((x2).toNat) (x6, (x7, (x1, (true, false)))))) else none) else none) else (g_c4 y0_0 y0_1 y0_2 y0_4 y1))
def f149_c4_B (k : Nat) (y0_0 : (List (Int × Int))) (y0_1 : (List (Int × (Int × (Int × Int))))) (y0_2 : (List (Int × Int))) (y0_4 : (List (List Int))) (y1 : (List (Int × (Int × (Int × (Bool × Bool)))))) : Option (((Td11 × Td17 × Unit) × (List (Int × Td19)) × Unit) × (Unit)) := some ((((y0_0, (y0_1, y0_2)), y0_4, ()), (y1, ())), (()))
theorem f149_c4_P (k : Nat) : f149_o_c4 (fun σ => f149_a k (f149_F_c4 k) .nx σ) = f149_c4_B k := by kernel_rfl
def f149_c4 (k : Nat) : f149_t_c4 := f149_c4_B k
theorem f149_c4_E (k : Nat) : f149_o_c4 (f149_C_c4 k) = f149_c4 k :=
  Eq.trans (congrArg f149_o_c4 (ap_fn (f149_f_c4 k))) ((f149_c4_P k).trans (by rfl))
theorem f149_r3_P (k : Nat) (G_c4 : f149_S) : f149_o_r3 (fun σ => f149_a k (f149_F_r3 k G_c4) .nx σ) = f149_r3_B k (f149_o_c4 G_c4) := by kernel_rfl
def f149_r3 (k : Nat) : f149_t_r3 := f149_r3_B k (f149_c4 k)
theorem f149_r3_E (k : Nat) : f149_o_r3 (f149_C_r3 k) = f149_r3 k :=
  Eq.trans (congrArg f149_o_r3 (ap_fn (f149_f_r3 k))) ((f149_r3_P k (f149_C_c4 k)).trans (by rw [f149_c4_E k] <;> rfl))
theorem f149_c2_P (k : Nat) (G_r3 G_c4 : f149_S) : f149_o_c2 (fun σ => f149_a k (f149_F_c2 k G_r3 G_c4) .nx σ) = f149_c2_B k (f149_o_r3 G_r3) := by kernel_rfl
def f149_c2 (k : Nat) : f149_t_c2 := f149_c2_B k (f149_r3 k)
theorem f149_c2_E (k : Nat) : f149_o_c2 (f149_C_c2 k) = f149_c2 k :=
  Eq.trans (congrArg f149_o_c2 (ap_fn (f149_f_c2 k))) ((f149_c2_P k (f149_C_r3 k) (f149_C_c4 k)).trans (by rw [f149_r3_E k] <;> rfl))
theorem f149_entry_P (k : Nat) (G_c2 G_r3 G_c4 : f149_S) (x : LOD f149_ls) (xs : DL f149_sig) : f149_a k (.c (f149_p 2) 0 :: .c (f149_p 12) 0 :: .c (f149_p 13) 0 :: .j G_c2 :: f149_F_c2 k G_r3 G_c4) .nx (σ0B 65 210 0 f149_ls x f149_sig xs) = f149_entry_B k (f149_o_c2 G_c2) x.1.1 x.1.2.1 x.2.1 xs.1 xs.2.1 := by kernel_rfl
def f149 (k : Nat) (l0 : Td11) (l1 : Td17) (l2 : Td24) (a0 : Int) (a1 : Int) : Option (((Td11 × Td17 × Unit) × (List (Int × Td19)) × Unit) × (Unit)) := f149_entry_B k (f149_c2 k) l0 l1 l2 a0 a1
theorem f149_fe (k : Nat) : f149_a k [.c (f149_p 1) 0] = f149_a k (.c (f149_p 2) 0 :: .c (f149_p 12) 0 :: .c (f149_p 13) 0 :: .j (f149_C_c2 k) :: f149_F_c2 k (f149_C_r3 k) (f149_C_c4 k)) := (Eq.trans ap_sq (ap_cons _ (Eq.trans ap_sq (Eq.trans ap_sq (ap_cons _ (ap_cons _ (Eq.trans (ap_pass (C := (f149_C_c2 k)) (fun _ => rfl)) (ap_cons _ (f149_f_c2 k)))))))))
theorem f149_eq (k : Nat) (x : LOD f149_ls) (xs : DL f149_sig) : den T f149_Y (f149_E k) f149_A k f149_c 0 (σ0B 65 210 0 f149_ls x f149_sig xs) (KfinB T true f149_ls f149_rs f149_ts) = f149 k x.1.1 x.1.2.1 x.2.1 xs.1 xs.2.1 :=
  Eq.trans (Eq.trans den_sb (ap_at (f149_fe k) _)) ((f149_entry_P k (f149_C_c2 k) (f149_C_r3 k) (f149_C_c4 k) x xs).trans (by rw [f149_c2_E k] <;> rfl))
noncomputable def f149_con (k : Nat) : BCon := ⟨0, true, f149_ls, f149_sig, f149_rs, fun x xs => f149 k x.1.1 x.1.2.1 x.2.1 xs.1 xs.2.1⟩
theorem f149_ok (k : Nat) : BoxOK Try.prog 149 0 true f149_ls f149_sig f149_rs (fun x xs => f149 k x.1.1 x.1.2.1 x.2.1 xs.1 xs.2.1) :=
  (box_of_den (k := k) (A := f149_A) (T := T) (Y := f149_Y) (E := f149_E k) (M := 210) (ts := f149_ts) T_ok ⟨f185_ok k, trivial⟩ ⟨f185_ent, trivial⟩ mixed (f := 149) (fn := Try.f149) (c := f149_c) (by kernel_rfl) (by kernel_rfl) (by kernel_rfl) (by decide) (by kernel_rfl) (by decide)).congr fun x xs => (f149_eq k x xs).symm
theorem f149_ent : Ent Try.prog 149 := fun args w => by kernel_rfl
/-! ### (*terrier/route.search).before: function 100 -/
noncomputable def f100_c : Code := Try.f100.body.getD .skip
noncomputable abbrev f100_p (n : Nat) : Code := sb f100_c n
abbrev f100_sig : List PT := [(false, (.ptr Tq23)), (false, (.int .i64)), (false, (.int .i64))]
abbrev f100_rs : List RT := [.d false .bool]
abbrev f100_ts : List RV := [.tmp 6]
abbrev f100_S := St → Option (RDL f100_rs)
abbrev f100_L := List (Fr (RDL f100_rs))
def f100_Y : Tys := []
noncomputable def f100_E (k : Nat) : Env := [(68, .c (f68_con k)), (101, .c (f101_con k))]
def f100_A : Ann := {}
noncomputable abbrev f100_a (k : Nat) (F : f100_L) : Kont (RDL f100_rs) := ap T f100_Y (f100_E k) f100_A k (Kfin T f100_rs f100_ts) F
def f100_entry_B (k : Nat) (a0 : Td26) (a1 : Int) (a2 : Int) : Option (Bool × Unit) := (if 0 ≤ a1 then (if a1 < (a0.2.1.length : Int) then (if 0 ≤ a2 then (if a2 < (a0.2.1.length : Int) then (if ¬ (((a0.2.1.getD (a1).toNat (0, (0, (0, (false, false))))).1) = ((a0.2.1.getD (a2).toNat (0, (0, (0, (false, false))))).1)) then some (decide (((a0.2.1.getD (a1).toNat (0, (0, (0, (false, false))))).1) < ((a0.2.1.getD (a2).toNat (0, (0, (0, (false, false))))).1)), ()) else (if ¬ ((((a0.2.1.getD (a1).toNat (0, (0, (0, (false, false))))).2).1) = (((a0.2.1.getD (a2).toNat (0, (0, (0, (false, false))))).2).1)) then some (decide ((((a0.2.1.getD (a1).toNat (0, (0, (0, (false, false))))).2).1) < (((a0.2.1.getD (a2).toNat (0, (0, (0, (false, false))))).2).1)), ()) else ((f101 k a0 a1).bind fun r1 => ((f101 k a0 a2).bind fun r2 => ((f68 k r1.1 r2.1).bind fun r3 => some (decide (r3.1 < 0), ())))))) else none) else none) else none) else none)
theorem f100_entry_P (k : Nat) (xs : DL f100_sig) : f100_a k (.c (f100_p 1) 0 :: []) .nx (σ0 51 160 f100_sig xs) = f100_entry_B k xs.1 xs.2.1 xs.2.2.1 := by kernel_rfl
def f100 (k : Nat) (a0 : Td26) (a1 : Int) (a2 : Int) : Option (Bool × Unit) := f100_entry_B k a0 a1 a2
theorem f100_eq (k : Nat) (xs : DL f100_sig) : den T f100_Y (f100_E k) f100_A k f100_c 0 (σ0 51 160 f100_sig xs) (Kfin T f100_rs f100_ts) = f100 k xs.1 xs.2.1 xs.2.2.1 :=
  Eq.trans (Eq.trans den_sb (ap_at (ap_cons _ rfl) _)) ((f100_entry_P k xs).trans (by rfl))
noncomputable def f100_con (k : Nat) : Con := ⟨f100_sig, f100_rs, fun xs => f100 k xs.1 xs.2.1 xs.2.2.1⟩
theorem f100_ok (k : Nat) : PureOK Try.prog 100 f100_sig f100_rs (fun xs => f100 k xs.1 xs.2.1 xs.2.2.1) :=
  (pure_of_den (k := k) (A := f100_A) (T := T) (Y := f100_Y) (E := f100_E k) (M := 160) (ts := f100_ts) T_ok ⟨f68_ok k, f101_ok k, trivial⟩ ⟨f68_ent, f101_ent, trivial⟩ mixed (f := 100) (fn := Try.f100) (c := f100_c) (by kernel_rfl) (by kernel_rfl) (by kernel_rfl) (by decide) (by kernel_rfl)).congr fun xs => (f100_eq k xs).symm
theorem f100_ent : Ent Try.prog 100 := fun args w => by kernel_rfl
/-! ### (*terrier/route.search).least: function 150 -/
noncomputable def f150_c : Code := Try.f150.body.getD .skip
noncomputable abbrev f150_p (n : Nat) : Code := sb f150_c n
abbrev f150_sig : List PT := [(false, (.ptr Tq23))]
abbrev f150_rs : List RT := [.d false (.int .i64)]
abbrev f150_ts : List RV := [.tmp 2]
abbrev f150_S := St → Option (RDL f150_rs)
abbrev f150_L := List (Fr (RDL f150_rs))
def f150_Y : Tys := []
noncomputable def f150_E (k : Nat) : Env := [(100, .c (f100_con k))]
def f150_A : Ann := { loops := [(0, { slots := [(0, .id), (3, .id), (9, .val false Tq16), (10, .id), (11, .id)] })], regs := [(5, { slots := [(0, .id), (3, .id), (4, .id), (9, .val false Tq16), (10, .id), (11, .id), (22, .bool)] }), (6, { slots := [(0, .id), (3, .id), (4, .id), (9, .val false Tq16), (10, .id), (11, .id), (30, .bool)] })], blks := [(1, { slots := [(0, .id), (3, .id), (9, .val false Tq16), (10, .id), (11, .id)] })], conds := [(7, { slots := [(0, .id), (3, .id), (9, .val false Tq16), (10, .id), (11, .id)] })] }
noncomputable abbrev f150_a (k : Nat) (F : f150_L) : Kont (RDL f150_rs) := ap T f150_Y (f150_E k) f150_A k (Kfin T f150_rs f150_ts) F
def f150_s_l0 (x0 : (((List (Int × Int)) × ((List (Int × (Int × (Int × Int)))) × (List (Int × Int)))) × ((List (Int × (Int × (Int × (Bool × Bool))))) × (List (List Int))))) (x10 : Int) (x11 : Int) (x3 : Int) (x9 : (List (Int × (Int × (Int × (Bool × Bool)))))) : St := mkS 34 112 [(0, .cp (.one (.fptr Tq23 x0 0))), (3, aI x3), (9, aV Tq16 x9), (10, aI x10), (11, aI x11)] []
abbrev f150_t_l0 := (((List (Int × Int)) × ((List (Int × (Int × (Int × Int)))) × (List (Int × Int)))) × ((List (Int × (Int × (Int × (Bool × Bool))))) × (List (List Int)))) → Int → Int → Int → (List (Int × (Int × (Int × (Bool × Bool))))) → Option (Int × Unit)
abbrev f150_o_l0 (R : f150_S) : f150_t_l0 := (fun x0 x10 x11 x3 x9 => R (f150_s_l0 x0 x10 x11 x3 x9))
noncomputable def f150_Q_l0 (k : Nat) (R_l0 : f150_S) : f150_L := [.c (f150_p 116) 0, .j (fun σ => R_l0 (cut f150_A.loops 0 σ)), .blk 0, .c (f150_p 15) 0]
noncomputable def f150_C_l0 (k : Nat) (n : Nat) (σ : St) : Option (RDL f150_rs) := loopK (fun σ K => den T f150_Y (f150_E k) f150_A k (f150_p 116) 0 σ K) (cut f150_A.loops 0) (f150_a k [.blk 0, .c (f150_p 15) 0]) n σ
def f150_s_r5 (x0 : (((List (Int × Int)) × ((List (Int × (Int × (Int × Int)))) × (List (Int × Int)))) × ((List (Int × (Int × (Int × (Bool × Bool))))) × (List (List Int))))) (x10 : Int) (x11 : Int) (x22 : Bool) (x3 : Int) (x9 : (List (Int × (Int × (Int × (Bool × Bool)))))) : St := mkS 34 112 [(0, .cp (.one (.fptr Tq23 x0 0))), (3, aI x3), (4, aI x11), (9, aV Tq16 x9), (10, aI x10), (11, aI x11), (22, aB x22)] []
abbrev f150_t_r5 := (((List (Int × Int)) × ((List (Int × (Int × (Int × Int)))) × (List (Int × Int)))) × ((List (Int × (Int × (Int × (Bool × Bool))))) × (List (List Int)))) → Int → Int → Bool → Int → (List (Int × (Int × (Int × (Bool × Bool))))) → Option (Int × Unit)
abbrev f150_o_r5 (R : f150_S) : f150_t_r5 := (fun x0 x10 x11 x22 x3 x9 => R (f150_s_r5 x0 x10 x11 x22 x3 x9))
noncomputable def f150_Q_r5 (k : Nat) (R_l0 : f150_S) : f150_L := [.c (f150_p 14949) 1, .c (f150_p 7475) 1, .blk 1, .c (f150_p 935) 0, .j (fun σ => R_l0 (cut f150_A.loops 0 σ)), .blk 0, .c (f150_p 15) 0]
noncomputable def f150_C_r5 (k : Nat) (R_l0 : f150_S) : f150_S := fun σ => f150_a k (f150_Q_r5 k R_l0) .nx σ
def f150_s_b1 (x0 : (((List (Int × Int)) × ((List (Int × (Int × (Int × Int)))) × (List (Int × Int)))) × ((List (Int × (Int × (Int × (Bool × Bool))))) × (List (List Int))))) (x10 : Int) (x11 : Int) (x3 : Int) (x9 : (List (Int × (Int × (Int × (Bool × Bool)))))) : St := mkS 34 112 [(0, .cp (.one (.fptr Tq23 x0 0))), (3, aI x3), (9, aV Tq16 x9), (10, aI x10), (11, aI x11)] []
abbrev f150_t_b1 := (((List (Int × Int)) × ((List (Int × (Int × (Int × Int)))) × (List (Int × Int)))) × ((List (Int × (Int × (Int × (Bool × Bool))))) × (List (List Int)))) → Int → Int → Int → (List (Int × (Int × (Int × (Bool × Bool))))) → Option (Int × Unit)
abbrev f150_o_b1 (R : f150_S) : f150_t_b1 := (fun x0 x10 x11 x3 x9 => R (f150_s_b1 x0 x10 x11 x3 x9))
noncomputable def f150_Q_b1 (k : Nat) (R_l0 : f150_S) : f150_L := [.c (f150_p 935) 0, .j (fun σ => R_l0 (cut f150_A.loops 0 σ)), .blk 0, .c (f150_p 15) 0]
noncomputable def f150_C_b1 (k : Nat) (R_l0 : f150_S) : f150_S := fun σ => f150_a k (f150_Q_b1 k R_l0) .nx σ
def f150_s_r6 (x0 : (((List (Int × Int)) × ((List (Int × (Int × (Int × Int)))) × (List (Int × Int)))) × ((List (Int × (Int × (Int × (Bool × Bool))))) × (List (List Int))))) (x10 : Int) (x11 : Int) (x3 : Int) (x30 : Bool) (x9 : (List (Int × (Int × (Int × (Bool × Bool)))))) : St := mkS 34 112 [(0, .cp (.one (.fptr Tq23 x0 0))), (3, aI x3), (4, aI x11), (9, aV Tq16 x9), (10, aI x10), (11, aI x11), (30, aB x30)] []
abbrev f150_t_r6 := (((List (Int × Int)) × ((List (Int × (Int × (Int × Int)))) × (List (Int × Int)))) × ((List (Int × (Int × (Int × (Bool × Bool))))) × (List (List Int)))) → Int → Int → Int → Bool → (List (Int × (Int × (Int × (Bool × Bool))))) → Option (Int × Unit)
abbrev f150_o_r6 (R : f150_S) : f150_t_r6 := (fun x0 x10 x11 x3 x30 x9 => R (f150_s_r6 x0 x10 x11 x3 x30 x9))
noncomputable def f150_Q_r6 (k : Nat) (R_l0 : f150_S) : f150_L := [.c (f150_p 14951) 1, .blk 1, .c (f150_p 935) 0, .j (fun σ => R_l0 (cut f150_A.loops 0 σ)), .blk 0, .c (f150_p 15) 0]
noncomputable def f150_C_r6 (k : Nat) (R_l0 : f150_S) : f150_S := fun σ => f150_a k (f150_Q_r6 k R_l0) .nx σ
def f150_s_c7 (x0 : (((List (Int × Int)) × ((List (Int × (Int × (Int × Int)))) × (List (Int × Int)))) × ((List (Int × (Int × (Int × (Bool × Bool))))) × (List (List Int))))) (x10 : Int) (x11 : Int) (x3 : Int) (x9 : (List (Int × (Int × (Int × (Bool × Bool)))))) : St := mkS 34 112 [(0, .cp (.one (.fptr Tq23 x0 0))), (3, aI x3), (9, aV Tq16 x9), (10, aI x10), (11, aI x11)] []
abbrev f150_t_c7 := (((List (Int × Int)) × ((List (Int × (Int × (Int × Int)))) × (List (Int × Int)))) × ((List (Int × (Int × (Int × (Bool × Bool))))) × (List (List Int)))) → Int → Int → Int → (List (Int × (Int × (Int × (Bool × Bool))))) → Option (Int × Unit)
abbrev f150_o_c7 (R : f150_S) : f150_t_c7 := (fun x0 x10 x11 x3 x9 => R (f150_s_c7 x0 x10 x11 x3 x9))
noncomputable def f150_Q_c7 (k : Nat) (R_l0 : f150_S) : f150_L := [.blk 1, .c (f150_p 935) 0, .j (fun σ => R_l0 (cut f150_A.loops 0 σ)), .blk 0, .c (f150_p 15) 0]
noncomputable def f150_C_c7 (k : Nat) (R_l0 : f150_S) : f150_S := fun σ => f150_a k (f150_Q_c7 k R_l0) .nx σ
noncomputable def f150_F_b1 (k : Nat) (G_l0 : f150_S) : f150_L := .c (f150_p 935) 0 :: .j (fun σ => G_l0 (cut f150_A.loops 0 σ)) :: .blk 0 :: .c (f150_p 15) 0 :: []
theorem f150_f_b1 (k : Nat) (R_l0 : f150_S) : f150_a k (f150_Q_b1 k R_l0) = f150_a k (f150_F_b1 k R_l0) := (ap_cons _ (ap_cons _ (ap_cons _ (ap_cons _ rfl))))
noncomputable def f150_F_c7 (k : Nat) (G_l0 G_b1 : f150_S) : f150_L := .b 1 (fun σ => G_b1 (cut f150_A.blks 1 σ)) :: f150_F_b1 k G_l0
theorem f150_f_c7 (k : Nat) (R_l0 : f150_S) : f150_a k (f150_Q_c7 k R_l0) = f150_a k (f150_F_c7 k R_l0 (f150_C_b1 k R_l0)) := (Eq.trans (ap_blkb (C := (f150_C_b1 k R_l0)) (fun _ => rfl)) (ap_cons _ (f150_f_b1 k R_l0)))
noncomputable def f150_F_r6 (k : Nat) (G_l0 G_b1 G_c7 : f150_S) : f150_L := .c (f150_p 14951) 1 :: .j G_c7 :: f150_F_c7 k G_l0 G_b1
theorem f150_f_r6 (k : Nat) (R_l0 : f150_S) : f150_a k (f150_Q_r6 k R_l0) = f150_a k (f150_F_r6 k R_l0 (f150_C_b1 k R_l0) (f150_C_c7 k R_l0)) := (ap_cons _ (Eq.trans (ap_pass (C := (f150_C_c7 k R_l0)) (fun _ => rfl)) (ap_cons _ (f150_f_c7 k R_l0))))
noncomputable def f150_F_r5 (k : Nat) (G_l0 G_b1 G_r6 G_c7 : f150_S) : f150_L := .c (f150_p 14949) 1 :: .c (f150_p 14950) 1 :: .j G_r6 :: f150_F_r6 k G_l0 G_b1 G_c7
theorem f150_f_r5 (k : Nat) (R_l0 : f150_S) : f150_a k (f150_Q_r5 k R_l0) = f150_a k (f150_F_r5 k R_l0 (f150_C_b1 k R_l0) (f150_C_r6 k R_l0) (f150_C_c7 k R_l0)) := (ap_cons _ (Eq.trans ap_sq (ap_cons _ (Eq.trans (ap_pass (C := (f150_C_r6 k R_l0)) (fun _ => rfl)) (ap_cons _ (f150_f_r6 k R_l0))))))
noncomputable def f150_F_l0 (k : Nat) (G_l0 G_r5 G_b1 G_r6 G_c7 : f150_S) : f150_L := .c (f150_p 232) 0 :: .c (f150_p 466) 0 :: .j (fun σ => f150_a k (.c (f150_p 3736) 1 :: .c (f150_p 14948) 1 :: .j G_r5 :: f150_F_r5 k G_l0 G_b1 G_r6 G_c7) .nx σ) :: f150_F_b1 k G_l0
theorem f150_f_l0 (k : Nat) (R_l0 : f150_S) : f150_a k (f150_Q_l0 k R_l0) = f150_a k (f150_F_l0 k R_l0 (f150_C_r5 k R_l0) (f150_C_b1 k R_l0) (f150_C_r6 k R_l0) (f150_C_c7 k R_l0)) := (Eq.trans ap_sq (ap_cons _ (Eq.trans ap_sq (ap_cons _ (Eq.trans ap_sq (Eq.trans (ap_bl 1) (Eq.trans (ap_j (Eq.trans ap_sq (ap_cons _ (Eq.trans ap_sq (Eq.trans ap_sq (ap_cons _ (Eq.trans (ap_pass (C := (f150_C_r5 k R_l0)) (fun _ => rfl)) (ap_cons _ (f150_f_r5 k R_l0))))))))) (ap_cons _ (f150_f_b1 k R_l0)))))))))
def f150_entry_B (k : Nat) (g_l0 : f150_t_l0) (a0 : Td26) : Option (Int × Unit) := (g_l0 a0 (a0.2.1.length : Int) 0 (-1) a0.2.1)
def f150_l0_B (k : Nat) (g_r5 : f150_t_r5) (x0 : (((List (Int × Int)) × ((List (Int × (Int × (Int × Int)))) × (List (Int × Int)))) × ((List (Int × (Int × (Int × (Bool × Bool))))) × (List (List Int))))) (x10 : Int) (x11 : Int) (x3 : Int) (x9 : (List (Int × (Int × (Int × (Bool × Bool)))))) : Option (Int × Unit) := (if x11 < x10 then (if 0 ≤ x11 then (if x11 < (x9.length : Int) then (if ¬ ((((((x9.getD (x11).toNat (0, (0, (0, (false, false))))).2).2).2).1) = true) then (g_r5 x0 x10 x11 true x3 x9) else (g_r5 x0 x10 x11 (decide ((((((x9.getD (x11).toNat (0, (0, (0, (false, false))))).2).2).2).2) = true)) x3 x9)) else none) else none) else some (x3, ()))
def f150_r5_B (k : Nat) (g_b1 : f150_t_b1) (g_r6 : f150_t_r6) (x0 : (((List (Int × Int)) × ((List (Int × (Int × (Int × Int)))) × (List (Int × Int)))) × ((List (Int × (Int × (Int × (Bool × Bool))))) × (List (List Int))))) (x10 : Int) (x11 : Int) (x22 : Bool) (x3 : Int) (x9 : (List (Int × (Int × (Int × (Bool × Bool)))))) : Option (Int × Unit) := (if x22 = true then (g_b1 x0 x10 x11 x3 x9) else (if x3 < 0 then (g_r6 x0 x10 x11 x3 true x9) else ((f100 k x0 x11 x3).bind fun r1 => (g_r6 x0 x10 x11 x3 (decide (r1.1 = true)) x9))))
def f150_b1_B (k : Nat) (g_l0 : f150_t_l0) (x0 : (((List (Int × Int)) × ((List (Int × (Int × (Int × Int)))) × (List (Int × Int)))) × ((List (Int × (Int × (Int × (Bool × Bool))))) × (List (List Int))))) (x10 : Int) (x11 : Int) (x3 : Int) (x9 : (List (Int × (Int × (Int × (Bool × Bool)))))) : Option (Int × Unit) := (g_l0 x0 x10 (w64 (x11 + 1)) x3 x9)
def f150_r6_B (k : Nat) (g_c7 : f150_t_c7) (x0 : (((List (Int × Int)) × ((List (Int × (Int × (Int × Int)))) × (List (Int × Int)))) × ((List (Int × (Int × (Int × (Bool × Bool))))) × (List (List Int))))) (x10 : Int) (x11 : Int) (x3 : Int) (x30 : Bool) (x9 : (List (Int × (Int × (Int × (Bool × Bool)))))) : Option (Int × Unit) := (if x30 = true then (g_c7 x0 x10 x11 x11 x9) else (g_c7 x0 x10 x11 x3 x9))
def f150_c7_B (k : Nat) (g_b1 : f150_t_b1) (x0 : (((List (Int × Int)) × ((List (Int × (Int × (Int × Int)))) × (List (Int × Int)))) × ((List (Int × (Int × (Int × (Bool × Bool))))) × (List (List Int))))) (x10 : Int) (x11 : Int) (x3 : Int) (x9 : (List (Int × (Int × (Int × (Bool × Bool)))))) : Option (Int × Unit) := (g_b1 x0 x10 x11 x3 x9)
theorem f150_b1_P (k : Nat) (G_l0 : f150_S) : f150_o_b1 (fun σ => f150_a k (f150_F_b1 k G_l0) .nx σ) = f150_b1_B k (f150_o_l0 G_l0) := by kernel_rfl
def f150_b1 (k : Nat) (r_l0 : f150_t_l0) : f150_t_b1 := f150_b1_B k r_l0
theorem f150_b1_E (k : Nat) (R_l0 : f150_S) : f150_o_b1 (f150_C_b1 k R_l0) = f150_b1 k (f150_o_l0 R_l0) :=
  Eq.trans (congrArg f150_o_b1 (ap_fn (f150_f_b1 k R_l0))) ((f150_b1_P k R_l0).trans (by rfl))
theorem f150_c7_P (k : Nat) (G_l0 G_b1 : f150_S) : f150_o_c7 (fun σ => f150_a k (f150_F_c7 k G_l0 G_b1) .nx σ) = f150_c7_B k (f150_o_b1 G_b1) := by kernel_rfl
def f150_c7 (k : Nat) (r_l0 : f150_t_l0) : f150_t_c7 := f150_c7_B k (f150_b1 k r_l0)
theorem f150_c7_E (k : Nat) (R_l0 : f150_S) : f150_o_c7 (f150_C_c7 k R_l0) = f150_c7 k (f150_o_l0 R_l0) :=
  Eq.trans (congrArg f150_o_c7 (ap_fn (f150_f_c7 k R_l0))) ((f150_c7_P k R_l0 (f150_C_b1 k R_l0)).trans (by rw [f150_b1_E k R_l0] <;> rfl))
theorem f150_r6_P (k : Nat) (G_l0 G_b1 G_c7 : f150_S) : f150_o_r6 (fun σ => f150_a k (f150_F_r6 k G_l0 G_b1 G_c7) .nx σ) = f150_r6_B k (f150_o_c7 G_c7) := by kernel_rfl
def f150_r6 (k : Nat) (r_l0 : f150_t_l0) : f150_t_r6 := f150_r6_B k (f150_c7 k r_l0)
theorem f150_r6_E (k : Nat) (R_l0 : f150_S) : f150_o_r6 (f150_C_r6 k R_l0) = f150_r6 k (f150_o_l0 R_l0) :=
  Eq.trans (congrArg f150_o_r6 (ap_fn (f150_f_r6 k R_l0))) ((f150_r6_P k R_l0 (f150_C_b1 k R_l0) (f150_C_c7 k R_l0)).trans (by rw [f150_c7_E k R_l0] <;> rfl))
theorem f150_r5_P (k : Nat) (G_l0 G_b1 G_r6 G_c7 : f150_S) : f150_o_r5 (fun σ => f150_a k (f150_F_r5 k G_l0 G_b1 G_r6 G_c7) .nx σ) = f150_r5_B k (f150_o_b1 G_b1) (f150_o_r6 G_r6) := by kernel_rfl
def f150_r5 (k : Nat) (r_l0 : f150_t_l0) : f150_t_r5 := f150_r5_B k (f150_b1 k r_l0) (f150_r6 k r_l0)
theorem f150_r5_E (k : Nat) (R_l0 : f150_S) : f150_o_r5 (f150_C_r5 k R_l0) = f150_r5 k (f150_o_l0 R_l0) :=
  Eq.trans (congrArg f150_o_r5 (ap_fn (f150_f_r5 k R_l0))) ((f150_r5_P k R_l0 (f150_C_b1 k R_l0) (f150_C_r6 k R_l0) (f150_C_c7 k R_l0)).trans (by rw [f150_b1_E k R_l0, f150_r6_E k R_l0] <;> rfl))
theorem f150_l0_P (k : Nat) (G_l0 G_r5 G_b1 G_r6 G_c7 : f150_S) : f150_o_l0 (fun σ => f150_a k (f150_F_l0 k G_l0 G_r5 G_b1 G_r6 G_c7) .nx σ) = f150_l0_B k (f150_o_r5 G_r5) := by kernel_rfl
def f150_l0 (k : Nat) : Nat → f150_t_l0
  | 0 => fun _ _ _ _ _ => none
  | n + 1 => f150_l0_B k (f150_r5 k (f150_l0 k n))
theorem f150_l0_E (k : Nat) : ∀ n, f150_o_l0 (f150_C_l0 k n) = f150_l0 k n
  | 0 => rfl
  | n + 1 =>
    Eq.trans (congrArg f150_o_l0 (Eq.trans (b := fun σ => f150_a k (f150_Q_l0 k (f150_C_l0 k n)) .nx σ) (by kernel_rfl) (ap_fn (f150_f_l0 k (f150_C_l0 k n))))) ((f150_l0_P k (f150_C_l0 k n) (f150_C_r5 k (f150_C_l0 k n)) (f150_C_b1 k (f150_C_l0 k n)) (f150_C_r6 k (f150_C_l0 k n)) (f150_C_c7 k (f150_C_l0 k n))).trans (by rw [f150_r5_E k (f150_C_l0 k n), f150_l0_E k n] <;> rfl))
theorem f150_entry_P (k : Nat) (G_l0 : f150_S) (xs : DL f150_sig) : f150_a k (.c (f150_p 2) 0 :: .c (f150_p 6) 0 :: .c (f150_p 28) 0 :: .j (fun σ => f150_a k (.j (fun σ => G_l0 (cut f150_A.loops 0 σ)) :: .blk 0 :: .c (f150_p 15) 0 :: []) .nx σ) :: .c (f150_p 15) 0 :: []) .nx (σ0 34 112 f150_sig xs) = f150_entry_B k (f150_o_l0 G_l0) xs.1 := by kernel_rfl
def f150 (k : Nat) (a0 : Td26) : Option (Int × Unit) := f150_entry_B k (f150_l0 k k) a0
theorem f150_fe (k : Nat) : f150_a k [.c (f150_p 1) 0] = f150_a k (.c (f150_p 2) 0 :: .c (f150_p 6) 0 :: .c (f150_p 28) 0 :: .j (fun σ => f150_a k (.j (fun σ => (f150_C_l0 k k) (cut f150_A.loops 0 σ)) :: .blk 0 :: .c (f150_p 15) 0 :: []) .nx σ) :: .c (f150_p 15) 0 :: []) := (Eq.trans ap_sq (ap_cons _ (Eq.trans ap_sq (ap_cons _ (Eq.trans ap_sq (Eq.trans ap_sq (ap_cons _ (Eq.trans (ap_bl 0) (Eq.trans (ap_j (Eq.trans (ap_lp (C := (f150_C_l0 k)) (fun _ _ => rfl)) (ap_cons _ (ap_cons _ (ap_cons _ rfl))))) (ap_cons _ (ap_cons _ rfl)))))))))))
theorem f150_eq (k : Nat) (xs : DL f150_sig) : den T f150_Y (f150_E k) f150_A k f150_c 0 (σ0 34 112 f150_sig xs) (Kfin T f150_rs f150_ts) = f150 k xs.1 :=
  Eq.trans (Eq.trans den_sb (ap_at (f150_fe k) _)) ((f150_entry_P k (f150_C_l0 k k) xs).trans (by rw [f150_l0_E k k] <;> rfl))
noncomputable def f150_con (k : Nat) : Con := ⟨f150_sig, f150_rs, fun xs => f150 k xs.1⟩
theorem f150_ok (k : Nat) : PureOK Try.prog 150 f150_sig f150_rs (fun xs => f150 k xs.1) :=
  (pure_of_den (k := k) (A := f150_A) (T := T) (Y := f150_Y) (E := f150_E k) (M := 112) (ts := f150_ts) T_ok ⟨f100_ok k, trivial⟩ ⟨f100_ent, trivial⟩ mixed (f := 150) (fn := Try.f150) (c := f150_c) (by kernel_rfl) (by kernel_rfl) (by kernel_rfl) (by decide) (by kernel_rfl)).congr fun xs => (f150_eq k xs).symm
theorem f150_ent : Ent Try.prog 150 := fun args w => by kernel_rfl
/-! ### (*terrier/route.search).run: function 98 -/
noncomputable def f98_c : Code := Try.f98.body.getD .skip
noncomputable abbrev f98_p (n : Nat) : Code := sb f98_c n
abbrev f98_sig : List PT := [(false, (.int .i64))]
abbrev f98_rs : List RT := []
abbrev f98_ts : List RV := []
abbrev f98_ls : List LO := [.box [.d Tq7, .o, .d Tq12], .row Tq16]
abbrev f98_S := St → Option (LOD f98_ls × RDL f98_rs)
abbrev f98_L := List (Fr (LOD f98_ls × RDL f98_rs))
def f98_Y : Tys := []
noncomputable def f98_E (k : Nat) : Env := [(107, .c (f107_con k)), (149, .b (f149_con k)), (150, .c (f150_con k))]
def f98_A : Ann := { loops := [(0, { slots := [(0, .id), (14, .id), (15, .id), (16, .id)], keys := [(0, [.val false Tq1, .val false Tq4, .val false Tq1, .id, .val false Tq0]), (1, []), (14, [])] }), (2, { slots := [(0, .id), (6, .id)], keys := [(0, [.val false Tq1, .val false Tq4, .val false Tq1, .id, .val false Tq0]), (1, [])] }), (4, { slots := [(0, .id), (6, .id), (43, .val false (.int .i64)), (44, .id), (45, .id)], keys := [(0, [.val false Tq1, .val false Tq4, .val false Tq1, .id, .val false Tq0]), (1, [])] })] }
noncomputable abbrev f98_a (k : Nat) (F : f98_L) : Kont (LOD f98_ls × RDL f98_rs) := ap T f98_Y (f98_E k) f98_A k (KfinB T true f98_ls f98_rs f98_ts) F
def f98_s_l0 (y0_0 : (List (Int × Int))) (y0_1 : (List (Int × (Int × (Int × Int))))) (y0_2 : (List (Int × Int))) (y0_4 : (List (List Int))) (y1 : (List (Int × (Int × (Int × (Bool × Bool)))))) (y14 : (List Int)) (x15 : Int) (x16 : Int) : St := mkS 54 162 [(0, aP 0), (14, aO 14), (15, aI x15), (16, aI x16)] [(0, .box [cV Tq1 y0_0, cV Tq4 y0_1, cV Tq1 y0_2, .own 1, cV Tq0 y0_4]), (1, .vec Tq16 y1), (14, .vec (.int .i64) y14)]
abbrev f98_t_l0 := (List (Int × Int)) → (List (Int × (Int × (Int × Int)))) → (List (Int × Int)) → (List (List Int)) → (List (Int × (Int × (Int × (Bool × Bool))))) → (List Int) → Int → Int → Option (((Td11 × Td17 × Unit) × (List (Int × Td19)) × Unit) × (Unit))
abbrev f98_o_l0 (R : f98_S) : f98_t_l0 := (fun y0_0 y0_1 y0_2 y0_4 y1 y14 x15 x16 => R (f98_s_l0 y0_0 y0_1 y0_2 y0_4 y1 y14 x15 x16))
noncomputable def f98_Q_l0 (k : Nat) (R_l0 : f98_S) : f98_L := [.c (f98_p 20) 0, .j (fun σ => R_l0 (cut f98_A.loops 0 σ)), .blk 0, .c (f98_p 3) 0]
noncomputable def f98_C_l0 (k : Nat) (n : Nat) (σ : St) : Option (LOD f98_ls × RDL f98_rs) := loopK (fun σ K => den T f98_Y (f98_E k) f98_A k (f98_p 20) 0 σ K) (cut f98_A.loops 0) (f98_a k [.blk 0, .c (f98_p 3) 0]) n σ
def f98_s_l2 (y0_0 : (List (Int × Int))) (y0_1 : (List (Int × (Int × (Int × Int))))) (y0_2 : (List (Int × Int))) (y0_4 : (List (List Int))) (y1 : (List (Int × (Int × (Int × (Bool × Bool)))))) (x6 : Int) : St := mkS 54 162 [(0, aP 0), (6, aI x6)] [(0, .box [cV Tq1 y0_0, cV Tq4 y0_1, cV Tq1 y0_2, .own 1, cV Tq0 y0_4]), (1, .vec Tq16 y1)]
abbrev f98_t_l2 := (List (Int × Int)) → (List (Int × (Int × (Int × Int)))) → (List (Int × Int)) → (List (List Int)) → (List (Int × (Int × (Int × (Bool × Bool))))) → Int → Option (((Td11 × Td17 × Unit) × (List (Int × Td19)) × Unit) × (Unit))
abbrev f98_o_l2 (R : f98_S) : f98_t_l2 := (fun y0_0 y0_1 y0_2 y0_4 y1 x6 => R (f98_s_l2 y0_0 y0_1 y0_2 y0_4 y1 x6))
noncomputable def f98_Q_l2 (k : Nat) (R_l2 : f98_S) : f98_L := [.c (f98_p 28) 2, .j (fun σ => R_l2 (cut f98_A.loops 2 σ)), .blk 2]
noncomputable def f98_C_l2 (k : Nat) (n : Nat) (σ : St) : Option (LOD f98_ls × RDL f98_rs) := loopK (fun σ K => den T f98_Y (f98_E k) f98_A k (f98_p 28) 2 σ K) (cut f98_A.loops 2) (f98_a k [.blk 2]) n σ
def f98_s_l4 (y0_0 : (List (Int × Int))) (y0_1 : (List (Int × (Int × (Int × Int))))) (y0_2 : (List (Int × Int))) (y0_4 : (List (List Int))) (y1 : (List (Int × (Int × (Int × (Bool × Bool)))))) (x43 : (List Int)) (x44 : Int) (x45 : Int) (x6 : Int) : St := mkS 54 162 [(0, aP 0), (6, aI x6), (43, aV (.int .i64) x43), (44, aI x44), (45, aI x45)] [(0, .box [cV Tq1 y0_0, cV Tq4 y0_1, cV Tq1 y0_2, .own 1, cV Tq0 y0_4]), (1, .vec Tq16 y1)]
abbrev f98_t_l4 := (List (Int × Int)) → (List (Int × (Int × (Int × Int)))) → (List (Int × Int)) → (List (List Int)) → (List (Int × (Int × (Int × (Bool × Bool))))) → (List Int) → Int → Int → Int → Option (((Td11 × Td17 × Unit) × (List (Int × Td19)) × Unit) × (Unit))
abbrev f98_o_l4 (R : f98_S) : f98_t_l4 := (fun y0_0 y0_1 y0_2 y0_4 y1 x43 x44 x45 x6 => R (f98_s_l4 y0_0 y0_1 y0_2 y0_4 y1 x43 x44 x45 x6))
noncomputable def f98_Q_l4 (k : Nat) (R_l2 R_l4 : f98_S) : f98_L := [.c (f98_p 3660) 4, .j (fun σ => R_l4 (cut f98_A.loops 4 σ)), .blk 4, .blk 3, .c (f98_p 115) 2, .j (fun σ => R_l2 (cut f98_A.loops 2 σ)), .blk 2]
noncomputable def f98_C_l4 (k : Nat) (R_l2 : f98_S) (n : Nat) (σ : St) : Option (LOD f98_ls × RDL f98_rs) := loopK (fun σ K => den T f98_Y (f98_E k) f98_A k (f98_p 3660) 4 σ K) (cut f98_A.loops 4) (f98_a k [.blk 4, .blk 3, .c (f98_p 115) 2, .j (fun σ => R_l2 (cut f98_A.loops 2 σ)), .blk 2]) n σ
noncomputable def f98_F_l0 (k : Nat) (G_l0 G_l2 : f98_S) : f98_L := .c (f98_p 20) 0 :: .j (fun σ => G_l0 (cut f98_A.loops 0 σ)) :: .blk 0 :: .c (f98_p 6) 0 :: .j (fun σ => f98_a k (.j (fun σ => G_l2 (cut f98_A.loops 2 σ)) :: .blk 2 :: []) .nx σ) :: []
theorem f98_f_l0 (k : Nat) (R_l0 : f98_S) : f98_a k (f98_Q_l0 k R_l0) = f98_a k (f98_F_l0 k R_l0 (f98_C_l2 k k)) := (ap_cons _ (ap_cons _ (ap_cons _ (Eq.trans ap_sq (ap_cons _ (Eq.trans (ap_bl 2) (Eq.trans (ap_j (Eq.trans (ap_lp (C := (f98_C_l2 k)) (fun _ _ => rfl)) (ap_cons _ (ap_cons _ rfl)))) (ap_cons _ rfl))))))))
noncomputable def f98_F_l2 (k : Nat) (G_l2 G_l4 : f98_S) : f98_L := .c (f98_p 56) 2 :: .j (fun σ => f98_a k (.c (f98_p 456) 3 :: .c (f98_p 914) 3 :: .j (fun σ => f98_a k (.j (fun σ => G_l4 (cut f98_A.loops 4 σ)) :: .blk 4 :: .blk 3 :: .c (f98_p 115) 2 :: .j (fun σ => G_l2 (cut f98_A.loops 2 σ)) :: .blk 2 :: []) .nx σ) :: .blk 3 :: .c (f98_p 115) 2 :: .j (fun σ => G_l2 (cut f98_A.loops 2 σ)) :: .blk 2 :: []) .nx σ) :: .c (f98_p 115) 2 :: .j (fun σ => G_l2 (cut f98_A.loops 2 σ)) :: .blk 2 :: []
theorem f98_f_l2 (k : Nat) (R_l2 : f98_S) : f98_a k (f98_Q_l2 k R_l2) = f98_a k (f98_F_l2 k R_l2 (f98_C_l4 k R_l2 k)) := (Eq.trans ap_sq (ap_cons _ (Eq.trans ap_sq (Eq.trans (ap_bl 3) (Eq.trans (ap_j (Eq.trans ap_sq (ap_cons _ (Eq.trans ap_sq (ap_cons _ (Eq.trans (ap_bl 4) (Eq.trans (ap_j (Eq.trans (ap_lp (C := (f98_C_l4 k R_l2)) (fun _ _ => rfl)) (ap_cons _ (ap_cons _ (ap_cons _ (ap_cons _ (ap_cons _ (ap_cons _ rfl)))))))) (ap_cons _ (ap_cons _ (ap_cons _ (ap_cons _ (ap_cons _ rfl)))))))))))) (ap_cons _ (ap_cons _ (ap_cons _ (ap_cons _ rfl)))))))))
noncomputable def f98_F_l4 (k : Nat) (G_l2 G_l4 : f98_S) : f98_L := .c (f98_p 3660) 4 :: .j (fun σ => G_l4 (cut f98_A.loops 4 σ)) :: .blk 4 :: .blk 3 :: .c (f98_p 115) 2 :: .j (fun σ => G_l2 (cut f98_A.loops 2 σ)) :: .blk 2 :: []
theorem f98_f_l4 (k : Nat) (R_l2 R_l4 : f98_S) : f98_a k (f98_Q_l4 k R_l2 R_l4) = f98_a k (f98_F_l4 k R_l2 R_l4) := (ap_cons _ (ap_cons _ (ap_cons _ (ap_cons _ (ap_cons _ (ap_cons _ (ap_cons _ rfl)))))))
def f98_entry_B (k : Nat) (g_l0 : f98_t_l0) (l0 : Td11) (l1 : Td17) (l2 : Td24) (a0 : Int) : Option (((Td11 × Td17 × Unit) × (List (Int × Td19)) × Unit) × (Unit)) := ((f107 k (l0.1, (l0.2.1, l0.2.2)) a0).bind fun r1 => (g_l0 l0.1 l0.2.1 l0.2.2 l1 l2 r1.1 (r1.1.length : Int) 0))
def f98_l0_B (k : Nat) (g_l0 : f98_t_l0) (g_l2 : f98_t_l2) (y0_0 : (List (Int × Int))) (y0_1 : (List (Int × (Int × (Int × Int))))) (y0_2 : (List (Int × Int))) (y0_4 : (List (List Int))) (y1 : (List (Int × (Int × (Int × (Bool × Bool)))))) (y14 : (List Int)) (x15 : Int) (x16 : Int) : Option (((Td11 × Td17 × Unit) × (List (Int × Td19)) × Unit) × (Unit)) := (if x16 < x15 then (if 0 ≤ x16 then (if x16 < (y14.length : Int) then ((f149 k (y0_0, (y0_1, y0_2)) y0_4 y1 (-1) (y14.getD ((x16).toNat) 0)).bind fun r1 => (g_l0 r1.1.1.1.1 r1.1.1.1.2.1 r1.1.1.1.2.2 r1.1.1.2.1 r1.1.2.1 y14 x15 (w64 (x16 + 1)))) else none) else none) else ((f150 k ((y0_0, (y0_1, y0_2)), (y1, y0_4))).bind fun r2 => (g_l2 y0_0 y0_1 y0_2 y0_4 y1 r2.1)))
def f98_l2_B (k : Nat) (g_l4 : f98_t_l4) (y0_0 : (List (Int × Int))) (y0_1 : (List (Int × (Int × (Int × Int))))) (y0_2 : (List (Int × Int))) (y0_4 : (List (List Int))) (y1 : (List (Int × (Int × (Int × (Bool × Bool)))))) (x6 : Int) : Option (((Td11 × Td17 × Unit) × (List (Int × Td19)) × Unit) × (Unit)) := (if 0 ≤ x6 then (if 0 ≤ x6 then (if x6 < (y1.length : Int) then (if 0 ≤ x6 then (if x6 < (y0_4.length : Int) then (g_l4 y0_0 y0_1 y0_2 y0_4 (y1.set ((x6).toNat) ((y1.getD ((x6).toNat) (0, (0, (0, (false, false))))).1, (((y1.getD ((x6).toNat) (0, (0, (0, (false, false))))).2).1, ((((y1.getD ((x6).toNat) (0, (0, (0, (false, false))))).2).2).1, (decide ((((((y1.getD ((x6).toNat) (0, (0, (0, (false, false))))).2).2).2).1) = true), true))))) (y0_4.getD (x6).toNat []) ((y0_4.getD (x6).toNat []).length : Int) 0 x6) else none) else none) else none) else none) else some ((((y0_0, (y0_1, y0_2)), y0_4, ()), (y1, ())), (())))
def f98_l4_B (k : Nat) (g_l2 : f98_t_l2) (g_l4 : f98_t_l4) (y0_0 : (List (Int × Int))) (y0_1 : (List (Int × (Int × (Int × Int))))) (y0_2 : (List (Int × Int))) (y0_4 : (List (List Int))) (y1 : (List (Int × (Int × (Int × (Bool × Bool)))))) (x43 : (List Int)) (x44 : Int) (x45 : Int) (x6 : Int) : Option (((Td11 × Td17 × Unit) × (List (Int × Td19)) × Unit) × (Unit)) := (if x45 < x44 then (if 0 ≤ x45 then (if x45 < (x43.length : Int) then ((f149 k (y0_0, (y0_1, y0_2)) y0_4 y1 x6 (x43.getD (x45).toNat 0)).bind fun r1 => (g_l4 r1.1.1.1.1 r1.1.1.1.2.1 r1.1.1.1.2.2 r1.1.1.2.1 r1.1.2.1 x43 x44 (w64 (x45 + 1)) x6)) else none) else none) else ((f150 k ((y0_0, (y0_1, y0_2)), (y1, y0_4))).bind fun r2 => (g_l2 y0_0 y0_1 y0_2 y0_4 y1 r2.1)))
theorem f98_l4_P (k : Nat) (G_l2 G_l4 : f98_S) : f98_o_l4 (fun σ => f98_a k (f98_F_l4 k G_l2 G_l4) .nx σ) = f98_l4_B k (f98_o_l2 G_l2) (f98_o_l4 G_l4) := by kernel_rfl
def f98_l4 (k : Nat) (r_l2 : f98_t_l2) : Nat → f98_t_l4
  | 0 => fun _ _ _ _ _ _ _ _ _ => none
  | n + 1 => f98_l4_B k r_l2 (f98_l4 k r_l2 n)
theorem f98_l4_E (k : Nat) (R_l2 : f98_S) : ∀ n, f98_o_l4 (f98_C_l4 k R_l2 n) = f98_l4 k (f98_o_l2 R_l2) n
  | 0 => rfl
  | n + 1 =>
    Eq.trans (congrArg f98_o_l4 (Eq.trans (b := fun σ => f98_a k (f98_Q_l4 k R_l2 (f98_C_l4 k R_l2 n)) .nx σ) (by kernel_rfl) (ap_fn (f98_f_l4 k R_l2 (f98_C_l4 k R_l2 n))))) ((f98_l4_P k R_l2 (f98_C_l4 k R_l2 n)).trans (by rw [f98_l4_E k R_l2 n] <;> rfl))
theorem f98_l2_P (k : Nat) (G_l2 G_l4 : f98_S) : f98_o_l2 (fun σ => f98_a k (f98_F_l2 k G_l2 G_l4) .nx σ) = f98_l2_B k (f98_o_l4 G_l4) := by kernel_rfl
def f98_l2 (k : Nat) : Nat → f98_t_l2
  | 0 => fun _ _ _ _ _ _ => none
  | n + 1 => f98_l2_B k (f98_l4 k (f98_l2 k n) k)
theorem f98_l2_E (k : Nat) : ∀ n, f98_o_l2 (f98_C_l2 k n) = f98_l2 k n
  | 0 => rfl
  | n + 1 =>
    Eq.trans (congrArg f98_o_l2 (Eq.trans (b := fun σ => f98_a k (f98_Q_l2 k (f98_C_l2 k n)) .nx σ) (by kernel_rfl) (ap_fn (f98_f_l2 k (f98_C_l2 k n))))) ((f98_l2_P k (f98_C_l2 k n) (f98_C_l4 k (f98_C_l2 k n) k)).trans (by rw [f98_l4_E k (f98_C_l2 k n) k, f98_l2_E k n] <;> rfl))
theorem f98_l0_P (k : Nat) (G_l0 G_l2 : f98_S) : f98_o_l0 (fun σ => f98_a k (f98_F_l0 k G_l0 G_l2) .nx σ) = f98_l0_B k (f98_o_l0 G_l0) (f98_o_l2 G_l2) := by kernel_rfl
def f98_l0 (k : Nat) : Nat → f98_t_l0
  | 0 => fun _ _ _ _ _ _ _ _ => none
  | n + 1 => f98_l0_B k (f98_l0 k n) (f98_l2 k k)
theorem f98_l0_E (k : Nat) : ∀ n, f98_o_l0 (f98_C_l0 k n) = f98_l0 k n
  | 0 => rfl
  | n + 1 =>
    Eq.trans (congrArg f98_o_l0 (Eq.trans (b := fun σ => f98_a k (f98_Q_l0 k (f98_C_l0 k n)) .nx σ) (by kernel_rfl) (ap_fn (f98_f_l0 k (f98_C_l0 k n))))) ((f98_l0_P k (f98_C_l0 k n) (f98_C_l2 k k)).trans (by rw [f98_l2_E k k, f98_l0_E k n] <;> rfl))
theorem f98_entry_P (k : Nat) (G_l0 G_l2 : f98_S) (x : LOD f98_ls) (xs : DL f98_sig) : f98_a k (.c (f98_p 4) 0 :: .j (fun σ => f98_a k (.j (fun σ => G_l0 (cut f98_A.loops 0 σ)) :: .blk 0 :: .c (f98_p 6) 0 :: .j (fun σ => f98_a k (.j (fun σ => G_l2 (cut f98_A.loops 2 σ)) :: .blk 2 :: []) .nx σ) :: []) .nx σ) :: .c (f98_p 6) 0 :: .j (fun σ => f98_a k (.j (fun σ => G_l2 (cut f98_A.loops 2 σ)) :: .blk 2 :: []) .nx σ) :: []) .nx (σ0B 54 162 0 f98_ls x f98_sig xs) = f98_entry_B k (f98_o_l0 G_l0) x.1.1 x.1.2.1 x.2.1 xs.1 := by kernel_rfl
def f98 (k : Nat) (l0 : Td11) (l1 : Td17) (l2 : Td24) (a0 : Int) : Option (((Td11 × Td17 × Unit) × (List (Int × Td19)) × Unit) × (Unit)) := f98_entry_B k (f98_l0 k k) l0 l1 l2 a0
theorem f98_fe (k : Nat) : f98_a k [.c (f98_p 1) 0] = f98_a k (.c (f98_p 4) 0 :: .j (fun σ => f98_a k (.j (fun σ => (f98_C_l0 k k) (cut f98_A.loops 0 σ)) :: .blk 0 :: .c (f98_p 6) 0 :: .j (fun σ => f98_a k (.j (fun σ => (f98_C_l2 k k) (cut f98_A.loops 2 σ)) :: .blk 2 :: []) .nx σ) :: []) .nx σ) :: .c (f98_p 6) 0 :: .j (fun σ => f98_a k (.j (fun σ => (f98_C_l2 k k) (cut f98_A.loops 2 σ)) :: .blk 2 :: []) .nx σ) :: []) := (Eq.trans ap_sq (Eq.trans ap_sq (ap_cons _ (Eq.trans (ap_bl 0) (Eq.trans (ap_j (Eq.trans (ap_lp (C := (f98_C_l0 k)) (fun _ _ => rfl)) (ap_cons _ (ap_cons _ (Eq.trans ap_sq (ap_cons _ (Eq.trans (ap_bl 2) (Eq.trans (ap_j (Eq.trans (ap_lp (C := (f98_C_l2 k)) (fun _ _ => rfl)) (ap_cons _ (ap_cons _ rfl)))) (ap_cons _ rfl))))))))) (ap_cons _ (Eq.trans ap_sq (ap_cons _ (Eq.trans (ap_bl 2) (Eq.trans (ap_j (Eq.trans (ap_lp (C := (f98_C_l2 k)) (fun _ _ => rfl)) (ap_cons _ (ap_cons _ rfl)))) (ap_cons _ rfl)))))))))))
theorem f98_eq (k : Nat) (x : LOD f98_ls) (xs : DL f98_sig) : den T f98_Y (f98_E k) f98_A k f98_c 0 (σ0B 54 162 0 f98_ls x f98_sig xs) (KfinB T true f98_ls f98_rs f98_ts) = f98 k x.1.1 x.1.2.1 x.2.1 xs.1 :=
  Eq.trans (Eq.trans den_sb (ap_at (f98_fe k) _)) ((f98_entry_P k (f98_C_l0 k k) (f98_C_l2 k k) x xs).trans (by rw [f98_l0_E k k] <;> rfl))
noncomputable def f98_con (k : Nat) : BCon := ⟨0, true, f98_ls, f98_sig, f98_rs, fun x xs => f98 k x.1.1 x.1.2.1 x.2.1 xs.1⟩
theorem f98_ok (k : Nat) : BoxOK Try.prog 98 0 true f98_ls f98_sig f98_rs (fun x xs => f98 k x.1.1 x.1.2.1 x.2.1 xs.1) :=
  (box_of_den (k := k) (A := f98_A) (T := T) (Y := f98_Y) (E := f98_E k) (M := 162) (ts := f98_ts) T_ok ⟨f107_ok k, f149_ok k, f150_ok k, trivial⟩ ⟨f107_ent, f149_ent, f150_ent, trivial⟩ mixed (f := 98) (fn := Try.f98) (c := f98_c) (by kernel_rfl) (by kernel_rfl) (by kernel_rfl) (by decide) (by kernel_rfl) (by decide)).congr fun x xs => (f98_eq k x xs).symm
theorem f98_ent : Ent Try.prog 98 := fun args w => by kernel_rfl
/-! ### terrier/net.In: function 99 -/
noncomputable def f99_c : Code := Try.f99.body.getD .skip
noncomputable abbrev f99_p (n : Nat) : Code := sb f99_c n
abbrev f99_sig : List PT := [(true, Tq7), (false, (.int .i64))]
abbrev f99_rs : List RT := [.new (.int .i64)]
abbrev f99_ts : List RV := [.tmp 4]
abbrev f99_S := St → Option (RDL f99_rs)
abbrev f99_L := List (Fr (RDL f99_rs))
def f99_Y : Tys := [(3, (.int .i64))]
noncomputable def f99_E (k : Nat) : Env := []
def f99_A : Ann := { loops := [(0, { mat := [(5, 23, (.int .i64))], slots := [(1, .id), (5, .id), (9, .val false Tq4), (10, .id), (11, .id)], keys := [(23, [])] })], conds := [(6, { mat := [(5, 23, (.int .i64))], slots := [(1, .id), (5, .id), (9, .val false Tq4), (10, .id), (11, .id)], keys := [(23, [])] })] }
noncomputable abbrev f99_a (k : Nat) (F : f99_L) : Kont (RDL f99_rs) := ap T f99_Y (f99_E k) f99_A k (Kfin T f99_rs f99_ts) F
def f99_s_l0 (y23 : (List Int)) (x1 : Int) (x10 : Int) (x11 : Int) (x9 : (List (Int × (Int × (Int × Int))))) : St := mkS 26 80 [(1, aI x1), (5, aO 23), (9, aV Tq4 x9), (10, aI x10), (11, aI x11)] [(23, .vec (.int .i64) y23)]
abbrev f99_t_l0 := (List Int) → Int → Int → Int → (List (Int × (Int × (Int × Int)))) → Option ((List Int) × Unit)
abbrev f99_o_l0 (R : f99_S) : f99_t_l0 := (fun y23 x1 x10 x11 x9 => R (f99_s_l0 y23 x1 x10 x11 x9))
noncomputable def f99_Q_l0 (k : Nat) (R_l0 : f99_S) : f99_L := [.c (f99_p 116) 0, .j (fun σ => R_l0 (cut f99_A.loops 0 σ)), .blk 0, .c (f99_p 15) 0]
noncomputable def f99_C_l0 (k : Nat) (n : Nat) (σ : St) : Option (RDL f99_rs) := loopK (fun σ K => den T f99_Y (f99_E k) f99_A k (f99_p 116) 0 σ K) (cut f99_A.loops 0) (f99_a k [.blk 0, .c (f99_p 15) 0]) n σ
def f99_s_c6 (y23 : (List Int)) (x1 : Int) (x10 : Int) (x11 : Int) (x9 : (List (Int × (Int × (Int × Int))))) : St := mkS 26 80 [(1, aI x1), (5, aO 23), (9, aV Tq4 x9), (10, aI x10), (11, aI x11)] [(23, .vec (.int .i64) y23)]
abbrev f99_t_c6 := (List Int) → Int → Int → Int → (List (Int × (Int × (Int × Int)))) → Option ((List Int) × Unit)
abbrev f99_o_c6 (R : f99_S) : f99_t_c6 := (fun y23 x1 x10 x11 x9 => R (f99_s_c6 y23 x1 x10 x11 x9))
noncomputable def f99_Q_c6 (k : Nat) (R_l0 : f99_S) : f99_L := [.blk 1, .c (f99_p 935) 0, .j (fun σ => R_l0 (cut f99_A.loops 0 σ)), .blk 0, .c (f99_p 15) 0]
noncomputable def f99_C_c6 (k : Nat) (R_l0 : f99_S) : f99_S := fun σ => f99_a k (f99_Q_c6 k R_l0) .nx σ
noncomputable def f99_F_c6 (k : Nat) (G_l0 : f99_S) : f99_L := .blk 1 :: .c (f99_p 935) 0 :: .j (fun σ => G_l0 (cut f99_A.loops 0 σ)) :: .blk 0 :: .c (f99_p 15) 0 :: []
theorem f99_f_c6 (k : Nat) (R_l0 : f99_S) : f99_a k (f99_Q_c6 k R_l0) = f99_a k (f99_F_c6 k R_l0) := (ap_cons _ (ap_cons _ (ap_cons _ (ap_cons _ (ap_cons _ rfl)))))
noncomputable def f99_F_l0 (k : Nat) (G_l0 G_c6 : f99_S) : f99_L := .c (f99_p 232) 0 :: .c (f99_p 466) 0 :: .j (fun σ => f99_a k (.c (f99_p 3736) 1 :: .c (f99_p 7474) 1 :: .c (f99_p 7475) 1 :: .j G_c6 :: f99_F_c6 k G_l0) .nx σ) :: .c (f99_p 935) 0 :: .j (fun σ => G_l0 (cut f99_A.loops 0 σ)) :: .blk 0 :: .c (f99_p 15) 0 :: []
theorem f99_f_l0 (k : Nat) (R_l0 : f99_S) : f99_a k (f99_Q_l0 k R_l0) = f99_a k (f99_F_l0 k R_l0 (f99_C_c6 k R_l0)) := (Eq.trans ap_sq (ap_cons _ (Eq.trans ap_sq (ap_cons _ (Eq.trans ap_sq (Eq.trans (ap_bl 1) (Eq.trans (ap_j (Eq.trans ap_sq (ap_cons _ (Eq.trans ap_sq (ap_cons _ (ap_cons _ (Eq.trans (ap_pass (C := (f99_C_c6 k R_l0)) (fun _ => rfl)) (ap_cons _ (f99_f_c6 k R_l0))))))))) (ap_cons _ (ap_cons _ (ap_cons _ (ap_cons _ (ap_cons _ rfl))))))))))))
def f99_entry_B (k : Nat) (g_l0 : f99_t_l0) (a0 : Td11) (a1 : Int) : Option ((List Int) × Unit) := (g_l0 ([] : List Int) a1 (a0.2.1.length : Int) 0 a0.2.1)
def f99_l0_B (k : Nat) (g_c6 : f99_t_c6) (y23 : (List Int)) (x1 : Int) (x10 : Int) (x11 : Int) (x9 : (List (Int × (Int × (Int × Int))))) : Option ((List Int) × Unit) := (if x11 < x10 then (if 0 ≤ x11 then (if x11 < (x9.length : Int) then (if (((x9.getD (x11).toNat (0, (0, (0, 0)))).2).1) = x1 then (if (y23.length + 1) * 8 ≤ 140737488355328 then (g_c6 (y23 ++ [x11]) x1 x10 x11 x9) else none) else (g_c6 y23 x1 x10 x11 x9)) else none) else none) else some (y23, ()))
def f99_c6_B (k : Nat) (g_l0 : f99_t_l0) (y23 : (List Int)) (x1 : Int) (x10 : Int) (x11 : Int) (x9 : (List (Int × (Int × (Int × Int))))) : Option ((List Int) × Unit) := (g_l0 y23 x1 x10 (w64 (x11 + 1)) x9)
theorem f99_c6_P (k : Nat) (G_l0 : f99_S) : f99_o_c6 (fun σ => f99_a k (f99_F_c6 k G_l0) .nx σ) = f99_c6_B k (f99_o_l0 G_l0) := by kernel_rfl
def f99_c6 (k : Nat) (r_l0 : f99_t_l0) : f99_t_c6 := f99_c6_B k r_l0
theorem f99_c6_E (k : Nat) (R_l0 : f99_S) : f99_o_c6 (f99_C_c6 k R_l0) = f99_c6 k (f99_o_l0 R_l0) :=
  Eq.trans (congrArg f99_o_c6 (ap_fn (f99_f_c6 k R_l0))) ((f99_c6_P k R_l0).trans (by rfl))
theorem f99_l0_P (k : Nat) (G_l0 G_c6 : f99_S) : f99_o_l0 (fun σ => f99_a k (f99_F_l0 k G_l0 G_c6) .nx σ) = f99_l0_B k (f99_o_c6 G_c6) := by kernel_rfl
def f99_l0 (k : Nat) : Nat → f99_t_l0
  | 0 => fun _ _ _ _ _ => none
  | n + 1 => f99_l0_B k (f99_c6 k (f99_l0 k n))
theorem f99_l0_E (k : Nat) : ∀ n, f99_o_l0 (f99_C_l0 k n) = f99_l0 k n
  | 0 => rfl
  | n + 1 =>
    Eq.trans (congrArg f99_o_l0 (Eq.trans (b := fun σ => f99_a k (f99_Q_l0 k (f99_C_l0 k n)) .nx σ) (by kernel_rfl) (ap_fn (f99_f_l0 k (f99_C_l0 k n))))) ((f99_l0_P k (f99_C_l0 k n) (f99_C_c6 k (f99_C_l0 k n))).trans (by rw [f99_c6_E k (f99_C_l0 k n), f99_l0_E k n] <;> rfl))
theorem f99_entry_P (k : Nat) (G_l0 : f99_S) (xs : DL f99_sig) : f99_a k (.c (f99_p 2) 0 :: .c (f99_p 6) 0 :: .c (f99_p 28) 0 :: .j (fun σ => f99_a k (.j (fun σ => G_l0 (cut f99_A.loops 0 σ)) :: .blk 0 :: .c (f99_p 15) 0 :: []) .nx σ) :: .c (f99_p 15) 0 :: []) .nx (σ0 26 80 f99_sig xs) = f99_entry_B k (f99_o_l0 G_l0) xs.1 xs.2.1 := by kernel_rfl
def f99 (k : Nat) (a0 : Td11) (a1 : Int) : Option ((List Int) × Unit) := f99_entry_B k (f99_l0 k k) a0 a1
theorem f99_fe (k : Nat) : f99_a k [.c (f99_p 1) 0] = f99_a k (.c (f99_p 2) 0 :: .c (f99_p 6) 0 :: .c (f99_p 28) 0 :: .j (fun σ => f99_a k (.j (fun σ => (f99_C_l0 k k) (cut f99_A.loops 0 σ)) :: .blk 0 :: .c (f99_p 15) 0 :: []) .nx σ) :: .c (f99_p 15) 0 :: []) := (Eq.trans ap_sq (ap_cons _ (Eq.trans ap_sq (ap_cons _ (Eq.trans ap_sq (Eq.trans ap_sq (ap_cons _ (Eq.trans (ap_bl 0) (Eq.trans (ap_j (Eq.trans (ap_lp (C := (f99_C_l0 k)) (fun _ _ => rfl)) (ap_cons _ (ap_cons _ (ap_cons _ rfl))))) (ap_cons _ (ap_cons _ rfl)))))))))))
theorem f99_eq (k : Nat) (xs : DL f99_sig) : den T f99_Y (f99_E k) f99_A k f99_c 0 (σ0 26 80 f99_sig xs) (Kfin T f99_rs f99_ts) = f99 k xs.1 xs.2.1 :=
  Eq.trans (Eq.trans den_sb (ap_at (f99_fe k) _)) ((f99_entry_P k (f99_C_l0 k k) xs).trans (by rw [f99_l0_E k k] <;> rfl))
noncomputable def f99_con (k : Nat) : Con := ⟨f99_sig, f99_rs, fun xs => f99 k xs.1 xs.2.1⟩
theorem f99_ok (k : Nat) : PureOK Try.prog 99 f99_sig f99_rs (fun xs => f99 k xs.1 xs.2.1) :=
  (pure_of_den (k := k) (A := f99_A) (T := T) (Y := f99_Y) (E := f99_E k) (M := 80) (ts := f99_ts) T_ok trivial trivial mixed (f := 99) (fn := Try.f99) (c := f99_c) (by kernel_rfl) (by kernel_rfl) (by kernel_rfl) (by decide) (by kernel_rfl)).congr fun xs => (f99_eq k xs).symm
theorem f99_ent : Ent Try.prog 99 := fun args w => by kernel_rfl
/-! ### terrier/route.Find: function 33 -/
noncomputable def f33_c : Code := Try.f33.body.getD .skip
noncomputable abbrev f33_p (n : Nat) : Code := sb f33_c n
abbrev f33_sig : List PT := [(true, Tq7), (false, (.int .i64)), (false, (.int .i64))]
abbrev f33_rs : List RT := [.new (.int .i64), .d false (.int .i64), .d false (.int .i64)]
abbrev f33_ts : List RV := [.tmp 6, .tmp 7, .tmp 8]
abbrev f33_S := St → Option (RDL f33_rs)
abbrev f33_L := List (Fr (RDL f33_rs))
def f33_Y : Tys := [(3, (.int .i64))]
noncomputable def f33_E (k : Nat) : Env := [(96, .c (f96_con k)), (97, .c (f97_con k)), (98, .b (f98_con k)), (99, .c (f99_con k)), (100, .c (f100_con k)), (101, .c (f101_con k))]
def f33_A : Ann := { loops := [(0, { slots := [(10, .id), (11, .id), (32, .id), (33, .id), (34, .id)], keys := [(26, [.val false Tq1, .val false Tq4, .val false Tq1, .id, .val false Tq0]), (32, []), (97, [])] })], regs := [(12, { slots := [(10, .id), (11, .id), (13, .id), (32, .id), (33, .id), (34, .id), (55, .bool)], keys := [(26, [.val false Tq1, .val false Tq4, .val false Tq1, .id, .val false Tq0]), (32, []), (97, [])] })], conds := [(13, { slots := [(10, .id), (11, .id), (32, .id), (33, .id), (34, .id)], keys := [(26, [.val false Tq1, .val false Tq4, .val false Tq1, .id, .val false Tq0]), (32, []), (97, [])] })] }
noncomputable abbrev f33_a (k : Nat) (F : f33_L) : Kont (RDL f33_rs) := ap T f33_Y (f33_E k) f33_A k (Kfin T f33_rs f33_ts) F
def f33_s_l0 (y26_0 : (List (Int × Int))) (y26_1 : (List (Int × (Int × (Int × Int))))) (y26_2 : (List (Int × Int))) (y26_4 : (List (List Int))) (y32 : (List Int)) (y97 : (List (Int × (Int × (Int × (Bool × Bool)))))) (x11 : Int) (x33 : Int) (x34 : Int) : St := mkS 71 224 [(10, aP 26), (11, aI x11), (32, aO 32), (33, aI x33), (34, aI x34)] [(26, .box [cV Tq1 y26_0, cV Tq4 y26_1, cV Tq1 y26_2, .own 97, cV Tq0 y26_4]), (32, .vec (.int .i64) y32), (97, .vec Tq16 y97)]
abbrev f33_t_l0 := (List (Int × Int)) → (List (Int × (Int × (Int × Int)))) → (List (Int × Int)) → (List (List Int)) → (List Int) → (List (Int × (Int × (Int × (Bool × Bool))))) → Int → Int → Int → Option ((List Int) × Int × Int × Unit)
abbrev f33_o_l0 (R : f33_S) : f33_t_l0 := (fun y26_0 y26_1 y26_2 y26_4 y32 y97 x11 x33 x34 => R (f33_s_l0 y26_0 y26_1 y26_2 y26_4 y32 y97 x11 x33 x34))
noncomputable def f33_Q_l0 (k : Nat) (R_l0 : f33_S) : f33_L := [.c (f33_p 2036) 0, .j (fun σ => R_l0 (cut f33_A.loops 0 σ)), .blk 0, .c (f33_p 255) 0]
noncomputable def f33_C_l0 (k : Nat) (n : Nat) (σ : St) : Option (RDL f33_rs) := loopK (fun σ K => den T f33_Y (f33_E k) f33_A k (f33_p 2036) 0 σ K) (cut f33_A.loops 0) (f33_a k [.blk 0, .c (f33_p 255) 0]) n σ
def f33_s_r12 (y26_0 : (List (Int × Int))) (y26_1 : (List (Int × (Int × (Int × Int))))) (y26_2 : (List (Int × Int))) (y26_4 : (List (List Int))) (y32 : (List Int)) (y97 : (List (Int × (Int × (Int × (Bool × Bool)))))) (x11 : Int) (x13 : Int) (x33 : Int) (x34 : Int) (x55 : Bool) : St := mkS 71 224 [(10, aP 26), (11, aI x11), (13, aI x13), (32, aO 32), (33, aI x33), (34, aI x34), (55, aB x55)] [(26, .box [cV Tq1 y26_0, cV Tq4 y26_1, cV Tq1 y26_2, .own 97, cV Tq0 y26_4]), (32, .vec (.int .i64) y32), (97, .vec Tq16 y97)]
abbrev f33_t_r12 := (List (Int × Int)) → (List (Int × (Int × (Int × Int)))) → (List (Int × Int)) → (List (List Int)) → (List Int) → (List (Int × (Int × (Int × (Bool × Bool))))) → Int → Int → Int → Int → Bool → Option ((List Int) × Int × Int × Unit)
abbrev f33_o_r12 (R : f33_S) : f33_t_r12 := (fun y26_0 y26_1 y26_2 y26_4 y32 y97 x11 x13 x33 x34 x55 => R (f33_s_r12 y26_0 y26_1 y26_2 y26_4 y32 y97 x11 x13 x33 x34 x55))
noncomputable def f33_Q_r12 (k : Nat) (R_l0 : f33_S) : f33_L := [.c (f33_p 130355) 1, .blk 1, .c (f33_p 16295) 0, .j (fun σ => R_l0 (cut f33_A.loops 0 σ)), .blk 0, .c (f33_p 255) 0]
noncomputable def f33_C_r12 (k : Nat) (R_l0 : f33_S) : f33_S := fun σ => f33_a k (f33_Q_r12 k R_l0) .nx σ
def f33_s_c13 (y26_0 : (List (Int × Int))) (y26_1 : (List (Int × (Int × (Int × Int))))) (y26_2 : (List (Int × Int))) (y26_4 : (List (List Int))) (y32 : (List Int)) (y97 : (List (Int × (Int × (Int × (Bool × Bool)))))) (x11 : Int) (x33 : Int) (x34 : Int) : St := mkS 71 224 [(10, aP 26), (11, aI x11), (32, aO 32), (33, aI x33), (34, aI x34)] [(26, .box [cV Tq1 y26_0, cV Tq4 y26_1, cV Tq1 y26_2, .own 97, cV Tq0 y26_4]), (32, .vec (.int .i64) y32), (97, .vec Tq16 y97)]
abbrev f33_t_c13 := (List (Int × Int)) → (List (Int × (Int × (Int × Int)))) → (List (Int × Int)) → (List (List Int)) → (List Int) → (List (Int × (Int × (Int × (Bool × Bool))))) → Int → Int → Int → Option ((List Int) × Int × Int × Unit)
abbrev f33_o_c13 (R : f33_S) : f33_t_c13 := (fun y26_0 y26_1 y26_2 y26_4 y32 y97 x11 x33 x34 => R (f33_s_c13 y26_0 y26_1 y26_2 y26_4 y32 y97 x11 x33 x34))
noncomputable def f33_Q_c13 (k : Nat) (R_l0 : f33_S) : f33_L := [.blk 1, .c (f33_p 16295) 0, .j (fun σ => R_l0 (cut f33_A.loops 0 σ)), .blk 0, .c (f33_p 255) 0]
noncomputable def f33_C_c13 (k : Nat) (R_l0 : f33_S) : f33_S := fun σ => f33_a k (f33_Q_c13 k R_l0) .nx σ
noncomputable def f33_F_c13 (k : Nat) (G_l0 : f33_S) : f33_L := .blk 1 :: .c (f33_p 16295) 0 :: .j (fun σ => G_l0 (cut f33_A.loops 0 σ)) :: .blk 0 :: .c (f33_p 255) 0 :: []
theorem f33_f_c13 (k : Nat) (R_l0 : f33_S) : f33_a k (f33_Q_c13 k R_l0) = f33_a k (f33_F_c13 k R_l0) := (ap_cons _ (ap_cons _ (ap_cons _ (ap_cons _ (ap_cons _ rfl)))))
noncomputable def f33_F_r12 (k : Nat) (G_l0 G_c13 : f33_S) : f33_L := .c (f33_p 130355) 1 :: .j G_c13 :: f33_F_c13 k G_l0
theorem f33_f_r12 (k : Nat) (R_l0 : f33_S) : f33_a k (f33_Q_r12 k R_l0) = f33_a k (f33_F_r12 k R_l0 (f33_C_c13 k R_l0)) := (ap_cons _ (Eq.trans (ap_pass (C := (f33_C_c13 k R_l0)) (fun _ => rfl)) (ap_cons _ (f33_f_c13 k R_l0))))
noncomputable def f33_F_l0 (k : Nat) (G_l0 G_r12 G_c13 : f33_S) : f33_L := .c (f33_p 4072) 0 :: .c (f33_p 8146) 0 :: .j (fun σ => f33_a k (.c (f33_p 65176) 1 :: .c (f33_p 130354) 1 :: .j G_r12 :: f33_F_r12 k G_l0 G_c13) .nx σ) :: .c (f33_p 16295) 0 :: .j (fun σ => G_l0 (cut f33_A.loops 0 σ)) :: .blk 0 :: .c (f33_p 255) 0 :: []
theorem f33_f_l0 (k : Nat) (R_l0 : f33_S) : f33_a k (f33_Q_l0 k R_l0) = f33_a k (f33_F_l0 k R_l0 (f33_C_r12 k R_l0) (f33_C_c13 k R_l0)) := (Eq.trans ap_sq (ap_cons _ (Eq.trans ap_sq (ap_cons _ (Eq.trans ap_sq (Eq.trans (ap_bl 1) (Eq.trans (ap_j (Eq.trans ap_sq (ap_cons _ (Eq.trans ap_sq (ap_cons _ (Eq.trans (ap_pass (C := (f33_C_r12 k R_l0)) (fun _ => rfl)) (ap_cons _ (f33_f_r12 k R_l0)))))))) (ap_cons _ (ap_cons _ (ap_cons _ (ap_cons _ (ap_cons _ rfl))))))))))))
def f33_entry_B (k : Nat) (g_l0 : f33_t_l0) (a0 : Td11) (a1 : Int) (a2 : Int) : Option ((List Int) × Int × Int × Unit) := ((f96 k (a0.1, (a0.2.1, a0.2.2)) ([a1, a2])).bind fun r1 => (if ¬ (r1.1 = 0) then some ([], 0, r1.1, ()) else (if a1 = a2 then some ([], 0, 0, ()) else ((f97 k (a0.1, (a0.2.1, a0.2.2))).bind fun r2 => ((f98 k (r2.1.1.1.1, (r2.1.1.1.2.1, r2.1.1.1.2.2)) r2.1.1.2.1 r2.1.2.1 a1).bind fun r3 => ((f99 k (a0.1, (a0.2.1, a0.2.2)) a2).bind fun r4 => (g_l0 r3.1.1.1.1 r3.1.1.1.2.1 r3.1.1.1.2.2 r3.1.1.2.1 r4.1 r3.1.2.1 (-1) (r4.1.length : Int) 0)))))))
def f33_l0_B (k : Nat) (g_r12 : f33_t_r12) (y26_0 : (List (Int × Int))) (y26_1 : (List (Int × (Int × (Int × Int))))) (y26_2 : (List (Int × Int))) (y26_4 : (List (List Int))) (y32 : (List Int)) (y97 : (List (Int × (Int × (Int × (Bool × Bool)))))) (x11 : Int) (x33 : Int) (x34 : Int) : Option ((List Int) × Int × Int × Unit) := (if x34 < x33 then (if 0 ≤ x34 then (if x34 < (y32.length : Int) then (if 0 ≤ (y32.getD ((x34).toNat) 0) then (if (y32.getD ((x34).toNat) 0) < (y97.length : Int) then (if (((((y97.getD (((y32.getD ((x34).toNat) 0)).toNat) (0, (0, (0, (false, false))))).2).2).2).1) = true then (if x11 < 0 then (g_r12 y26_0 y26_1 y26_2 y26_4 y32 y97 x11 (y32.getD ((x34).toNat) 0) x33 x34 true) else ((f100 k ((y26_0, (y26_1, y26_2)), (y97, y26_4)) (y32.getD ((x34).toNat) 0) x11).bind fun r1 => (g_r12 y26_0 y26_1 y26_2 y26_4 y32 y97 x11 (y32.getD ((x34).toNat) 0) x33 x34 (decide (r1.1 = true))))) else (g_r12 y26_0 y26_1 y26_2 y26_4 y32 y97 x11 (y32.getD ((x34).toNat) 0) x33 x34 false)) else none) else none) else none) else none) else (if x11 < 0 then some ([], 0, 17, ()) else ((f101 k ((y26_0, (y26_1, y26_2)), (y97, y26_4)) x11).bind fun r2 => (if 0 ≤ x11 then (if x11 < (y97.length : Int) then some (r2.1, (y97.getD ((x11).toNat) (0, (0, (0, (false, false))))).1, 0, ()) else none) else none))))
def f33_r12_B (k : Nat) (g_c13 : f33_t_c13) (y26_0 : (List (Int × Int))) (y26_1 : (List (Int × (Int × (Int × Int))))) (y26_2 : (List (Int × Int))) (y26_4 : (List (List Int))) (y32 : (List Int)) (y97 : (List (Int × (Int × (Int × (Bool × Bool)))))) (x11 : Int) (x13 : Int) (x33 : Int) (x34 : Int) (x55 : Bool) : Option ((List Int) × Int × Int × Unit) := (if x55 = true then (g_c13 y26_0 y26_1 y26_2 y26_4 y32 y97 x13 x33 x34) else (g_c13 y26_0 y26_1 y26_2 y26_4 y32 y97 x11 x33 x34))
def f33_c13_B (k : Nat) (g_l0 : f33_t_l0) (y26_0 : (List (Int × Int))) (y26_1 : (List (Int × (Int × (Int × Int))))) (y26_2 : (List (Int × Int))) (y26_4 : (List (List Int))) (y32 : (List Int)) (y97 : (List (Int × (Int × (Int × (Bool × Bool)))))) (x11 : Int) (x33 : Int) (x34 : Int) : Option ((List Int) × Int × Int × Unit) := (g_l0 y26_0 y26_1 y26_2 y26_4 y32 y97 x11 x33 (w64 (x34 + 1)))
theorem f33_c13_P (k : Nat) (G_l0 : f33_S) : f33_o_c13 (fun σ => f33_a k (f33_F_c13 k G_l0) .nx σ) = f33_c13_B k (f33_o_l0 G_l0) := by kernel_rfl
def f33_c13 (k : Nat) (r_l0 : f33_t_l0) : f33_t_c13 := f33_c13_B k r_l0
theorem f33_c13_E (k : Nat) (R_l0 : f33_S) : f33_o_c13 (f33_C_c13 k R_l0) = f33_c13 k (f33_o_l0 R_l0) :=
  Eq.trans (congrArg f33_o_c13 (ap_fn (f33_f_c13 k R_l0))) ((f33_c13_P k R_l0).trans (by rfl))
theorem f33_r12_P (k : Nat) (G_l0 G_c13 : f33_S) : f33_o_r12 (fun σ => f33_a k (f33_F_r12 k G_l0 G_c13) .nx σ) = f33_r12_B k (f33_o_c13 G_c13) := by kernel_rfl
def f33_r12 (k : Nat) (r_l0 : f33_t_l0) : f33_t_r12 := f33_r12_B k (f33_c13 k r_l0)
theorem f33_r12_E (k : Nat) (R_l0 : f33_S) : f33_o_r12 (f33_C_r12 k R_l0) = f33_r12 k (f33_o_l0 R_l0) :=
  Eq.trans (congrArg f33_o_r12 (ap_fn (f33_f_r12 k R_l0))) ((f33_r12_P k R_l0 (f33_C_c13 k R_l0)).trans (by rw [f33_c13_E k R_l0] <;> rfl))
theorem f33_l0_P (k : Nat) (G_l0 G_r12 G_c13 : f33_S) : f33_o_l0 (fun σ => f33_a k (f33_F_l0 k G_l0 G_r12 G_c13) .nx σ) = f33_l0_B k (f33_o_r12 G_r12) := by kernel_rfl
def f33_l0 (k : Nat) : Nat → f33_t_l0
  | 0 => fun _ _ _ _ _ _ _ _ _ => none
  | n + 1 => f33_l0_B k (f33_r12 k (f33_l0 k n))
theorem f33_l0_E (k : Nat) : ∀ n, f33_o_l0 (f33_C_l0 k n) = f33_l0 k n
  | 0 => rfl
  | n + 1 =>
    Eq.trans (congrArg f33_o_l0 (Eq.trans (b := fun σ => f33_a k (f33_Q_l0 k (f33_C_l0 k n)) .nx σ) (by kernel_rfl) (ap_fn (f33_f_l0 k (f33_C_l0 k n))))) ((f33_l0_P k (f33_C_l0 k n) (f33_C_r12 k (f33_C_l0 k n)) (f33_C_c13 k (f33_C_l0 k n))).trans (by rw [f33_r12_E k (f33_C_l0 k n), f33_l0_E k n] <;> rfl))
theorem f33_entry_P (k : Nat) (G_l0 : f33_S) (xs : DL f33_sig) : f33_a k (.c (f33_p 2) 0 :: .c (f33_p 6) 0 :: .c (f33_p 14) 0 :: .c (f33_p 30) 0 :: .c (f33_p 62) 0 :: .c (f33_p 126) 0 :: .c (f33_p 508) 0 :: .j (fun σ => f33_a k (.j (fun σ => G_l0 (cut f33_A.loops 0 σ)) :: .blk 0 :: .c (f33_p 255) 0 :: []) .nx σ) :: .c (f33_p 255) 0 :: []) .nx (σ0 71 224 f33_sig xs) = f33_entry_B k (f33_o_l0 G_l0) xs.1 xs.2.1 xs.2.2.1 := by kernel_rfl
def f33 (k : Nat) (a0 : Td11) (a1 : Int) (a2 : Int) : Option ((List Int) × Int × Int × Unit) := f33_entry_B k (f33_l0 k k) a0 a1 a2
theorem f33_fe (k : Nat) : f33_a k [.c (f33_p 1) 0] = f33_a k (.c (f33_p 2) 0 :: .c (f33_p 6) 0 :: .c (f33_p 14) 0 :: .c (f33_p 30) 0 :: .c (f33_p 62) 0 :: .c (f33_p 126) 0 :: .c (f33_p 508) 0 :: .j (fun σ => f33_a k (.j (fun σ => (f33_C_l0 k k) (cut f33_A.loops 0 σ)) :: .blk 0 :: .c (f33_p 255) 0 :: []) .nx σ) :: .c (f33_p 255) 0 :: []) := (Eq.trans ap_sq (ap_cons _ (Eq.trans ap_sq (ap_cons _ (Eq.trans ap_sq (ap_cons _ (Eq.trans ap_sq (ap_cons _ (Eq.trans ap_sq (ap_cons _ (Eq.trans ap_sq (ap_cons _ (Eq.trans ap_sq (Eq.trans ap_sq (ap_cons _ (Eq.trans (ap_bl 0) (Eq.trans (ap_j (Eq.trans (ap_lp (C := (f33_C_l0 k)) (fun _ _ => rfl)) (ap_cons _ (ap_cons _ (ap_cons _ rfl))))) (ap_cons _ (ap_cons _ rfl)))))))))))))))))))
theorem f33_eq (k : Nat) (xs : DL f33_sig) : den T f33_Y (f33_E k) f33_A k f33_c 0 (σ0 71 224 f33_sig xs) (Kfin T f33_rs f33_ts) = f33 k xs.1 xs.2.1 xs.2.2.1 :=
  Eq.trans (Eq.trans den_sb (ap_at (f33_fe k) _)) ((f33_entry_P k (f33_C_l0 k k) xs).trans (by rw [f33_l0_E k k] <;> rfl))
noncomputable def f33_con (k : Nat) : Con := ⟨f33_sig, f33_rs, fun xs => f33 k xs.1 xs.2.1 xs.2.2.1⟩
theorem f33_ok (k : Nat) : PureOK Try.prog 33 f33_sig f33_rs (fun xs => f33 k xs.1 xs.2.1 xs.2.2.1) :=
  (pure_of_den (k := k) (A := f33_A) (T := T) (Y := f33_Y) (E := f33_E k) (M := 224) (ts := f33_ts) T_ok ⟨f96_ok k, f97_ok k, f98_ok k, f99_ok k, f100_ok k, f101_ok k, trivial⟩ ⟨f96_ent, f97_ent, f98_ent, f99_ent, f100_ent, f101_ent, trivial⟩ mixed (f := 33) (fn := Try.f33) (c := f33_c) (by kernel_rfl) (by kernel_rfl) (by kernel_rfl) (by decide) (by kernel_rfl)).congr fun xs => (f33_eq k xs).symm
theorem f33_ent : Ent Try.prog 33 := fun args w => by kernel_rfl
/-! ### terrier/terrlaw4.triangle: function 103 -/
noncomputable def f103_c : Code := Try.f103.body.getD .skip
noncomputable abbrev f103_p (n : Nat) : Code := sb f103_c n
abbrev f103_sig : List PT := []
abbrev f103_rs : List RT := [.d true Tq7]
abbrev f103_ts : List RV := [.cell 0 64]
abbrev f103_S := St → Option (RDL f103_rs)
abbrev f103_L := List (Fr (RDL f103_rs))
def f103_Y : Tys := [(50, Tq1), (129, Tq4)]
noncomputable def f103_E (k : Nat) : Env := []
def f103_A : Ann := {}
noncomputable abbrev f103_a (k : Nat) (F : f103_L) : Kont (RDL f103_rs) := ap T f103_Y (f103_E k) f103_A k (Kfin T f103_rs f103_ts) F
def f103_entry_B (k : Nat)  : Option (Td11 × Unit) := some (([(0, 0), (1, 0), (0, 1)], ([(0, (1, (2, 0))), (1, (2, (2, 0))), (0, (2, (5, 0)))], [])), ())
theorem f103_entry_P (k : Nat) (xs : DL f103_sig) : f103_a k (.c (f103_p 1) 0 :: []) .nx (σ0 10 32 f103_sig xs) = f103_entry_B k  := by kernel_rfl
def f103 (k : Nat)  : Option (Td11 × Unit) := f103_entry_B k 
theorem f103_eq (k : Nat) (xs : DL f103_sig) : den T f103_Y (f103_E k) f103_A k f103_c 0 (σ0 10 32 f103_sig xs) (Kfin T f103_rs f103_ts) = f103 k  :=
  Eq.trans (Eq.trans den_sb (ap_at (ap_cons _ rfl) _)) ((f103_entry_P k xs).trans (by rfl))
noncomputable def f103_con (k : Nat) : Con := ⟨f103_sig, f103_rs, fun xs => f103 k ⟩
theorem f103_ok (k : Nat) : PureOK Try.prog 103 f103_sig f103_rs (fun xs => f103 k ) :=
  (pure_of_den (k := k) (A := f103_A) (T := T) (Y := f103_Y) (E := f103_E k) (M := 32) (ts := f103_ts) T_ok trivial trivial mixed (f := 103) (fn := Try.f103) (c := f103_c) (by kernel_rfl) (by kernel_rfl) (by kernel_rfl) (by decide) (by kernel_rfl)).congr fun xs => (f103_eq k xs).symm
theorem f103_ent : Ent Try.prog 103 := fun args w => by kernel_rfl
/-! ### terrier/terrlaw4.routed: function 36 -/
noncomputable def f36_c : Code := Try.f36.body.getD .skip
noncomputable abbrev f36_p (n : Nat) : Code := sb f36_c n
abbrev f36_sig : List PT := []
abbrev f36_rs : List RT := [.d false .bool]
abbrev f36_ts : List RV := [.tmp 0]
abbrev f36_S := St → Option (RDL f36_rs)
abbrev f36_L := List (Fr (RDL f36_rs))
def f36_Y : Tys := [(3, (.int .i64))]
noncomputable def f36_E (k : Nat) : Env := [(20, .c (f20_con k)), (33, .c (f33_con k)), (103, .c (f103_con k))]
def f36_A : Ann := { regs := [(2, { slots := [(0, .bool)] })] }
noncomputable abbrev f36_a (k : Nat) (F : f36_L) : Kont (RDL f36_rs) := ap T f36_Y (f36_E k) f36_A k (Kfin T f36_rs f36_ts) F
def f36_s_r2 (x0 : Bool) : St := mkS 21 64 [(0, aB x0)] []
abbrev f36_t_r2 := Bool → Option (Bool × Unit)
abbrev f36_o_r2 (R : f36_S) : f36_t_r2 := (fun x0 => R (f36_s_r2 x0))
noncomputable def f36_Q_r2 (k : Nat) : f36_L := [.c (f36_p 15) 0]
noncomputable def f36_C_r2 (k : Nat) : f36_S := fun σ => f36_a k (f36_Q_r2 k) .nx σ
noncomputable def f36_F_r2 (k : Nat) : f36_L := .c (f36_p 15) 0 :: []
theorem f36_f_r2 (k : Nat) : f36_a k (f36_Q_r2 k) = f36_a k (f36_F_r2 k) := (ap_cons _ rfl)
def f36_entry_B (k : Nat) (g_r2 : f36_t_r2)  : Option (Bool × Unit) := ((f103 k ).bind fun r1 => ((f33 k (r1.1.1, (r1.1.2.1, r1.1.2.2)) 0 2).bind fun r2 => (if r2.2.2.1 = 0 then (if r2.2.1 = 4 then ((f20 k r2.1 ([0, 1])).bind fun r3 => (g_r2 (decide (r3.1 = true)))) else (g_r2 false)) else (g_r2 false))))
def f36_r2_B (k : Nat) (x0 : Bool) : Option (Bool × Unit) := some (decide (x0 = true), ())
theorem f36_r2_P (k : Nat) : f36_o_r2 (fun σ => f36_a k (f36_F_r2 k) .nx σ) = f36_r2_B k := by kernel_rfl
def f36_r2 (k : Nat) : f36_t_r2 := f36_r2_B k
theorem f36_r2_E (k : Nat) : f36_o_r2 (f36_C_r2 k) = f36_r2 k :=
  Eq.trans (congrArg f36_o_r2 (ap_fn (f36_f_r2 k))) ((f36_r2_P k).trans (by rfl))
theorem f36_entry_P (k : Nat) (G_r2 : f36_S) (xs : DL f36_sig) : f36_a k (.c (f36_p 2) 0 :: .c (f36_p 6) 0 :: .c (f36_p 14) 0 :: .j G_r2 :: f36_F_r2 k) .nx (σ0 21 64 f36_sig xs) = f36_entry_B k (f36_o_r2 G_r2)  := by kernel_rfl
def f36 (k : Nat)  : Option (Bool × Unit) := f36_entry_B k (f36_r2 k) 
theorem f36_fe (k : Nat) : f36_a k [.c (f36_p 1) 0] = f36_a k (.c (f36_p 2) 0 :: .c (f36_p 6) 0 :: .c (f36_p 14) 0 :: .j (f36_C_r2 k) :: f36_F_r2 k) := (Eq.trans ap_sq (ap_cons _ (Eq.trans ap_sq (ap_cons _ (Eq.trans ap_sq (ap_cons _ (Eq.trans (ap_pass (C := (f36_C_r2 k)) (fun _ => rfl)) (ap_cons _ (f36_f_r2 k)))))))))
theorem f36_eq (k : Nat) (xs : DL f36_sig) : den T f36_Y (f36_E k) f36_A k f36_c 0 (σ0 21 64 f36_sig xs) (Kfin T f36_rs f36_ts) = f36 k  :=
  Eq.trans (Eq.trans den_sb (ap_at (f36_fe k) _)) ((f36_entry_P k (f36_C_r2 k) xs).trans (by rw [f36_r2_E k] <;> rfl))
noncomputable def f36_con (k : Nat) : Con := ⟨f36_sig, f36_rs, fun xs => f36 k ⟩
theorem f36_ok (k : Nat) : PureOK Try.prog 36 f36_sig f36_rs (fun xs => f36 k ) :=
  (pure_of_den (k := k) (A := f36_A) (T := T) (Y := f36_Y) (E := f36_E k) (M := 64) (ts := f36_ts) T_ok ⟨f20_ok k, f33_ok k, f103_ok k, trivial⟩ ⟨f20_ent, f33_ent, f103_ent, trivial⟩ mixed (f := 36) (fn := Try.f36) (c := f36_c) (by kernel_rfl) (by kernel_rfl) (by kernel_rfl) (by decide) (by kernel_rfl)).congr fun xs => (f36_eq k xs).symm
theorem f36_ent : Ent Try.prog 36 := fun args w => by kernel_rfl
/-! ### terrier/route.Ends: function 45 -/
noncomputable def f45_c : Code := Try.f45.body.getD .skip
noncomputable abbrev f45_p (n : Nat) : Code := sb f45_c n
abbrev f45_sig : List PT := [(true, Tq7), (false, (.int .i64))]
abbrev f45_rs : List RT := [.new (.int .i64)]
abbrev f45_ts : List RV := [.tmp 4]
abbrev f45_S := St → Option (RDL f45_rs)
abbrev f45_L := List (Fr (RDL f45_rs))
def f45_Y : Tys := [(3, (.int .i64))]
noncomputable def f45_E (k : Nat) : Env := [(96, .c (f96_con k)), (97, .c (f97_con k)), (98, .b (f98_con k))]
def f45_A : Ann := { loops := [(0, { slots := [(6, .id), (26, .id), (27, .id), (28, .id)], keys := [(22, []), (60, [])] })], conds := [(11, { slots := [(6, .id), (26, .id), (27, .id), (28, .id)], keys := [(22, []), (60, [])] })] }
noncomputable abbrev f45_a (k : Nat) (F : f45_L) : Kont (RDL f45_rs) := ap T f45_Y (f45_E k) f45_A k (Kfin T f45_rs f45_ts) F
def f45_s_l0 (y22 : (List Int)) (y60 : (List (Int × (Int × (Int × (Bool × Bool)))))) (x27 : Int) (x28 : Int) : St := mkS 45 144 [(6, aO 22), (26, aO 60), (27, aI x27), (28, aI x28)] [(22, .vec (.int .i64) y22), (60, .vec Tq16 y60)]
abbrev f45_t_l0 := (List Int) → (List (Int × (Int × (Int × (Bool × Bool))))) → Int → Int → Option ((List Int) × Unit)
abbrev f45_o_l0 (R : f45_S) : f45_t_l0 := (fun y22 y60 x27 x28 => R (f45_s_l0 y22 y60 x27 x28))
noncomputable def f45_Q_l0 (k : Nat) (R_l0 : f45_S) : f45_L := [.c (f45_p 1012) 0, .j (fun σ => R_l0 (cut f45_A.loops 0 σ)), .blk 0, .c (f45_p 127) 0]
noncomputable def f45_C_l0 (k : Nat) (n : Nat) (σ : St) : Option (RDL f45_rs) := loopK (fun σ K => den T f45_Y (f45_E k) f45_A k (f45_p 1012) 0 σ K) (cut f45_A.loops 0) (f45_a k [.blk 0, .c (f45_p 127) 0]) n σ
def f45_s_c11 (y22 : (List Int)) (y60 : (List (Int × (Int × (Int × (Bool × Bool)))))) (x27 : Int) (x28 : Int) : St := mkS 45 144 [(6, aO 22), (26, aO 60), (27, aI x27), (28, aI x28)] [(22, .vec (.int .i64) y22), (60, .vec Tq16 y60)]
abbrev f45_t_c11 := (List Int) → (List (Int × (Int × (Int × (Bool × Bool))))) → Int → Int → Option ((List Int) × Unit)
abbrev f45_o_c11 (R : f45_S) : f45_t_c11 := (fun y22 y60 x27 x28 => R (f45_s_c11 y22 y60 x27 x28))
noncomputable def f45_Q_c11 (k : Nat) (R_l0 : f45_S) : f45_L := [.blk 1, .c (f45_p 8103) 0, .j (fun σ => R_l0 (cut f45_A.loops 0 σ)), .blk 0, .c (f45_p 127) 0]
noncomputable def f45_C_c11 (k : Nat) (R_l0 : f45_S) : f45_S := fun σ => f45_a k (f45_Q_c11 k R_l0) .nx σ
noncomputable def f45_F_c11 (k : Nat) (G_l0 : f45_S) : f45_L := .blk 1 :: .c (f45_p 8103) 0 :: .j (fun σ => G_l0 (cut f45_A.loops 0 σ)) :: .blk 0 :: .c (f45_p 127) 0 :: []
theorem f45_f_c11 (k : Nat) (R_l0 : f45_S) : f45_a k (f45_Q_c11 k R_l0) = f45_a k (f45_F_c11 k R_l0) := (ap_cons _ (ap_cons _ (ap_cons _ (ap_cons _ (ap_cons _ rfl)))))
noncomputable def f45_F_l0 (k : Nat) (G_l0 G_c11 : f45_S) : f45_L := .c (f45_p 2024) 0 :: .c (f45_p 4050) 0 :: .j (fun σ => f45_a k (.c (f45_p 32408) 1 :: .c (f45_p 64818) 1 :: .c (f45_p 129638) 1 :: .c (f45_p 129639) 1 :: .j G_c11 :: f45_F_c11 k G_l0) .nx σ) :: .c (f45_p 8103) 0 :: .j (fun σ => G_l0 (cut f45_A.loops 0 σ)) :: .blk 0 :: .c (f45_p 127) 0 :: []
theorem f45_f_l0 (k : Nat) (R_l0 : f45_S) : f45_a k (f45_Q_l0 k R_l0) = f45_a k (f45_F_l0 k R_l0 (f45_C_c11 k R_l0)) := (Eq.trans ap_sq (ap_cons _ (Eq.trans ap_sq (ap_cons _ (Eq.trans ap_sq (Eq.trans (ap_bl 1) (Eq.trans (ap_j (Eq.trans ap_sq (ap_cons _ (Eq.trans ap_sq (ap_cons _ (Eq.trans ap_sq (ap_cons _ (ap_cons _ (Eq.trans (ap_pass (C := (f45_C_c11 k R_l0)) (fun _ => rfl)) (ap_cons _ (f45_f_c11 k R_l0))))))))))) (ap_cons _ (ap_cons _ (ap_cons _ (ap_cons _ (ap_cons _ rfl))))))))))))
def f45_entry_B (k : Nat) (g_l0 : f45_t_l0) (a0 : Td11) (a1 : Int) : Option ((List Int) × Unit) := ((f96 k (a0.1, (a0.2.1, a0.2.2)) ([a1])).bind fun r1 => (if ¬ (r1.1 = 0) then some ([], ()) else ((f97 k (a0.1, (a0.2.1, a0.2.2))).bind fun r2 => ((f98 k (r2.1.1.1.1, (r2.1.1.1.2.1, r2.1.1.1.2.2)) r2.1.1.2.1 r2.1.2.1 a1).bind fun r3 => (if 0 ≤ (a0.2.1.length : Int) then (if (a0.2.1.length : Int) ≤ 1073741824 then (g_l0 (List.replicate ((a0.2.1.length : Int)).toNat (0 : Int)) r3.1.2.1 (r3.1.2.1.length : Int) 0) else none) else none)))))
def f45_l0_B (k : Nat) (g_c11 : f45_t_c11) (y22 : (List Int)) (y60 : (List (Int × (Int × (Int × (Bool × Bool)))))) (x27 : Int) (x28 : Int) : Option ((List Int) × Unit) := (if x28 < x27 then (if 0 ≤ x28 then (if x28 < (y60.length : Int) then (if 0 ≤ x28 then (if x28 < (y22.length : Int) then (if (((((y60.getD ((x28).toNat) (0, (0, (0, (false, false))))).2).2).2).1) = true then (if 0 ≤ x28 then (if x28 < ((y22.set ((x28).toNat) (-1)).length : Int) then (g_c11 ((y22.set ((x28).toNat) (-1)).set ((x28).toNat) ((y60.getD ((x28).toNat) (0, (0, (0, (false, false))))).1)) y60 x27 x28) else none) else none) else (g_c11 (y22.set ((x28).toNat) (-1)) y60 x27 x28)) else none) else none) else none) else none) else some (y22, ()))
def f45_c11_B (k : Nat) (g_l0 : f45_t_l0) (y22 : (List Int)) (y60 : (List (Int × (Int × (Int × (Bool × Bool)))))) (x27 : Int) (x28 : Int) : Option ((List Int) × Unit) := (g_l0 y22 y60 x27 (w64 (x28 + 1)))
theorem f45_c11_P (k : Nat) (G_l0 : f45_S) : f45_o_c11 (fun σ => f45_a k (f45_F_c11 k G_l0) .nx σ) = f45_c11_B k (f45_o_l0 G_l0) := by kernel_rfl
def f45_c11 (k : Nat) (r_l0 : f45_t_l0) : f45_t_c11 := f45_c11_B k r_l0
theorem f45_c11_E (k : Nat) (R_l0 : f45_S) : f45_o_c11 (f45_C_c11 k R_l0) = f45_c11 k (f45_o_l0 R_l0) :=
  Eq.trans (congrArg f45_o_c11 (ap_fn (f45_f_c11 k R_l0))) ((f45_c11_P k R_l0).trans (by rfl))
theorem f45_l0_P (k : Nat) (G_l0 G_c11 : f45_S) : f45_o_l0 (fun σ => f45_a k (f45_F_l0 k G_l0 G_c11) .nx σ) = f45_l0_B k (f45_o_c11 G_c11) := by kernel_rfl
def f45_l0 (k : Nat) : Nat → f45_t_l0
  | 0 => fun _ _ _ _ => none
  | n + 1 => f45_l0_B k (f45_c11 k (f45_l0 k n))
theorem f45_l0_E (k : Nat) : ∀ n, f45_o_l0 (f45_C_l0 k n) = f45_l0 k n
  | 0 => rfl
  | n + 1 =>
    Eq.trans (congrArg f45_o_l0 (Eq.trans (b := fun σ => f45_a k (f45_Q_l0 k (f45_C_l0 k n)) .nx σ) (by kernel_rfl) (ap_fn (f45_f_l0 k (f45_C_l0 k n))))) ((f45_l0_P k (f45_C_l0 k n) (f45_C_c11 k (f45_C_l0 k n))).trans (by rw [f45_c11_E k (f45_C_l0 k n), f45_l0_E k n] <;> rfl))
theorem f45_entry_P (k : Nat) (G_l0 : f45_S) (xs : DL f45_sig) : f45_a k (.c (f45_p 2) 0 :: .c (f45_p 6) 0 :: .c (f45_p 14) 0 :: .c (f45_p 30) 0 :: .c (f45_p 62) 0 :: .c (f45_p 252) 0 :: .j (fun σ => f45_a k (.j (fun σ => G_l0 (cut f45_A.loops 0 σ)) :: .blk 0 :: .c (f45_p 127) 0 :: []) .nx σ) :: .c (f45_p 127) 0 :: []) .nx (σ0 45 144 f45_sig xs) = f45_entry_B k (f45_o_l0 G_l0) xs.1 xs.2.1 := by kernel_rfl
def f45 (k : Nat) (a0 : Td11) (a1 : Int) : Option ((List Int) × Unit) := f45_entry_B k (f45_l0 k k) a0 a1
theorem f45_fe (k : Nat) : f45_a k [.c (f45_p 1) 0] = f45_a k (.c (f45_p 2) 0 :: .c (f45_p 6) 0 :: .c (f45_p 14) 0 :: .c (f45_p 30) 0 :: .c (f45_p 62) 0 :: .c (f45_p 252) 0 :: .j (fun σ => f45_a k (.j (fun σ => (f45_C_l0 k k) (cut f45_A.loops 0 σ)) :: .blk 0 :: .c (f45_p 127) 0 :: []) .nx σ) :: .c (f45_p 127) 0 :: []) := (Eq.trans ap_sq (ap_cons _ (Eq.trans ap_sq (ap_cons _ (Eq.trans ap_sq (ap_cons _ (Eq.trans ap_sq (ap_cons _ (Eq.trans ap_sq (ap_cons _ (Eq.trans ap_sq (Eq.trans ap_sq (ap_cons _ (Eq.trans (ap_bl 0) (Eq.trans (ap_j (Eq.trans (ap_lp (C := (f45_C_l0 k)) (fun _ _ => rfl)) (ap_cons _ (ap_cons _ (ap_cons _ rfl))))) (ap_cons _ (ap_cons _ rfl)))))))))))))))))
theorem f45_eq (k : Nat) (xs : DL f45_sig) : den T f45_Y (f45_E k) f45_A k f45_c 0 (σ0 45 144 f45_sig xs) (Kfin T f45_rs f45_ts) = f45 k xs.1 xs.2.1 :=
  Eq.trans (Eq.trans den_sb (ap_at (f45_fe k) _)) ((f45_entry_P k (f45_C_l0 k k) xs).trans (by rw [f45_l0_E k k] <;> rfl))
noncomputable def f45_con (k : Nat) : Con := ⟨f45_sig, f45_rs, fun xs => f45 k xs.1 xs.2.1⟩
theorem f45_ok (k : Nat) : PureOK Try.prog 45 f45_sig f45_rs (fun xs => f45 k xs.1 xs.2.1) :=
  (pure_of_den (k := k) (A := f45_A) (T := T) (Y := f45_Y) (E := f45_E k) (M := 144) (ts := f45_ts) T_ok ⟨f96_ok k, f97_ok k, f98_ok k, trivial⟩ ⟨f96_ent, f97_ent, f98_ent, trivial⟩ mixed (f := 45) (fn := Try.f45) (c := f45_c) (by kernel_rfl) (by kernel_rfl) (by kernel_rfl) (by decide) (by kernel_rfl)).congr fun xs => (f45_eq k xs).symm
theorem f45_ent : Ent Try.prog 45 := fun args w => by kernel_rfl
/-! ### math/bits.Mul64: function 178 -/
noncomputable def f178_c : Code := Try.f178.body.getD .skip
noncomputable abbrev f178_p (n : Nat) : Code := sb f178_c n
abbrev f178_sig : List PT := [(false, (.int .u64)), (false, (.int .u64))]
abbrev f178_rs : List RT := [.d false (.int .u64), .d false (.int .u64)]
abbrev f178_ts : List RV := [.tmp 4, .tmp 5]
abbrev f178_S := St → Option (RDL f178_rs)
abbrev f178_L := List (Fr (RDL f178_rs))
def f178_Y : Tys := []
noncomputable def f178_E (k : Nat) : Env := []
def f178_A : Ann := {}
noncomputable abbrev f178_a (k : Nat) (F : f178_L) : Kont (RDL f178_rs) := ap T f178_Y (f178_E k) f178_A k (Kfin T f178_rs f178_ts) F
def f178_entry_B (k : Nat) (a0 : Int) (a1 : Int) : Option (Int × Int × Unit) := some (IntKind.u64.wrap ((IntKind.u64.wrap ((IntKind.u64.wrap ((a0.fdiv (2 ^ min (32 : Int).toNat (IntKind.bits .u64))) * (a1.fdiv (2 ^ min (32 : Int).toNat (IntKind.bits .u64))))) + ((IntKind.u64.wrap ((IntKind.u64.wrap ((a0.fdiv (2 ^ min (32 : Int).toNat (IntKind.bits .u64))) * (bitI .and .u64 a1 4294967295))) + ((IntKind.u64.wrap ((bitI .and .u64 a0 4294967295) * (bitI .and .u64 a1 4294967295))).fdiv (2 ^ min (32 : Int).toNat (IntKind.bits .u64))))).fdiv (2 ^ min (32 : Int).toNat (IntKind.bits .u64))))) + ((IntKind.u64.wrap ((bitI .and .u64 (IntKind.u64.wrap ((IntKind.u64.wrap ((a0.fdiv (2 ^ min (32 : Int).toNat (IntKind.bits .u64))) * (bitI .and .u64 a1 4294967295))) + ((IntKind.u64.wrap ((bitI .and .u64 a0 4294967295) * (bitI .and .u64 a1 4294967295))).fdiv (2 ^ min (32 : Int).toNat (IntKind.bits .u64))))) 4294967295) + (IntKind.u64.wrap ((bitI .and .u64 a0 4294967295) * (a1.fdiv (2 ^ min (32 : Int).toNat (IntKind.bits .u64))))))).fdiv (2 ^ min (32 : Int).toNat (IntKind.bits .u64)))), IntKind.u64.wrap (a0 * a1), ())
theorem f178_entry_P (k : Nat) (xs : DL f178_sig) : f178_a k (.c (f178_p 1) 0 :: []) .nx (σ0 51 160 f178_sig xs) = f178_entry_B k xs.1 xs.2.1 := by kernel_rfl
def f178 (k : Nat) (a0 : Int) (a1 : Int) : Option (Int × Int × Unit) := f178_entry_B k a0 a1
theorem f178_eq (k : Nat) (xs : DL f178_sig) : den T f178_Y (f178_E k) f178_A k f178_c 0 (σ0 51 160 f178_sig xs) (Kfin T f178_rs f178_ts) = f178 k xs.1 xs.2.1 :=
  Eq.trans (Eq.trans den_sb (ap_at (ap_cons _ rfl) _)) ((f178_entry_P k xs).trans (by rfl))
noncomputable def f178_con (k : Nat) : Con := ⟨f178_sig, f178_rs, fun xs => f178 k xs.1 xs.2.1⟩
theorem f178_ok (k : Nat) : PureOK Try.prog 178 f178_sig f178_rs (fun xs => f178 k xs.1 xs.2.1) :=
  (pure_of_den (k := k) (A := f178_A) (T := T) (Y := f178_Y) (E := f178_E k) (M := 160) (ts := f178_ts) T_ok trivial trivial mixed (f := 178) (fn := Try.f178) (c := f178_c) (by kernel_rfl) (by kernel_rfl) (by kernel_rfl) (by decide) (by kernel_rfl)).congr fun xs => (f178_eq k xs).symm
theorem f178_ent : Ent Try.prog 178 := fun args w => by kernel_rfl
/-! ### math/bits.Mul: function 139 -/
noncomputable def f139_c : Code := Try.f139.body.getD .skip
noncomputable abbrev f139_p (n : Nat) : Code := sb f139_c n
abbrev f139_sig : List PT := [(false, (.int .u64)), (false, (.int .u64))]
abbrev f139_rs : List RT := [.d false (.int .u64), .d false (.int .u64)]
abbrev f139_ts : List RV := [.tmp 4, .tmp 5]
abbrev f139_S := St → Option (RDL f139_rs)
abbrev f139_L := List (Fr (RDL f139_rs))
def f139_Y : Tys := []
noncomputable def f139_E (k : Nat) : Env := [(178, .c (f178_con k))]
def f139_A : Ann := {}
noncomputable abbrev f139_a (k : Nat) (F : f139_L) : Kont (RDL f139_rs) := ap T f139_Y (f139_E k) f139_A k (Kfin T f139_rs f139_ts) F
def f139_entry_B (k : Nat) (a0 : Int) (a1 : Int) : Option (Int × Int × Unit) := ((f178 k a0 a1).bind fun r1 => some (r1.1, r1.2.1, ()))
theorem f139_entry_P (k : Nat) (xs : DL f139_sig) : f139_a k (.c (f139_p 1) 0 :: []) .nx (σ0 30 96 f139_sig xs) = f139_entry_B k xs.1 xs.2.1 := by kernel_rfl
def f139 (k : Nat) (a0 : Int) (a1 : Int) : Option (Int × Int × Unit) := f139_entry_B k a0 a1
theorem f139_eq (k : Nat) (xs : DL f139_sig) : den T f139_Y (f139_E k) f139_A k f139_c 0 (σ0 30 96 f139_sig xs) (Kfin T f139_rs f139_ts) = f139 k xs.1 xs.2.1 :=
  Eq.trans (Eq.trans den_sb (ap_at (ap_cons _ rfl) _)) ((f139_entry_P k xs).trans (by rfl))
noncomputable def f139_con (k : Nat) : Con := ⟨f139_sig, f139_rs, fun xs => f139 k xs.1 xs.2.1⟩
theorem f139_ok (k : Nat) : PureOK Try.prog 139 f139_sig f139_rs (fun xs => f139 k xs.1 xs.2.1) :=
  (pure_of_den (k := k) (A := f139_A) (T := T) (Y := f139_Y) (E := f139_E k) (M := 96) (ts := f139_ts) T_ok ⟨f178_ok k, trivial⟩ ⟨f178_ent, trivial⟩ mixed (f := 139) (fn := Try.f139) (c := f139_c) (by kernel_rfl) (by kernel_rfl) (by kernel_rfl) (by decide) (by kernel_rfl)).congr fun xs => (f139_eq k xs).symm
theorem f139_ent : Ent Try.prog 139 := fun args w => by kernel_rfl
/-! ### slices.Repeat[[]int,int]: function 80 -/
noncomputable def f80_c : Code := Try.f80.body.getD .skip
noncomputable abbrev f80_p (n : Nat) : Code := sb f80_c n
abbrev f80_sig : List PT := [(false, Tq0), (false, (.int .i64))]
abbrev f80_rs : List RT := [.new (.int .i64)]
abbrev f80_ts : List RV := [.tmp 4]
abbrev f80_S := St → Option (RDL f80_rs)
abbrev f80_L := List (Fr (RDL f80_rs))
def f80_Y : Tys := [(3, (.int .i64))]
noncomputable def f80_E (k : Nat) : Env := [(139, .c (f139_con k))]
def f80_A : Ann := { conds := [(2, { slots := [(0, .val false (.int .i64)), (1, .id)] }), (5, { slots := [(0, .val false (.int .i64)), (6, .id)] })], regs := [(4, { slots := [(0, .val false (.int .i64)), (6, .id), (26, .bool)] })], loops := [(0, { slots := [(7, .id), (8, .id)], keys := [(30, [])] })] }
noncomputable abbrev f80_a (k : Nat) (F : f80_L) : Kont (RDL f80_rs) := ap T f80_Y (f80_E k) f80_A k (Kfin T f80_rs f80_ts) F
def f80_s_c2 (x0 : (List Int)) (x1 : Int) : St := mkS 48 144 [(0, aV (.int .i64) x0), (1, aI x1)] []
abbrev f80_t_c2 := (List Int) → Int → Option ((List Int) × Unit)
abbrev f80_o_c2 (R : f80_S) : f80_t_c2 := (fun x0 x1 => R (f80_s_c2 x0 x1))
noncomputable def f80_Q_c2 (k : Nat) : f80_L := [.c (f80_p 7) 0]
noncomputable def f80_C_c2 (k : Nat) : f80_S := fun σ => f80_a k (f80_Q_c2 k) .nx σ
def f80_s_r4 (x0 : (List Int)) (x26 : Bool) (x6 : Int) : St := mkS 48 144 [(0, aV (.int .i64) x0), (6, .cp (.one (.int .u64 x6))), (26, aB x26)] []
abbrev f80_t_r4 := (List Int) → Bool → Int → Option ((List Int) × Unit)
abbrev f80_o_r4 (R : f80_S) : f80_t_r4 := (fun x0 x26 x6 => R (f80_s_r4 x0 x26 x6))
noncomputable def f80_Q_r4 (k : Nat) : f80_L := [.c (f80_p 61) 0, .c (f80_p 31) 0]
noncomputable def f80_C_r4 (k : Nat) : f80_S := fun σ => f80_a k (f80_Q_r4 k) .nx σ
def f80_s_c5 (x0 : (List Int)) (x6 : Int) : St := mkS 48 144 [(0, aV (.int .i64) x0), (6, .cp (.one (.int .u64 x6)))] []
abbrev f80_t_c5 := (List Int) → Int → Option ((List Int) × Unit)
abbrev f80_o_c5 (R : f80_S) : f80_t_c5 := (fun x0 x6 => R (f80_s_c5 x0 x6))
noncomputable def f80_Q_c5 (k : Nat) : f80_L := [.c (f80_p 31) 0]
noncomputable def f80_C_c5 (k : Nat) : f80_S := fun σ => f80_a k (f80_Q_c5 k) .nx σ
def f80_s_l0 (y30 : (List Int)) (x8 : Int) : St := mkS 48 144 [(7, aO 30), (8, aI x8)] [(30, .vec (.int .i64) y30)]
abbrev f80_t_l0 := (List Int) → Int → Option ((List Int) × Unit)
abbrev f80_o_l0 (R : f80_S) : f80_t_l0 := (fun y30 x8 => R (f80_s_l0 y30 x8))
noncomputable def f80_Q_l0 (k : Nat) (R_l0 : f80_S) : f80_L := [.c (f80_p 1016) 0, .j (fun σ => R_l0 (cut f80_A.loops 0 σ)), .blk 0, .c (f80_p 255) 0]
noncomputable def f80_C_l0 (k : Nat) (n : Nat) (σ : St) : Option (RDL f80_rs) := loopK (fun σ K => den T f80_Y (f80_E k) f80_A k (f80_p 1016) 0 σ K) (cut f80_A.loops 0) (f80_a k [.blk 0, .c (f80_p 255) 0]) n σ
noncomputable def f80_F_c5 (k : Nat) (G_l0 : f80_S) : f80_L := .c (f80_p 62) 0 :: .c (f80_p 126) 0 :: .j (fun σ => f80_a k (.j (fun σ => G_l0 (cut f80_A.loops 0 σ)) :: .blk 0 :: .c (f80_p 255) 0 :: []) .nx σ) :: .c (f80_p 255) 0 :: []
theorem f80_f_c5 (k : Nat) : f80_a k (f80_Q_c5 k) = f80_a k (f80_F_c5 k (f80_C_l0 k k)) := (Eq.trans ap_sq (ap_cons _ (Eq.trans ap_sq (ap_cons _ (Eq.trans ap_sq (Eq.trans (ap_bl 0) (Eq.trans (ap_j (Eq.trans (ap_lp (C := (f80_C_l0 k)) (fun _ _ => rfl)) (ap_cons _ (ap_cons _ (ap_cons _ rfl))))) (ap_cons _ (ap_cons _ rfl)))))))))
noncomputable def f80_F_r4 (k : Nat) (G_c5 G_l0 : f80_S) : f80_L := .c (f80_p 61) 0 :: .j G_c5 :: f80_F_c5 k G_l0
theorem f80_f_r4 (k : Nat) : f80_a k (f80_Q_r4 k) = f80_a k (f80_F_r4 k (f80_C_c5 k) (f80_C_l0 k k)) := (ap_cons _ (Eq.trans (ap_pass (C := (f80_C_c5 k)) (fun _ => rfl)) (ap_cons _ (f80_f_c5 k))))
noncomputable def f80_F_c2 (k : Nat) (G_r4 G_c5 G_l0 : f80_S) : f80_L := .c (f80_p 14) 0 :: .c (f80_p 60) 0 :: .j G_r4 :: f80_F_r4 k G_c5 G_l0
theorem f80_f_c2 (k : Nat) : f80_a k (f80_Q_c2 k) = f80_a k (f80_F_c2 k (f80_C_r4 k) (f80_C_c5 k) (f80_C_l0 k k)) := (Eq.trans ap_sq (ap_cons _ (Eq.trans ap_sq (Eq.trans ap_sq (ap_cons _ (Eq.trans (ap_pass (C := (f80_C_r4 k)) (fun _ => rfl)) (ap_cons _ (f80_f_r4 k))))))))
noncomputable def f80_F_l0 (k : Nat) (G_l0 : f80_S) : f80_L := .c (f80_p 1016) 0 :: .j (fun σ => G_l0 (cut f80_A.loops 0 σ)) :: .blk 0 :: .c (f80_p 255) 0 :: []
theorem f80_f_l0 (k : Nat) (R_l0 : f80_S) : f80_a k (f80_Q_l0 k R_l0) = f80_a k (f80_F_l0 k R_l0) := (ap_cons _ (ap_cons _ (ap_cons _ (ap_cons _ rfl))))
def f80_entry_B (k : Nat) (g_c2 : f80_t_c2) (a0 : (List Int)) (a1 : Int) : Option ((List Int) × Unit) := (if a1 < 0 then none else (g_c2 a0 a1))
def f80_c2_B (k : Nat) (g_r4 : f80_t_r4) (x0 : (List Int)) (x1 : Int) : Option ((List Int) × Unit) := ((f139 k (IntKind.u64.wrap ((x0.length : Int))) (IntKind.u64.wrap (x1))).bind fun r1 => (if 0 < r1.1 then (g_r4 x0 true r1.2.1) else (g_r4 x0 (decide (9223372036854775807 < r1.2.1)) r1.2.1)))
def f80_r4_B (k : Nat) (g_c5 : f80_t_c5) (x0 : (List Int)) (x26 : Bool) (x6 : Int) : Option ((List Int) × Unit) := (if x26 = true then none else (g_c5 x0 x6))
def f80_c5_B (k : Nat) (g_l0 : f80_t_l0) (x0 : (List Int)) (x6 : Int) : Option ((List Int) × Unit) := (if 0 ≤ (w64 (x6)) then (if (w64 (x6)) ≤ 1073741824 then (g_l0 (copyL (List.replicate (w64 (x6)).toNat (0 : Int)) x0 0 ((List.replicate (w64 (x6)).toNat (0 : Int)).length)) ((min ((List.replicate (w64 (x6)).toNat (0 : Int)).length) x0.length : Nat) : Int)) else none) else none)
def f80_l0_B (k : Nat) (g_l0 : f80_t_l0) (y30 : (List Int)) (x8 : Int) : Option ((List Int) × Unit) := (if x8 < (y30.length : Int) then (if 0 ≤ x8 then (if x8 ≤ (y30.length : Int) then (if 0 ≤ x8 then (if x8 ≤ (y30.length : Int) then (g_l0 (copyL y30 (List.take ((x8).toNat - (0 : Int).toNat) (List.drop ((0 : Int).toNat) y30)) ((x8).toNat) ((y30.length : Int).toNat - (x8).toNat)) (w64 (x8 + ((min ((y30.length : Int).toNat - (x8).toNat) (List.take ((x8).toNat - (0 : Int).toNat) (List.drop ((0 : Int).toNat) y30)).length : Nat) : Int)))) else none) else none) else none) else none) else some (y30, ()))
theorem f80_l0_P (k : Nat) (G_l0 : f80_S) : f80_o_l0 (fun σ => f80_a k (f80_F_l0 k G_l0) .nx σ) = f80_l0_B k (f80_o_l0 G_l0) := by kernel_rfl
def f80_l0 (k : Nat) : Nat → f80_t_l0
  | 0 => fun _ _ => none
  | n + 1 => f80_l0_B k (f80_l0 k n)
theorem f80_l0_E (k : Nat) : ∀ n, f80_o_l0 (f80_C_l0 k n) = f80_l0 k n
  | 0 => rfl
  | n + 1 =>
    Eq.trans (congrArg f80_o_l0 (Eq.trans (b := fun σ => f80_a k (f80_Q_l0 k (f80_C_l0 k n)) .nx σ) (by kernel_rfl) (ap_fn (f80_f_l0 k (f80_C_l0 k n))))) ((f80_l0_P k (f80_C_l0 k n)).trans (by rw [f80_l0_E k n] <;> rfl))
theorem f80_c5_P (k : Nat) (G_l0 : f80_S) : f80_o_c5 (fun σ => f80_a k (f80_F_c5 k G_l0) .nx σ) = f80_c5_B k (f80_o_l0 G_l0) := by kernel_rfl
def f80_c5 (k : Nat) : f80_t_c5 := f80_c5_B k (f80_l0 k k)
theorem f80_c5_E (k : Nat) : f80_o_c5 (f80_C_c5 k) = f80_c5 k :=
  Eq.trans (congrArg f80_o_c5 (ap_fn (f80_f_c5 k))) ((f80_c5_P k (f80_C_l0 k k)).trans (by rw [f80_l0_E k k] <;> rfl))
theorem f80_r4_P (k : Nat) (G_c5 G_l0 : f80_S) : f80_o_r4 (fun σ => f80_a k (f80_F_r4 k G_c5 G_l0) .nx σ) = f80_r4_B k (f80_o_c5 G_c5) := by kernel_rfl
def f80_r4 (k : Nat) : f80_t_r4 := f80_r4_B k (f80_c5 k)
theorem f80_r4_E (k : Nat) : f80_o_r4 (f80_C_r4 k) = f80_r4 k :=
  Eq.trans (congrArg f80_o_r4 (ap_fn (f80_f_r4 k))) ((f80_r4_P k (f80_C_c5 k) (f80_C_l0 k k)).trans (by rw [f80_c5_E k] <;> rfl))
theorem f80_c2_P (k : Nat) (G_r4 G_c5 G_l0 : f80_S) : f80_o_c2 (fun σ => f80_a k (f80_F_c2 k G_r4 G_c5 G_l0) .nx σ) = f80_c2_B k (f80_o_r4 G_r4) := by kernel_rfl
def f80_c2 (k : Nat) : f80_t_c2 := f80_c2_B k (f80_r4 k)
theorem f80_c2_E (k : Nat) : f80_o_c2 (f80_C_c2 k) = f80_c2 k :=
  Eq.trans (congrArg f80_o_c2 (ap_fn (f80_f_c2 k))) ((f80_c2_P k (f80_C_r4 k) (f80_C_c5 k) (f80_C_l0 k k)).trans (by rw [f80_r4_E k] <;> rfl))
theorem f80_entry_P (k : Nat) (G_c2 G_r4 G_c5 G_l0 : f80_S) (xs : DL f80_sig) : f80_a k (.c (f80_p 2) 0 :: .c (f80_p 12) 0 :: .c (f80_p 13) 0 :: .j G_c2 :: f80_F_c2 k G_r4 G_c5 G_l0) .nx (σ0 48 144 f80_sig xs) = f80_entry_B k (f80_o_c2 G_c2) xs.1 xs.2.1 := by kernel_rfl
def f80 (k : Nat) (a0 : (List Int)) (a1 : Int) : Option ((List Int) × Unit) := f80_entry_B k (f80_c2 k) a0 a1
theorem f80_fe (k : Nat) : f80_a k [.c (f80_p 1) 0] = f80_a k (.c (f80_p 2) 0 :: .c (f80_p 12) 0 :: .c (f80_p 13) 0 :: .j (f80_C_c2 k) :: f80_F_c2 k (f80_C_r4 k) (f80_C_c5 k) (f80_C_l0 k k)) := (Eq.trans ap_sq (ap_cons _ (Eq.trans ap_sq (Eq.trans ap_sq (ap_cons _ (ap_cons _ (Eq.trans (ap_pass (C := (f80_C_c2 k)) (fun _ => rfl)) (ap_cons _ (f80_f_c2 k)))))))))
theorem f80_eq (k : Nat) (xs : DL f80_sig) : den T f80_Y (f80_E k) f80_A k f80_c 0 (σ0 48 144 f80_sig xs) (Kfin T f80_rs f80_ts) = f80 k xs.1 xs.2.1 :=
  Eq.trans (Eq.trans den_sb (ap_at (f80_fe k) _)) ((f80_entry_P k (f80_C_c2 k) (f80_C_r4 k) (f80_C_c5 k) (f80_C_l0 k k) xs).trans (by rw [f80_c2_E k] <;> rfl))
noncomputable def f80_con (k : Nat) : Con := ⟨f80_sig, f80_rs, fun xs => f80 k xs.1 xs.2.1⟩
theorem f80_ok (k : Nat) : PureOK Try.prog 80 f80_sig f80_rs (fun xs => f80 k xs.1 xs.2.1) :=
  (pure_of_den (k := k) (A := f80_A) (T := T) (Y := f80_Y) (E := f80_E k) (M := 144) (ts := f80_ts) T_ok ⟨f139_ok k, trivial⟩ ⟨f139_ent, trivial⟩ mixed (f := 80) (fn := Try.f80) (c := f80_c) (by kernel_rfl) (by kernel_rfl) (by kernel_rfl) (by decide) (by kernel_rfl)).congr fun xs => (f80_eq k xs).symm
theorem f80_ent : Ent Try.prog 80 := fun args w => by kernel_rfl
/-! ### terrier/route.Costs: function 46 -/
noncomputable def f46_c : Code := Try.f46.body.getD .skip
noncomputable abbrev f46_p (n : Nat) : Code := sb f46_c n
abbrev f46_sig : List PT := [(true, Tq7), (false, (.int .i64))]
abbrev f46_rs : List RT := [.new (.int .i64)]
abbrev f46_ts : List RV := [.tmp 4]
abbrev f46_S := St → Option (RDL f46_rs)
abbrev f46_L := List (Fr (RDL f46_rs))
def f46_Y : Tys := [(3, (.int .i64))]
noncomputable def f46_E (k : Nat) : Env := [(45, .c (f45_con k)), (80, .c (f80_con k)), (96, .c (f96_con k))]
def f46_A : Ann := { loops := [(0, { slots := [(1, .id), (2, .id), (5, .id), (21, .id), (22, .id), (23, .id)], keys := [(2, [.val false Tq1, .val false Tq4, .val false Tq1]), (18, []), (21, [])] })], regs := [(8, { slots := [(1, .id), (2, .id), (5, .id), (7, .id), (8, .id), (21, .id), (22, .id), (23, .id), (50, .bool)], keys := [(2, [.val false Tq1, .val false Tq4, .val false Tq1]), (18, []), (21, [])] })], conds := [(9, { slots := [(1, .id), (2, .id), (5, .id), (21, .id), (22, .id), (23, .id)], keys := [(2, [.val false Tq1, .val false Tq4, .val false Tq1]), (18, []), (21, [])] })] }
noncomputable abbrev f46_a (k : Nat) (F : f46_L) : Kont (RDL f46_rs) := ap T f46_Y (f46_E k) f46_A k (Kfin T f46_rs f46_ts) F
def f46_s_l0 (y18 : (List Int)) (y2_0 : (List (Int × Int))) (y2_1 : (List (Int × (Int × (Int × Int))))) (y2_2 : (List (Int × Int))) (y21 : (List Int)) (x1 : Int) (x22 : Int) (x23 : Int) : St := mkS 60 192 [(1, aI x1), (2, aP 2), (5, aO 18), (21, aO 21), (22, aI x22), (23, aI x23)] [(2, .box [cV Tq1 y2_0, cV Tq4 y2_1, cV Tq1 y2_2]), (18, .vec (.int .i64) y18), (21, .vec (.int .i64) y21)]
abbrev f46_t_l0 := (List Int) → (List (Int × Int)) → (List (Int × (Int × (Int × Int)))) → (List (Int × Int)) → (List Int) → Int → Int → Int → Option ((List Int) × Unit)
abbrev f46_o_l0 (R : f46_S) : f46_t_l0 := (fun y18 y2_0 y2_1 y2_2 y21 x1 x22 x23 => R (f46_s_l0 y18 y2_0 y2_1 y2_2 y21 x1 x22 x23))
noncomputable def f46_Q_l0 (k : Nat) (R_l0 : f46_S) : f46_L := [.c (f46_p 244) 0, .j (fun σ => R_l0 (cut f46_A.loops 0 σ)), .blk 0, .c (f46_p 31) 0]
noncomputable def f46_C_l0 (k : Nat) (n : Nat) (σ : St) : Option (RDL f46_rs) := loopK (fun σ K => den T f46_Y (f46_E k) f46_A k (f46_p 244) 0 σ K) (cut f46_A.loops 0) (f46_a k [.blk 0, .c (f46_p 31) 0]) n σ
def f46_s_r8 (y18 : (List Int)) (y2_0 : (List (Int × Int))) (y2_1 : (List (Int × (Int × (Int × Int))))) (y2_2 : (List (Int × Int))) (y21 : (List Int)) (x1 : Int) (x22 : Int) (x23 : Int) (x50 : Bool) (x7 : Int) (x8 : Int) : St := mkS 60 192 [(1, aI x1), (2, aP 2), (5, aO 18), (7, aI x7), (8, aI x8), (21, aO 21), (22, aI x22), (23, aI x23), (50, aB x50)] [(2, .box [cV Tq1 y2_0, cV Tq4 y2_1, cV Tq1 y2_2]), (18, .vec (.int .i64) y18), (21, .vec (.int .i64) y21)]
abbrev f46_t_r8 := (List Int) → (List (Int × Int)) → (List (Int × (Int × (Int × Int)))) → (List (Int × Int)) → (List Int) → Int → Int → Int → Bool → Int → Int → Option ((List Int) × Unit)
abbrev f46_o_r8 (R : f46_S) : f46_t_r8 := (fun y18 y2_0 y2_1 y2_2 y21 x1 x22 x23 x50 x7 x8 => R (f46_s_r8 y18 y2_0 y2_1 y2_2 y21 x1 x22 x23 x50 x7 x8))
noncomputable def f46_Q_r8 (k : Nat) (R_l0 : f46_S) : f46_L := [.c (f46_p 31335) 1, .blk 1, .c (f46_p 1959) 0, .j (fun σ => R_l0 (cut f46_A.loops 0 σ)), .blk 0, .c (f46_p 31) 0]
noncomputable def f46_C_r8 (k : Nat) (R_l0 : f46_S) : f46_S := fun σ => f46_a k (f46_Q_r8 k R_l0) .nx σ
def f46_s_c9 (y18 : (List Int)) (y2_0 : (List (Int × Int))) (y2_1 : (List (Int × (Int × (Int × Int))))) (y2_2 : (List (Int × Int))) (y21 : (List Int)) (x1 : Int) (x22 : Int) (x23 : Int) : St := mkS 60 192 [(1, aI x1), (2, aP 2), (5, aO 18), (21, aO 21), (22, aI x22), (23, aI x23)] [(2, .box [cV Tq1 y2_0, cV Tq4 y2_1, cV Tq1 y2_2]), (18, .vec (.int .i64) y18), (21, .vec (.int .i64) y21)]
abbrev f46_t_c9 := (List Int) → (List (Int × Int)) → (List (Int × (Int × (Int × Int)))) → (List (Int × Int)) → (List Int) → Int → Int → Int → Option ((List Int) × Unit)
abbrev f46_o_c9 (R : f46_S) : f46_t_c9 := (fun y18 y2_0 y2_1 y2_2 y21 x1 x22 x23 => R (f46_s_c9 y18 y2_0 y2_1 y2_2 y21 x1 x22 x23))
noncomputable def f46_Q_c9 (k : Nat) (R_l0 : f46_S) : f46_L := [.blk 1, .c (f46_p 1959) 0, .j (fun σ => R_l0 (cut f46_A.loops 0 σ)), .blk 0, .c (f46_p 31) 0]
noncomputable def f46_C_c9 (k : Nat) (R_l0 : f46_S) : f46_S := fun σ => f46_a k (f46_Q_c9 k R_l0) .nx σ
noncomputable def f46_F_c9 (k : Nat) (G_l0 : f46_S) : f46_L := .blk 1 :: .c (f46_p 1959) 0 :: .j (fun σ => G_l0 (cut f46_A.loops 0 σ)) :: .blk 0 :: .c (f46_p 31) 0 :: []
theorem f46_f_c9 (k : Nat) (R_l0 : f46_S) : f46_a k (f46_Q_c9 k R_l0) = f46_a k (f46_F_c9 k R_l0) := (ap_cons _ (ap_cons _ (ap_cons _ (ap_cons _ (ap_cons _ rfl)))))
noncomputable def f46_F_r8 (k : Nat) (G_l0 G_c9 : f46_S) : f46_L := .c (f46_p 31335) 1 :: .j G_c9 :: f46_F_c9 k G_l0
theorem f46_f_r8 (k : Nat) (R_l0 : f46_S) : f46_a k (f46_Q_r8 k R_l0) = f46_a k (f46_F_r8 k R_l0 (f46_C_c9 k R_l0)) := (ap_cons _ (Eq.trans (ap_pass (C := (f46_C_c9 k R_l0)) (fun _ => rfl)) (ap_cons _ (f46_f_c9 k R_l0))))
noncomputable def f46_F_l0 (k : Nat) (G_l0 G_r8 G_c9 : f46_S) : f46_L := .c (f46_p 488) 0 :: .c (f46_p 978) 0 :: .j (fun σ => f46_a k (.c (f46_p 7832) 1 :: .c (f46_p 15666) 1 :: .c (f46_p 31334) 1 :: .j G_r8 :: f46_F_r8 k G_l0 G_c9) .nx σ) :: .c (f46_p 1959) 0 :: .j (fun σ => G_l0 (cut f46_A.loops 0 σ)) :: .blk 0 :: .c (f46_p 31) 0 :: []
theorem f46_f_l0 (k : Nat) (R_l0 : f46_S) : f46_a k (f46_Q_l0 k R_l0) = f46_a k (f46_F_l0 k R_l0 (f46_C_r8 k R_l0) (f46_C_c9 k R_l0)) := (Eq.trans ap_sq (ap_cons _ (Eq.trans ap_sq (ap_cons _ (Eq.trans ap_sq (Eq.trans (ap_bl 1) (Eq.trans (ap_j (Eq.trans ap_sq (ap_cons _ (Eq.trans ap_sq (ap_cons _ (Eq.trans ap_sq (ap_cons _ (Eq.trans (ap_pass (C := (f46_C_r8 k R_l0)) (fun _ => rfl)) (ap_cons _ (f46_f_r8 k R_l0)))))))))) (ap_cons _ (ap_cons _ (ap_cons _ (ap_cons _ (ap_cons _ rfl))))))))))))
def f46_entry_B (k : Nat) (g_l0 : f46_t_l0) (a0 : Td11) (a1 : Int) : Option ((List Int) × Unit) := ((f96 k (a0.1, (a0.2.1, a0.2.2)) ([a1])).bind fun r1 => (if ¬ (r1.1 = 0) then some ([], ()) else ((f80 k ([(-1)]) (a0.1.length : Int)).bind fun r2 => ((f45 k (a0.1, (a0.2.1, a0.2.2)) a1).bind fun r3 => (g_l0 r2.1 a0.1 a0.2.1 a0.2.2 r3.1 a1 (r3.1.length : Int) 0)))))
def f46_l0_B (k : Nat) (g_r8 : f46_t_r8) (y18 : (List Int)) (y2_0 : (List (Int × Int))) (y2_1 : (List (Int × (Int × (Int × Int))))) (y2_2 : (List (Int × Int))) (y21 : (List Int)) (x1 : Int) (x22 : Int) (x23 : Int) : Option ((List Int) × Unit) := (if x23 < x22 then (if 0 ≤ x23 then (if x23 < (y21.length : Int) then (if 0 ≤ x23 then (if x23 < (y2_1.length : Int) then (if 0 ≤ (y21.getD ((x23).toNat) 0) then (if 0 ≤ (((y2_1.getD (x23).toNat (0, (0, (0, 0)))).2).1) then (if (((y2_1.getD (x23).toNat (0, (0, (0, 0)))).2).1) < (y18.length : Int) then (if (y18.getD ((((y2_1.getD (x23).toNat (0, (0, (0, 0)))).2).1).toNat) 0) < 0 then (g_r8 y18 y2_0 y2_1 y2_2 y21 x1 x22 x23 true (y21.getD ((x23).toNat) 0) (((y2_1.getD (x23).toNat (0, (0, (0, 0)))).2).1)) else (if 0 ≤ (((y2_1.getD (x23).toNat (0, (0, (0, 0)))).2).1) then (if (((y2_1.getD (x23).toNat (0, (0, (0, 0)))).2).1) < (y18.length : Int) then (g_r8 y18 y2_0 y2_1 y2_2 y21 x1 x22 x23 (decide ((y21.getD ((x23).toNat) 0) < (y18.getD ((((y2_1.getD (x23).toNat (0, (0, (0, 0)))).2).1).toNat) 0))) (y21.getD ((x23).toNat) 0) (((y2_1.getD (x23).toNat (0, (0, (0, 0)))).2).1)) else none) else none)) else none) else none) else (g_r8 y18 y2_0 y2_1 y2_2 y21 x1 x22 x23 false (y21.getD ((x23).toNat) 0) (((y2_1.getD (x23).toNat (0, (0, (0, 0)))).2).1))) else none) else none) else none) else none) else (if 0 ≤ x1 then (if x1 < (y18.length : Int) then some ((y18.set ((x1).toNat) 0), ()) else none) else none))
def f46_r8_B (k : Nat) (g_c9 : f46_t_c9) (y18 : (List Int)) (y2_0 : (List (Int × Int))) (y2_1 : (List (Int × (Int × (Int × Int))))) (y2_2 : (List (Int × Int))) (y21 : (List Int)) (x1 : Int) (x22 : Int) (x23 : Int) (x50 : Bool) (x7 : Int) (x8 : Int) : Option ((List Int) × Unit) := (if x50 = true then (if 0 ≤ x8 then (if x8 < (y18.length : Int) then (g_c9 (y18.set ((x8).toNat) x7) y2_0 y2_1 y2_2 y21 x1 x22 x23) else none) else none) else (g_c9 y18 y2_0 y2_1 y2_2 y21 x1 x22 x23))
def f46_c9_B (k : Nat) (g_l0 : f46_t_l0) (y18 : (List Int)) (y2_0 : (List (Int × Int))) (y2_1 : (List (Int × (Int × (Int × Int))))) (y2_2 : (List (Int × Int))) (y21 : (List Int)) (x1 : Int) (x22 : Int) (x23 : Int) : Option ((List Int) × Unit) := (g_l0 y18 y2_0 y2_1 y2_2 y21 x1 x22 (w64 (x23 + 1)))
theorem f46_c9_P (k : Nat) (G_l0 : f46_S) : f46_o_c9 (fun σ => f46_a k (f46_F_c9 k G_l0) .nx σ) = f46_c9_B k (f46_o_l0 G_l0) := by kernel_rfl
def f46_c9 (k : Nat) (r_l0 : f46_t_l0) : f46_t_c9 := f46_c9_B k r_l0
theorem f46_c9_E (k : Nat) (R_l0 : f46_S) : f46_o_c9 (f46_C_c9 k R_l0) = f46_c9 k (f46_o_l0 R_l0) :=
  Eq.trans (congrArg f46_o_c9 (ap_fn (f46_f_c9 k R_l0))) ((f46_c9_P k R_l0).trans (by rfl))
theorem f46_r8_P (k : Nat) (G_l0 G_c9 : f46_S) : f46_o_r8 (fun σ => f46_a k (f46_F_r8 k G_l0 G_c9) .nx σ) = f46_r8_B k (f46_o_c9 G_c9) := by kernel_rfl
def f46_r8 (k : Nat) (r_l0 : f46_t_l0) : f46_t_r8 := f46_r8_B k (f46_c9 k r_l0)
theorem f46_r8_E (k : Nat) (R_l0 : f46_S) : f46_o_r8 (f46_C_r8 k R_l0) = f46_r8 k (f46_o_l0 R_l0) :=
  Eq.trans (congrArg f46_o_r8 (ap_fn (f46_f_r8 k R_l0))) ((f46_r8_P k R_l0 (f46_C_c9 k R_l0)).trans (by rw [f46_c9_E k R_l0] <;> rfl))
theorem f46_l0_P (k : Nat) (G_l0 G_r8 G_c9 : f46_S) : f46_o_l0 (fun σ => f46_a k (f46_F_l0 k G_l0 G_r8 G_c9) .nx σ) = f46_l0_B k (f46_o_r8 G_r8) := by kernel_rfl
def f46_l0 (k : Nat) : Nat → f46_t_l0
  | 0 => fun _ _ _ _ _ _ _ _ => none
  | n + 1 => f46_l0_B k (f46_r8 k (f46_l0 k n))
theorem f46_l0_E (k : Nat) : ∀ n, f46_o_l0 (f46_C_l0 k n) = f46_l0 k n
  | 0 => rfl
  | n + 1 =>
    Eq.trans (congrArg f46_o_l0 (Eq.trans (b := fun σ => f46_a k (f46_Q_l0 k (f46_C_l0 k n)) .nx σ) (by kernel_rfl) (ap_fn (f46_f_l0 k (f46_C_l0 k n))))) ((f46_l0_P k (f46_C_l0 k n) (f46_C_r8 k (f46_C_l0 k n)) (f46_C_c9 k (f46_C_l0 k n))).trans (by rw [f46_r8_E k (f46_C_l0 k n), f46_l0_E k n] <;> rfl))
theorem f46_entry_P (k : Nat) (G_l0 : f46_S) (xs : DL f46_sig) : f46_a k (.c (f46_p 2) 0 :: .c (f46_p 6) 0 :: .c (f46_p 14) 0 :: .c (f46_p 60) 0 :: .j (fun σ => f46_a k (.j (fun σ => G_l0 (cut f46_A.loops 0 σ)) :: .blk 0 :: .c (f46_p 31) 0 :: []) .nx σ) :: .c (f46_p 31) 0 :: []) .nx (σ0 60 192 f46_sig xs) = f46_entry_B k (f46_o_l0 G_l0) xs.1 xs.2.1 := by kernel_rfl
def f46 (k : Nat) (a0 : Td11) (a1 : Int) : Option ((List Int) × Unit) := f46_entry_B k (f46_l0 k k) a0 a1
theorem f46_fe (k : Nat) : f46_a k [.c (f46_p 1) 0] = f46_a k (.c (f46_p 2) 0 :: .c (f46_p 6) 0 :: .c (f46_p 14) 0 :: .c (f46_p 60) 0 :: .j (fun σ => f46_a k (.j (fun σ => (f46_C_l0 k k) (cut f46_A.loops 0 σ)) :: .blk 0 :: .c (f46_p 31) 0 :: []) .nx σ) :: .c (f46_p 31) 0 :: []) := (Eq.trans ap_sq (ap_cons _ (Eq.trans ap_sq (ap_cons _ (Eq.trans ap_sq (ap_cons _ (Eq.trans ap_sq (Eq.trans ap_sq (ap_cons _ (Eq.trans (ap_bl 0) (Eq.trans (ap_j (Eq.trans (ap_lp (C := (f46_C_l0 k)) (fun _ _ => rfl)) (ap_cons _ (ap_cons _ (ap_cons _ rfl))))) (ap_cons _ (ap_cons _ rfl)))))))))))))
theorem f46_eq (k : Nat) (xs : DL f46_sig) : den T f46_Y (f46_E k) f46_A k f46_c 0 (σ0 60 192 f46_sig xs) (Kfin T f46_rs f46_ts) = f46 k xs.1 xs.2.1 :=
  Eq.trans (Eq.trans den_sb (ap_at (f46_fe k) _)) ((f46_entry_P k (f46_C_l0 k k) xs).trans (by rw [f46_l0_E k k] <;> rfl))
noncomputable def f46_con (k : Nat) : Con := ⟨f46_sig, f46_rs, fun xs => f46 k xs.1 xs.2.1⟩
theorem f46_ok (k : Nat) : PureOK Try.prog 46 f46_sig f46_rs (fun xs => f46 k xs.1 xs.2.1) :=
  (pure_of_den (k := k) (A := f46_A) (T := T) (Y := f46_Y) (E := f46_E k) (M := 192) (ts := f46_ts) T_ok ⟨f45_ok k, f80_ok k, f96_ok k, trivial⟩ ⟨f45_ent, f80_ent, f96_ent, trivial⟩ mixed (f := 46) (fn := Try.f46) (c := f46_c) (by kernel_rfl) (by kernel_rfl) (by kernel_rfl) (by decide) (by kernel_rfl)).congr fun xs => (f46_eq k xs).symm
theorem f46_ent : Ent Try.prog 46 := fun args w => by kernel_rfl
end Go.Proofs.Ytpbmlhlpfbcnbaa.Rw
