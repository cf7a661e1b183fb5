/- What the functions that the law TopTimes reaches come to, part 1. No condition. -/
import Derived.Test.YthfjdcdbimjkjaaRxEv
import Derived.Test.YthfjdcdbimjkjaaProg
namespace Go.Proofs.Ythfjdcdbimjkjaa.Rw
open Go.Rx Go.Proofs
set_option linter.unusedVariables false
set_option maxRecDepth 100000
def T : Tab := [(3, ⟨.int .i64, 1, 8, some (false, [cI 0]), false⟩),
  (4, ⟨.bool, 1, 1, some (false, [.lit false]), false⟩),
  (5, ⟨.int .u8, 1, 1, some (false, [.int .u8 0]), false⟩),
  (9, ⟨.str, 1, 16, some (false, [.str ByteArray.empty]), false⟩),
  (22, ⟨.slice 3, 1, 24, some (false, [.nil]), false⟩),
  (23, ⟨.slice 108, 1, 24, some (false, [.nil]), false⟩),
  (24, ⟨.slice 34, 1, 24, some (false, [.nil]), false⟩),
  (25, ⟨.slice 141, 1, 24, some (false, [.nil]), false⟩),
  (27, ⟨.struct [(0, 23), (1, 24), (2, 25)], 3, 72, some (true, [.nil, .nil, .nil]), true⟩),
  (29, ⟨.slice 36, 1, 24, some (false, [.nil]), false⟩),
  (31, ⟨.struct [(0, 3), (1, 3), (2, 29)], 3, 40, some (true, [cI 0, cI 0, .nil]), true⟩),
  (34, ⟨.struct [(0, 3), (1, 3), (2, 3), (3, 3)], 4, 32, some (true, [cI 0, cI 0, cI 0, cI 0]), true⟩),
  (36, ⟨.struct [(0, 3), (1, 3), (2, 3), (3, 3), (4, 3)], 5, 40, some (true, [cI 0, cI 0, cI 0, cI 0, cI 0]), true⟩),
  (37, ⟨.slice 41, 1, 24, some (false, [.nil]), false⟩),
  (39, ⟨.struct [(0, 3), (1, 3)], 2, 16, some (true, [cI 0, cI 0]), true⟩),
  (41, ⟨.slice 39, 1, 24, some (false, [.nil]), false⟩),
  (42, ⟨.int .i64, 1, 8, some (false, [cI 0]), false⟩),
  (61, ⟨.slice 22, 1, 24, some (false, [.nil]), false⟩),
  (96, ⟨.struct [(0, 22)], 1, 24, some (true, [.nil]), true⟩),
  (108, ⟨.struct [(0, 3), (1, 3)], 2, 16, some (true, [cI 0, cI 0]), true⟩),
  (127, ⟨.slice 4, 1, 24, some (false, [.nil]), false⟩),
  (141, ⟨.struct [(0, 3), (1, 3)], 2, 16, some (true, [cI 0, cI 0]), true⟩),
  (175, ⟨.struct [(0, 3), (1, 3), (2, 3), (3, 4), (4, 4)], 5, 32, some (true, [cI 0, cI 0, cI 0, .lit false, .lit false]), true⟩),
  (176, ⟨.slice 175, 1, 24, some (false, [.nil]), false⟩),
  (178, ⟨.struct [(0, 27), (3, 176), (4, 61)], 5, 120, some (true, [.nil, .nil, .nil, .nil, .nil]), true⟩),
  (210, ⟨.int .u64, 1, 8, some (false, [.int .u64 0]), false⟩),
  (248, ⟨.int .u64, 1, 8, some (false, [.int .u64 0]), false⟩),
  (253, ⟨.int .i64, 1, 8, some (false, [cI 0]), false⟩)]
theorem T_ok : TabOK Try.prog T := ⟨by kernel_rfl, by kernel_rfl, by kernel_rfl, by kernel_rfl, by kernel_rfl, by kernel_rfl, by kernel_rfl, by kernel_rfl, by kernel_rfl, by kernel_rfl, by kernel_rfl, by kernel_rfl, by kernel_rfl, by kernel_rfl, by kernel_rfl, by kernel_rfl, by kernel_rfl, by kernel_rfl, by kernel_rfl, by kernel_rfl, by kernel_rfl, by kernel_rfl, by kernel_rfl, by kernel_rfl, by kernel_rfl, by kernel_rfl, by kernel_rfl, by kernel_rfl, trivial⟩
theorem mixed : Try.prog.follows .mixedOrders = true := by kernel_rfl
abbrev Ts0 : ByteArray := ⟨[0, 1, 2, 2, 3, 3, 3, 3, 4, 4, 4, 4, 4, 4, 4, 4, 5, 5, 5, 5, 5, 5, 5, 5, 5, 5, 5, 5, 5, 5, 5, 5, 6, 6, 6, 6, 6, 6, 6, 6, 6, 6, 6, 6, 6, 6, 6, 6, 6, 6, 6, 6, 6, 6, 6, 6, 6, 6, 6, 6, 6, 6, 6, 6, 7, 7, 7, 7, 7, 7, 7, 7, 7, 7, 7, 7, 7, 7, 7, 7, 7, 7, 7, 7, 7, 7, 7, 7, 7, 7, 7, 7, 7, 7, 7, 7, 7, 7, 7, 7, 7, 7, 7, 7, 7, 7, 7, 7, 7, 7, 7, 7, 7, 7, 7, 7, 7, 7, 7, 7, 7, 7, 7, 7, 7, 7, 7, 7, 8, 8, 8, 8, 8, 8, 8, 8, 8, 8, 8, 8, 8, 8, 8, 8, 8, 8, 8, 8, 8, 8, 8, 8, 8, 8, 8, 8, 8, 8, 8, 8, 8, 8, 8, 8, 8, 8, 8, 8, 8, 8, 8, 8, 8, 8, 8, 8, 8, 8, 8, 8, 8, 8, 8, 8, 8, 8, 8, 8, 8, 8, 8, 8, 8, 8, 8, 8, 8, 8, 8, 8, 8, 8, 8, 8, 8, 8, 8, 8, 8, 8, 8, 8, 8, 8, 8, 8, 8, 8, 8, 8, 8, 8, 8, 8, 8, 8, 8, 8, 8, 8, 8, 8, 8, 8, 8, 8, 8, 8, 8, 8, 8, 8, 8, 8, 8, 8, 8, 8, 8, 8, 8, 8, 8, 8, 8, 8].toArray⟩
abbrev Tq1 : Ty := (.sl false (.int .i64))
abbrev Tq2 : Ty := (.pair (.int .i64) (.int .i64))
abbrev Tq3 : Ty := (.sl false Tq2)
abbrev Td4 : Type := (List (Int × Int))
abbrev Tq5 : Ty := (.pair (.int .i64) Tq2)
abbrev Tq6 : Ty := (.pair (.int .i64) Tq5)
abbrev Tq7 : Ty := (.sl false Tq6)
abbrev Tq8 : Ty := (.pair Tq7 Tq3)
abbrev Tq9 : Ty := (.pair Tq3 Tq8)
abbrev Td10 : Type := (Int × (Int × Int))
abbrev Td11 : Type := (List (Int × Td10))
abbrev Td12 : Type := (Td4 × (Td11 × Td4))
abbrev Tq13 : Ty := (.pair (.int .i64) Tq6)
abbrev Tq14 : Ty := (.sl false Tq13)
abbrev Tq15 : Ty := (.pair (.int .i64) Tq14)
abbrev Tq16 : Ty := (.pair (.int .i64) Tq15)
abbrev Td17 : Type := (Int × (Int × Td10))
abbrev Td18 : Type := (Int × (List Td17))
abbrev Tq19 : Ty := (.sl true (.int .i64))
abbrev Td20 : Type := (Option (List Int))
abbrev Tq21 : Ty := (.sl false Tq3)
abbrev Tq22 : Ty := (.sl false Tq1)
abbrev Tq23 : Ty := (.pair .bool .bool)
abbrev Tq24 : Ty := (.pair (.int .i64) Tq23)
abbrev Tq25 : Ty := (.pair (.int .i64) Tq24)
abbrev Tq26 : Ty := (.pair (.int .i64) Tq25)
abbrev Td27 : Type := (List (List Int))
abbrev Td28 : Type := (Bool × Bool)
abbrev Td29 : Type := (Int × (Int × Td28))
abbrev Tq30 : Ty := (.pair .bool Tq1)
abbrev Tq31 : Ty := (.sl false Tq26)
abbrev Tq32 : Ty := (.pair Tq31 Tq22)
abbrev Tq33 : Ty := (.pair Tq9 Tq32)
abbrev Td34 : Type := (List (Int × Td29))
abbrev Td35 : Type := (Td34 × Td27)
abbrev Td36 : Type := (Td12 × Td35)
/-! ### terrier/terrmake.Below: function 15 -/
noncomputable def f15_c : Code := Try.f15.body.getD .skip
noncomputable abbrev f15_p (n : Nat) : Code := sb f15_c n
abbrev f15_sig : List PT := [(false, (.int .i64)), (false, (.int .i64))]
abbrev f15_rs : List RT := [.d false (.int .i64)]
abbrev f15_ts : List RV := [.tmp 4]
abbrev f15_S := St → Option (RDL f15_rs)
abbrev f15_L := List (Fr (RDL f15_rs))
def f15_Y : Tys := []
noncomputable def f15_E (k : Nat) : Env := []
def f15_A : Ann := { conds := [(3, { slots := [(0, .id)] })] }
noncomputable abbrev f15_a (k : Nat) (F : f15_L) : Kont (RDL f15_rs) := ap T f15_Y (f15_E k) f15_A k (Kfin T f15_rs f15_ts) F
def f15_s_c3 (x0 : Int) : St := mkS 14 48 [(0, aI x0)] []
abbrev f15_t_c3 := Int → Option (Int × Unit)
abbrev f15_o_c3 (R : f15_S) : f15_t_c3 := (fun x0 => R (f15_s_c3 x0))
noncomputable def f15_Q_c3 (k : Nat) : f15_L := [.c (f15_p 15) 0]
noncomputable def f15_C_c3 (k : Nat) : f15_S := fun σ => f15_a k (f15_Q_c3 k) .nx σ
noncomputable def f15_F_c3 (k : Nat) : f15_L := .c (f15_p 15) 0 :: []
theorem f15_f_c3 (k : Nat) : f15_a k (f15_Q_c3 k) = f15_a k (f15_F_c3 k) := (ap_cons _ rfl)
def f15_entry_B (k : Nat) (g_c3 : f15_t_c3) (a0 : Int) (a1 : Int) : Option (Int × Unit) := (if ¬ a1 = 0 then (if (a0.tmod a1) < 0 then (g_c3 (w64 ((a0.tmod a1) + a1))) else (g_c3 (a0.tmod a1))) else none)
def f15_c3_B (k : Nat) (x0 : Int) : Option (Int × Unit) := some (x0, ())
theorem f15_c3_P (k : Nat) : f15_o_c3 (fun σ => f15_a k (f15_F_c3 k) .nx σ) = f15_c3_B k := by kernel_rfl
def f15_c3 (k : Nat) : f15_t_c3 := f15_c3_B k
theorem f15_c3_E (k : Nat) : f15_o_c3 (f15_C_c3 k) = f15_c3 k :=
  Eq.trans (congrArg f15_o_c3 (ap_fn (f15_f_c3 k))) ((f15_c3_P k).trans (by rfl))
theorem f15_entry_P (k : Nat) (G_c3 : f15_S) (xs : DL f15_sig) : f15_a k (.c (f15_p 2) 0 :: .c (f15_p 6) 0 :: .c (f15_p 28) 0 :: .c (f15_p 29) 0 :: .j G_c3 :: f15_F_c3 k) .nx (σ0 14 48 f15_sig xs) = f15_entry_B k (f15_o_c3 G_c3) xs.1 xs.2.1 := by kernel_rfl
def f15 (k : Nat) (a0 : Int) (a1 : Int) : Option (Int × Unit) := f15_entry_B k (f15_c3 k) a0 a1
theorem f15_fe (k : Nat) : f15_a k [.c (f15_p 1) 0] = f15_a k (.c (f15_p 2) 0 :: .c (f15_p 6) 0 :: .c (f15_p 28) 0 :: .c (f15_p 29) 0 :: .j (f15_C_c3 k) :: f15_F_c3 k) := (Eq.trans ap_sq (ap_cons _ (Eq.trans ap_sq (ap_cons _ (Eq.trans ap_sq (Eq.trans ap_sq (ap_cons _ (ap_cons _ (Eq.trans (ap_pass (C := (f15_C_c3 k)) (fun _ => rfl)) (ap_cons _ (f15_f_c3 k)))))))))))
theorem f15_eq (k : Nat) (xs : DL f15_sig) : den T f15_Y (f15_E k) f15_A k f15_c 0 (σ0 14 48 f15_sig xs) (Kfin T f15_rs f15_ts) = f15 k xs.1 xs.2.1 :=
  Eq.trans (Eq.trans den_sb (ap_at (f15_fe k) _)) ((f15_entry_P k (f15_C_c3 k) xs).trans (by rw [f15_c3_E k] <;> rfl))
noncomputable def f15_con (k : Nat) : Con := ⟨f15_sig, f15_rs, fun xs => f15 k xs.1 xs.2.1⟩
theorem f15_ok (k : Nat) : PureOK Try.prog 15 f15_sig f15_rs (fun xs => f15 k xs.1 xs.2.1) :=
  (pure_of_den (k := k) (A := f15_A) (T := T) (Y := f15_Y) (E := f15_E k) (M := 48) (ts := f15_ts) T_ok trivial trivial mixed (f := 15) (fn := Try.f15) (c := f15_c) (by kernel_rfl) (by kernel_rfl) (by kernel_rfl) (by decide) (by kernel_rfl)).congr fun xs => (f15_eq k xs).symm
theorem f15_ent : Ent Try.prog 15 := fun args w => by kernel_rfl
/-! ### (*terrier/terrmake.Stream).Next: function 51 -/
noncomputable def f51_c : Code := Try.f51.body.getD .skip
noncomputable abbrev f51_p (n : Nat) : Code := sb f51_c n
abbrev f51_sig : List PT := [(false, (.int .i64))]
abbrev f51_rs : List RT := [.d false (.int .i64)]
abbrev f51_ts : List RV := [.tmp 4]
abbrev f51_ls : List LO := [.box [.d Tq1]]
abbrev f51_S := St → Option (LOD f51_ls × RDL f51_rs)
abbrev f51_L := List (Fr (LOD f51_ls × RDL f51_rs))
def f51_Y : Tys := []
noncomputable def f51_E (k : Nat) : Env := [(15, .c (f15_con k))]
def f51_A : Ann := { regs := [(1, { slots := [(0, .id), (1, .id), (15, .bool)], keys := [(0, [.val false (.int .i64)])] })] }
noncomputable abbrev f51_a (k : Nat) (F : f51_L) : Kont (LOD f51_ls × RDL f51_rs) := ap T f51_Y (f51_E k) f51_A k (KfinB T true f51_ls f51_rs f51_ts) F
def f51_s_r1 (y0_0 : (List Int)) (x1 : Int) (x15 : Bool) : St := mkS 33 113 [(0, aP 0), (1, aI x1), (15, aB x15)] [(0, .box [cV (.int .i64) y0_0])]
abbrev f51_t_r1 := (List Int) → Int → Bool → Option ((((List Int) × Unit) × Unit) × (Int × Unit))
abbrev f51_o_r1 (R : f51_S) : f51_t_r1 := (fun y0_0 x1 x15 => R (f51_s_r1 y0_0 x1 x15))
noncomputable def f51_Q_r1 (k : Nat) : f51_L := [.c (f51_p 13) 0, .c (f51_p 7) 0]
noncomputable def f51_C_r1 (k : Nat) : f51_S := fun σ => f51_a k (f51_Q_r1 k) .nx σ
noncomputable def f51_F_r1 (k : Nat) : f51_L := .c (f51_p 13) 0 :: .c (f51_p 7) 0 :: []
theorem f51_f_r1 (k : Nat) : f51_a k (f51_Q_r1 k) = f51_a k (f51_F_r1 k) := (ap_cons _ (ap_cons _ rfl))
def f51_entry_B (k : Nat) (g_r1 : f51_t_r1) (a : (List Int)) (a0 : Int) : Option ((((List Int) × Unit) × Unit) × (Int × Unit)) := (if (a.length : Int) = 0 then (g_r1 a a0 true) else (g_r1 a a0 (decide (a0 < 1))))
def f51_r1_B (k : Nat) (y0_0 : (List Int)) (x1 : Int) (x15 : Bool) : Option ((((List Int) × Unit) × Unit) × (Int × Unit)) := (if x15 = true then some (((y0_0, ()), ()), (0, ())) else (if 0 < (y0_0.length : Int) then (if (1 : Int) ≤ (y0_0.length : Int) then ((f15 k (y0_0.getD (0 : Int).toNat 0) x1).bind fun r1 => some ((((y0_0.drop (1 : Int).toNat), ()), ()), (r1.1, ()))) else none) else none))
theorem f51_r1_P (k : Nat) : f51_o_r1 (fun σ => f51_a k (f51_F_r1 k) .nx σ) = f51_r1_B k := by kernel_rfl
def f51_r1 (k : Nat) : f51_t_r1 := f51_r1_B k
theorem f51_r1_E (k : Nat) : f51_o_r1 (f51_C_r1 k) = f51_r1 k :=
  Eq.trans (congrArg f51_o_r1 (ap_fn (f51_f_r1 k))) ((f51_r1_P k).trans (by rfl))
theorem f51_entry_P (k : Nat) (G_r1 : f51_S) (x : LOD f51_ls) (xs : DL f51_sig) : f51_a k (.c (f51_p 2) 0 :: .c (f51_p 12) 0 :: .j G_r1 :: f51_F_r1 k) .nx (σ0B 33 113 0 f51_ls x f51_sig xs) = f51_entry_B k (f51_o_r1 G_r1) x.1.1 xs.1 := by kernel_rfl
def f51 (k : Nat) (a : (List Int)) (a0 : Int) : Option ((((List Int) × Unit) × Unit) × (Int × Unit)) := f51_entry_B k (f51_r1 k) a a0
theorem f51_fe (k : Nat) : f51_a k [.c (f51_p 1) 0] = f51_a k (.c (f51_p 2) 0 :: .c (f51_p 12) 0 :: .j (f51_C_r1 k) :: f51_F_r1 k) := (Eq.trans ap_sq (ap_cons _ (Eq.trans ap_sq (Eq.trans ap_sq (ap_cons _ (Eq.trans (ap_pass (C := (f51_C_r1 k)) (fun _ => rfl)) (ap_cons _ (f51_f_r1 k))))))))
theorem f51_eq (k : Nat) (x : LOD f51_ls) (xs : DL f51_sig) : den T f51_Y (f51_E k) f51_A k f51_c 0 (σ0B 33 113 0 f51_ls x f51_sig xs) (KfinB T true f51_ls f51_rs f51_ts) = f51 k x.1.1 xs.1 :=
  Eq.trans (Eq.trans den_sb (ap_at (f51_fe k) _)) ((f51_entry_P k (f51_C_r1 k) x xs).trans (by rw [f51_r1_E k] <;> rfl))
noncomputable def f51_con (k : Nat) : BCon := ⟨0, true, f51_ls, f51_sig, f51_rs, fun x xs => f51 k x.1.1 xs.1⟩
theorem f51_ok (k : Nat) : BoxOK Try.prog 51 0 true f51_ls f51_sig f51_rs (fun x xs => f51 k x.1.1 xs.1) :=
  (box_of_den (k := k) (A := f51_A) (T := T) (Y := f51_Y) (E := f51_E k) (M := 113) (ts := f51_ts) T_ok ⟨f15_ok k, trivial⟩ ⟨f15_ent, trivial⟩ mixed (f := 51) (fn := Try.f51) (c := f51_c) (by kernel_rfl) (by kernel_rfl) (by kernel_rfl) (by decide) (by kernel_rfl) (by decide)).congr fun x xs => (f51_eq k x xs).symm
theorem f51_ent : Ent Try.prog 51 := fun args w => by kernel_rfl
/-! ### slices.Index[[]terrier/api.Ban,terrier/api.Ban]: function 153 -/
noncomputable def f153_c : Code := Try.f153.body.getD .skip
noncomputable abbrev f153_p (n : Nat) : Code := sb f153_c n
abbrev f153_sig : List PT := [(false, Tq3), (true, Tq2)]
abbrev f153_rs : List RT := [.d false (.int .i64)]
abbrev f153_ts : List RV := [.tmp 4]
abbrev f153_S := St → Option (RDL f153_rs)
abbrev f153_L := List (Fr (RDL f153_rs))
def f153_Y : Tys := []
noncomputable def f153_E (k : Nat) : Env := []
def f153_A : Ann := { loops := [(0, { slots := [(0, .val false Tq2), (3, .id), (7, .id), (8, .id)], keys := [(3, [])] })] }
noncomputable abbrev f153_a (k : Nat) (F : f153_L) : Kont (RDL f153_rs) := ap T f153_Y (f153_E k) f153_A k (Kfin T f153_rs f153_ts) F
def f153_s_l0 (y3_0 : Int) (y3_1 : Int) (x0 : (List (Int × Int))) (x7 : Int) (x8 : Int) : St := mkS 19 64 [(0, aV Tq2 x0), (3, aP 3), (7, aI x7), (8, aI x8)] [(3, .box [cI y3_0, cI y3_1])]
abbrev f153_t_l0 := Int → Int → (List (Int × Int)) → Int → Int → Option (Int × Unit)
abbrev f153_o_l0 (R : f153_S) : f153_t_l0 := (fun y3_0 y3_1 x0 x7 x8 => R (f153_s_l0 y3_0 y3_1 x0 x7 x8))
noncomputable def f153_Q_l0 (k : Nat) (R_l0 : f153_S) : f153_L := [.c (f153_p 52) 0, .j (fun σ => R_l0 (cut f153_A.loops 0 σ)), .blk 0, .c (f153_p 7) 0]
noncomputable def f153_C_l0 (k : Nat) (n : Nat) (σ : St) : Option (RDL f153_rs) := loopK (fun σ K => den T f153_Y (f153_E k) f153_A k (f153_p 52) 0 σ K) (cut f153_A.loops 0) (f153_a k [.blk 0, .c (f153_p 7) 0]) n σ
noncomputable def f153_F_l0 (k : Nat) (G_l0 : f153_S) : f153_L := .c (f153_p 52) 0 :: .j (fun σ => G_l0 (cut f153_A.loops 0 σ)) :: .blk 0 :: .c (f153_p 7) 0 :: []
theorem f153_f_l0 (k : Nat) (R_l0 : f153_S) : f153_a k (f153_Q_l0 k R_l0) = f153_a k (f153_F_l0 k R_l0) := (ap_cons _ (ap_cons _ (ap_cons _ (ap_cons _ rfl))))
def f153_entry_B (k : Nat) (g_l0 : f153_t_l0) (a0 : Td4) (a1 : (Int × Int)) : Option (Int × Unit) := (g_l0 a1.1 a1.2 a0 (a0.length : Int) 0)
def f153_l0_B (k : Nat) (g_l0 : f153_t_l0) (y3_0 : Int) (y3_1 : Int) (x0 : (List (Int × Int))) (x7 : Int) (x8 : Int) : Option (Int × Unit) := (if x8 < x7 then (if 0 ≤ x8 then (if x8 < (x0.length : Int) then (if (y3_0 = ((x0.getD (x8).toNat (0, 0)).1)) ∧ (y3_1 = ((x0.getD (x8).toNat (0, 0)).2)) then some (x8, ()) else (g_l0 y3_0 y3_1 x0 x7 (w64 (x8 + 1)))) else none) else none) else some ((-1), ()))
theorem f153_l0_P (k : Nat) (G_l0 : f153_S) : f153_o_l0 (fun σ => f153_a k (f153_F_l0 k G_l0) .nx σ) = f153_l0_B k (f153_o_l0 G_l0) := by kernel_rfl
def f153_l0 (k : Nat) : Nat → f153_t_l0
  | 0 => fun _ _ _ _ _ => none
  | n + 1 => f153_l0_B k (f153_l0 k n)
theorem f153_l0_E (k : Nat) : ∀ n, f153_o_l0 (f153_C_l0 k n) = f153_l0 k n
  | 0 => rfl
  | n + 1 =>
    Eq.trans (congrArg f153_o_l0 (Eq.trans (b := fun σ => f153_a k (f153_Q_l0 k (f153_C_l0 k n)) .nx σ) (by kernel_rfl) (ap_fn (f153_f_l0 k (f153_C_l0 k n))))) ((f153_l0_P k (f153_C_l0 k n)).trans (by rw [f153_l0_E k n] <;> rfl))
theorem f153_entry_P (k : Nat) (G_l0 : f153_S) (xs : DL f153_sig) : f153_a k (.c (f153_p 2) 0 :: .c (f153_p 12) 0 :: .j (fun σ => f153_a k (.j (fun σ => G_l0 (cut f153_A.loops 0 σ)) :: .blk 0 :: .c (f153_p 7) 0 :: []) .nx σ) :: .c (f153_p 7) 0 :: []) .nx (σ0 19 64 f153_sig xs) = f153_entry_B k (f153_o_l0 G_l0) xs.1 xs.2.1 := by kernel_rfl
def f153 (k : Nat) (a0 : Td4) (a1 : (Int × Int)) : Option (Int × Unit) := f153_entry_B k (f153_l0 k k) a0 a1
theorem f153_fe (k : Nat) : f153_a k [.c (f153_p 1) 0] = f153_a k (.c (f153_p 2) 0 :: .c (f153_p 12) 0 :: .j (fun σ => f153_a k (.j (fun σ => (f153_C_l0 k k) (cut f153_A.loops 0 σ)) :: .blk 0 :: .c (f153_p 7) 0 :: []) .nx σ) :: .c (f153_p 7) 0 :: []) := (Eq.trans ap_sq (ap_cons _ (Eq.trans ap_sq (Eq.trans ap_sq (ap_cons _ (Eq.trans (ap_bl 0) (Eq.trans (ap_j (Eq.trans (ap_lp (C := (f153_C_l0 k)) (fun _ _ => rfl)) (ap_cons _ (ap_cons _ (ap_cons _ rfl))))) (ap_cons _ (ap_cons _ rfl)))))))))
theorem f153_eq (k : Nat) (xs : DL f153_sig) : den T f153_Y (f153_E k) f153_A k f153_c 0 (σ0 19 64 f153_sig xs) (Kfin T f153_rs f153_ts) = f153 k xs.1 xs.2.1 :=
  Eq.trans (Eq.trans den_sb (ap_at (f153_fe k) _)) ((f153_entry_P k (f153_C_l0 k k) xs).trans (by rw [f153_l0_E k k] <;> rfl))
noncomputable def f153_con (k : Nat) : Con := ⟨f153_sig, f153_rs, fun xs => f153 k xs.1 xs.2.1⟩
theorem f153_ok (k : Nat) : PureOK Try.prog 153 f153_sig f153_rs (fun xs => f153 k xs.1 xs.2.1) :=
  (pure_of_den (k := k) (A := f153_A) (T := T) (Y := f153_Y) (E := f153_E k) (M := 64) (ts := f153_ts) T_ok trivial trivial mixed (f := 153) (fn := Try.f153) (c := f153_c) (by kernel_rfl) (by kernel_rfl) (by kernel_rfl) (by decide) (by kernel_rfl)).congr fun xs => (f153_eq k xs).symm
theorem f153_ent : Ent Try.prog 153 := fun args w => by kernel_rfl
/-! ### slices.Contains[[]terrier/api.Ban,terrier/api.Ban]: function 105 -/
noncomputable def f105_c : Code := Try.f105.body.getD .skip
noncomputable abbrev f105_p (n : Nat) : Code := sb f105_c n
abbrev f105_sig : List PT := [(false, Tq3), (true, Tq2)]
abbrev f105_rs : List RT := [.d false .bool]
abbrev f105_ts : List RV := [.tmp 4]
abbrev f105_S := St → Option (RDL f105_rs)
abbrev f105_L := List (Fr (RDL f105_rs))
def f105_Y : Tys := []
noncomputable def f105_E (k : Nat) : Env := [(153, .c (f153_con k))]
def f105_A : Ann := {}
noncomputable abbrev f105_a (k : Nat) (F : f105_L) : Kont (RDL f105_rs) := ap T f105_Y (f105_E k) f105_A k (Kfin T f105_rs f105_ts) F
def f105_entry_B (k : Nat) (a0 : Td4) (a1 : (Int × Int)) : Option (Bool × Unit) := ((f153 k a0 (a1.1, a1.2)).bind fun r1 => some (decide (0 ≤ r1.1), ()))
theorem f105_entry_P (k : Nat) (xs : DL f105_sig) : f105_a k (.c (f105_p 1) 0 :: []) .nx (σ0 9 32 f105_sig xs) = f105_entry_B k xs.1 xs.2.1 := by kernel_rfl
def f105 (k : Nat) (a0 : Td4) (a1 : (Int × Int)) : Option (Bool × Unit) := f105_entry_B k a0 a1
theorem f105_eq (k : Nat) (xs : DL f105_sig) : den T f105_Y (f105_E k) f105_A k f105_c 0 (σ0 9 32 f105_sig xs) (Kfin T f105_rs f105_ts) = f105 k xs.1 xs.2.1 :=
  Eq.trans (Eq.trans den_sb (ap_at (ap_cons _ rfl) _)) ((f105_entry_P k xs).trans (by rfl))
noncomputable def f105_con (k : Nat) : Con := ⟨f105_sig, f105_rs, fun xs => f105 k xs.1 xs.2.1⟩
theorem f105_ok (k : Nat) : PureOK Try.prog 105 f105_sig f105_rs (fun xs => f105 k xs.1 xs.2.1) :=
  (pure_of_den (k := k) (A := f105_A) (T := T) (Y := f105_Y) (E := f105_E k) (M := 32) (ts := f105_ts) T_ok ⟨f153_ok k, trivial⟩ ⟨f153_ent, trivial⟩ mixed (f := 105) (fn := Try.f105) (c := f105_c) (by kernel_rfl) (by kernel_rfl) (by kernel_rfl) (by decide) (by kernel_rfl)).congr fun xs => (f105_eq k xs).symm
theorem f105_ent : Ent Try.prog 105 := fun args w => by kernel_rfl
/-! ### slices.Index[[]terrier/api.Point,terrier/api.Point]: function 127 -/
noncomputable def f127_c : Code := Try.f127.body.getD .skip
noncomputable abbrev f127_p (n : Nat) : Code := sb f127_c n
abbrev f127_sig : List PT := [(false, Tq3), (true, Tq2)]
abbrev f127_rs : List RT := [.d false (.int .i64)]
abbrev f127_ts : List RV := [.tmp 4]
abbrev f127_S := St → Option (RDL f127_rs)
abbrev f127_L := List (Fr (RDL f127_rs))
def f127_Y : Tys := []
noncomputable def f127_E (k : Nat) : Env := []
def f127_A : Ann := { loops := [(0, { slots := [(0, .val false Tq2), (3, .id), (7, .id), (8, .id)], keys := [(3, [])] })] }
noncomputable abbrev f127_a (k : Nat) (F : f127_L) : Kont (RDL f127_rs) := ap T f127_Y (f127_E k) f127_A k (Kfin T f127_rs f127_ts) F
def f127_s_l0 (y3_0 : Int) (y3_1 : Int) (x0 : (List (Int × Int))) (x7 : Int) (x8 : Int) : St := mkS 19 64 [(0, aV Tq2 x0), (3, aP 3), (7, aI x7), (8, aI x8)] [(3, .box [cI y3_0, cI y3_1])]
abbrev f127_t_l0 := Int → Int → (List (Int × Int)) → Int → Int → Option (Int × Unit)
abbrev f127_o_l0 (R : f127_S) : f127_t_l0 := (fun y3_0 y3_1 x0 x7 x8 => R (f127_s_l0 y3_0 y3_1 x0 x7 x8))
noncomputable def f127_Q_l0 (k : Nat) (R_l0 : f127_S) : f127_L := [.c (f127_p 52) 0, .j (fun σ => R_l0 (cut f127_A.loops 0 σ)), .blk 0, .c (f127_p 7) 0]
noncomputable def f127_C_l0 (k : Nat) (n : Nat) (σ : St) : Option (RDL f127_rs) := loopK (fun σ K => den T f127_Y (f127_E k) f127_A k (f127_p 52) 0 σ K) (cut f127_A.loops 0) (f127_a k [.blk 0, .c (f127_p 7) 0]) n σ
noncomputable def f127_F_l0 (k : Nat) (G_l0 : f127_S) : f127_L := .c (f127_p 52) 0 :: .j (fun σ => G_l0 (cut f127_A.loops 0 σ)) :: .blk 0 :: .c (f127_p 7) 0 :: []
theorem f127_f_l0 (k : Nat) (R_l0 : f127_S) : f127_a k (f127_Q_l0 k R_l0) = f127_a k (f127_F_l0 k R_l0) := (ap_cons _ (ap_cons _ (ap_cons _ (ap_cons _ rfl))))
def f127_entry_B (k : Nat) (g_l0 : f127_t_l0) (a0 : Td4) (a1 : (Int × Int)) : Option (Int × Unit) := (g_l0 a1.1 a1.2 a0 (a0.length : Int) 0)
def f127_l0_B (k : Nat) (g_l0 : f127_t_l0) (y3_0 : Int) (y3_1 : Int) (x0 : (List (Int × Int))) (x7 : Int) (x8 : Int) : Option (Int × Unit) := (if x8 < x7 then (if 0 ≤ x8 then (if x8 < (x0.length : Int) then (if (y3_0 = ((x0.getD (x8).toNat (0, 0)).1)) ∧ (y3_1 = ((x0.getD (x8).toNat (0, 0)).2)) then some (x8, ()) else (g_l0 y3_0 y3_1 x0 x7 (w64 (x8 + 1)))) else none) else none) else some ((-1), ()))
theorem f127_l0_P (k : Nat) (G_l0 : f127_S) : f127_o_l0 (fun σ => f127_a k (f127_F_l0 k G_l0) .nx σ) = f127_l0_B k (f127_o_l0 G_l0) := by kernel_rfl
def f127_l0 (k : Nat) : Nat → f127_t_l0
  | 0 => fun _ _ _ _ _ => none
  | n + 1 => f127_l0_B k (f127_l0 k n)
theorem f127_l0_E (k : Nat) : ∀ n, f127_o_l0 (f127_C_l0 k n) = f127_l0 k n
  | 0 => rfl
  | n + 1 =>
    Eq.trans (congrArg f127_o_l0 (Eq.trans (b := fun σ => f127_a k (f127_Q_l0 k (f127_C_l0 k n)) .nx σ) (by kernel_rfl) (ap_fn (f127_f_l0 k (f127_C_l0 k n))))) ((f127_l0_P k (f127_C_l0 k n)).trans (by rw [f127_l0_E k n] <;> rfl))
theorem f127_entry_P (k : Nat) (G_l0 : f127_S) (xs : DL f127_sig) : f127_a k (.c (f127_p 2) 0 :: .c (f127_p 12) 0 :: .j (fun σ => f127_a k (.j (fun σ => G_l0 (cut f127_A.loops 0 σ)) :: .blk 0 :: .c (f127_p 7) 0 :: []) .nx σ) :: .c (f127_p 7) 0 :: []) .nx (σ0 19 64 f127_sig xs) = f127_entry_B k (f127_o_l0 G_l0) xs.1 xs.2.1 := by kernel_rfl
def f127 (k : Nat) (a0 : Td4) (a1 : (Int × Int)) : Option (Int × Unit) := f127_entry_B k (f127_l0 k k) a0 a1
theorem f127_fe (k : Nat) : f127_a k [.c (f127_p 1) 0] = f127_a k (.c (f127_p 2) 0 :: .c (f127_p 12) 0 :: .j (fun σ => f127_a k (.j (fun σ => (f127_C_l0 k k) (cut f127_A.loops 0 σ)) :: .blk 0 :: .c (f127_p 7) 0 :: []) .nx σ) :: .c (f127_p 7) 0 :: []) := (Eq.trans ap_sq (ap_cons _ (Eq.trans ap_sq (Eq.trans ap_sq (ap_cons _ (Eq.trans (ap_bl 0) (Eq.trans (ap_j (Eq.trans (ap_lp (C := (f127_C_l0 k)) (fun _ _ => rfl)) (ap_cons _ (ap_cons _ (ap_cons _ rfl))))) (ap_cons _ (ap_cons _ rfl)))))))))
theorem f127_eq (k : Nat) (xs : DL f127_sig) : den T f127_Y (f127_E k) f127_A k f127_c 0 (σ0 19 64 f127_sig xs) (Kfin T f127_rs f127_ts) = f127 k xs.1 xs.2.1 :=
  Eq.trans (Eq.trans den_sb (ap_at (f127_fe k) _)) ((f127_entry_P k (f127_C_l0 k k) xs).trans (by rw [f127_l0_E k k] <;> rfl))
noncomputable def f127_con (k : Nat) : Con := ⟨f127_sig, f127_rs, fun xs => f127 k xs.1 xs.2.1⟩
theorem f127_ok (k : Nat) : PureOK Try.prog 127 f127_sig f127_rs (fun xs => f127 k xs.1 xs.2.1) :=
  (pure_of_den (k := k) (A := f127_A) (T := T) (Y := f127_Y) (E := f127_E k) (M := 64) (ts := f127_ts) T_ok trivial trivial mixed (f := 127) (fn := Try.f127) (c := f127_c) (by kernel_rfl) (by kernel_rfl) (by kernel_rfl) (by decide) (by kernel_rfl)).congr fun xs => (f127_eq k xs).symm
theorem f127_ent : Ent Try.prog 127 := fun args w => by kernel_rfl
/-! ### slices.Contains[[]terrier/api.Point,terrier/api.Point]: function 126 -/
noncomputable def f126_c : Code := Try.f126.body.getD .skip
noncomputable abbrev f126_p (n : Nat) : Code := sb f126_c n
abbrev f126_sig : List PT := [(false, Tq3), (true, Tq2)]
abbrev f126_rs : List RT := [.d false .bool]
abbrev f126_ts : List RV := [.tmp 4]
abbrev f126_S := St → Option (RDL f126_rs)
abbrev f126_L := List (Fr (RDL f126_rs))
def f126_Y : Tys := []
noncomputable def f126_E (k : Nat) : Env := [(127, .c (f127_con k))]
def f126_A : Ann := {}
noncomputable abbrev f126_a (k : Nat) (F : f126_L) : Kont (RDL f126_rs) := ap T f126_Y (f126_E k) f126_A k (Kfin T f126_rs f126_ts) F
def f126_entry_B (k : Nat) (a0 : Td4) (a1 : (Int × Int)) : Option (Bool × Unit) := ((f127 k a0 (a1.1, a1.2)).bind fun r1 => some (decide (0 ≤ r1.1), ()))
theorem f126_entry_P (k : Nat) (xs : DL f126_sig) : f126_a k (.c (f126_p 1) 0 :: []) .nx (σ0 9 32 f126_sig xs) = f126_entry_B k xs.1 xs.2.1 := by kernel_rfl
def f126 (k : Nat) (a0 : Td4) (a1 : (Int × Int)) : Option (Bool × Unit) := f126_entry_B k a0 a1
theorem f126_eq (k : Nat) (xs : DL f126_sig) : den T f126_Y (f126_E k) f126_A k f126_c 0 (σ0 9 32 f126_sig xs) (Kfin T f126_rs f126_ts) = f126 k xs.1 xs.2.1 :=
  Eq.trans (Eq.trans den_sb (ap_at (ap_cons _ rfl) _)) ((f126_entry_P k xs).trans (by rfl))
noncomputable def f126_con (k : Nat) : Con := ⟨f126_sig, f126_rs, fun xs => f126 k xs.1 xs.2.1⟩
theorem f126_ok (k : Nat) : PureOK Try.prog 126 f126_sig f126_rs (fun xs => f126 k xs.1 xs.2.1) :=
  (pure_of_den (k := k) (A := f126_A) (T := T) (Y := f126_Y) (E := f126_E k) (M := 32) (ts := f126_ts) T_ok ⟨f127_ok k, trivial⟩ ⟨f127_ent, trivial⟩ mixed (f := 126) (fn := Try.f126) (c := f126_c) (by kernel_rfl) (by kernel_rfl) (by kernel_rfl) (by decide) (by kernel_rfl)).congr fun xs => (f126_eq k xs).symm
theorem f126_ent : Ent Try.prog 126 := fun args w => by kernel_rfl
/-! ### (*terrier/terrmake.Stream).point: function 131 -/
noncomputable def f131_c : Code := Try.f131.body.getD .skip
noncomputable abbrev f131_p (n : Nat) : Code := sb f131_c n
abbrev f131_sig : List PT := []
abbrev f131_rs : List RT := [.d true Tq2]
abbrev f131_ts : List RV := [.cell 2 108]
abbrev f131_ls : List LO := [.box [.d Tq1]]
abbrev f131_S := St → Option (LOD f131_ls × RDL f131_rs)
abbrev f131_L := List (Fr (LOD f131_ls × RDL f131_rs))
def f131_Y : Tys := []
noncomputable def f131_E (k : Nat) : Env := [(51, .b (f51_con k))]
def f131_A : Ann := {}
noncomputable abbrev f131_a (k : Nat) (F : f131_L) : Kont (LOD f131_ls × RDL f131_rs) := ap T f131_Y (f131_E k) f131_A k (KfinB T true f131_ls f131_rs f131_ts) F
def f131_entry_B (k : Nat) (a : (List Int)) : Option ((((List Int) × Unit) × Unit) × ((Int × Int) × Unit)) := ((f51 k a 81).bind fun r1 => ((f51 k r1.1.1.1 81).bind fun r2 => some (((r2.1.1.1, ()), ()), ((w64 (r1.2.1 - 40), w64 (r2.2.1 - 40)), ()))))
theorem f131_entry_P (k : Nat) (x : LOD f131_ls) (xs : DL f131_sig) : f131_a k (.c (f131_p 1) 0 :: []) .nx (σ0B 10 33 0 f131_ls x f131_sig xs) = f131_entry_B k x.1.1 := by kernel_rfl
def f131 (k : Nat) (a : (List Int)) : Option ((((List Int) × Unit) × Unit) × ((Int × Int) × Unit)) := f131_entry_B k a
theorem f131_eq (k : Nat) (x : LOD f131_ls) (xs : DL f131_sig) : den T f131_Y (f131_E k) f131_A k f131_c 0 (σ0B 10 33 0 f131_ls x f131_sig xs) (KfinB T true f131_ls f131_rs f131_ts) = f131 k x.1.1 :=
  Eq.trans (Eq.trans den_sb (ap_at (ap_cons _ rfl) _)) ((f131_entry_P k x xs).trans (by rfl))
noncomputable def f131_con (k : Nat) : BCon := ⟨0, true, f131_ls, f131_sig, f131_rs, fun x xs => f131 k x.1.1⟩
theorem f131_ok (k : Nat) : BoxOK Try.prog 131 0 true f131_ls f131_sig f131_rs (fun x xs => f131 k x.1.1) :=
  (box_of_den (k := k) (A := f131_A) (T := T) (Y := f131_Y) (E := f131_E k) (M := 33) (ts := f131_ts) T_ok ⟨f51_ok k, trivial⟩ ⟨f51_ent, trivial⟩ mixed (f := 131) (fn := Try.f131) (c := f131_c) (by kernel_rfl) (by kernel_rfl) (by kernel_rfl) (by decide) (by kernel_rfl) (by decide)).congr fun x xs => (f131_eq k x xs).symm
theorem f131_ent : Ent Try.prog 131 := fun args w => by kernel_rfl
/-! ### math/bits.Len64: function 181 -/
noncomputable def f181_c : Code := Try.f181.body.getD .skip
noncomputable abbrev f181_p (n : Nat) : Code := sb f181_c n
abbrev f181_sig : List PT := [(false, (.int .u64))]
abbrev f181_rs : List RT := [.d false (.int .i64)]
abbrev f181_ts : List RV := [.tmp 2]
abbrev f181_S := St → Option (RDL f181_rs)
abbrev f181_L := List (Fr (RDL f181_rs))
def f181_Y : Tys := []
noncomputable def f181_E (k : Nat) : Env := []
def f181_A : Ann := { conds := [(2, { slots := [(0, .id), (2, .id)] }), (5, { slots := [(0, .id), (2, .id)] }), (8, { slots := [(0, .id), (2, .id)] })] }
noncomputable abbrev f181_a (k : Nat) (F : f181_L) : Kont (RDL f181_rs) := ap T f181_Y (f181_E k) f181_A k (Kfin T f181_rs f181_ts) F
def f181_s_c2 (x0 : Int) (x2 : Int) : St := mkS 25 80 [(0, .cp (.one (.int .u64 x0))), (2, aI x2)] []
abbrev f181_t_c2 := Int → Int → Option (Int × Unit)
abbrev f181_o_c2 (R : f181_S) : f181_t_c2 := (fun x0 x2 => R (f181_s_c2 x0 x2))
noncomputable def f181_Q_c2 (k : Nat) : f181_L := [.c (f181_p 7) 0]
noncomputable def f181_C_c2 (k : Nat) : f181_S := fun σ => f181_a k (f181_Q_c2 k) .nx σ
def f181_s_c5 (x0 : Int) (x2 : Int) : St := mkS 25 80 [(0, .cp (.one (.int .u64 x0))), (2, aI x2)] []
abbrev f181_t_c5 := Int → Int → Option (Int × Unit)
abbrev f181_o_c5 (R : f181_S) : f181_t_c5 := (fun x0 x2 => R (f181_s_c5 x0 x2))
noncomputable def f181_Q_c5 (k : Nat) : f181_L := [.c (f181_p 15) 0]
noncomputable def f181_C_c5 (k : Nat) : f181_S := fun σ => f181_a k (f181_Q_c5 k) .nx σ
def f181_s_c8 (x0 : Int) (x2 : Int) : St := mkS 25 80 [(0, .cp (.one (.int .u64 x0))), (2, aI x2)] []
abbrev f181_t_c8 := Int → Int → Option (Int × Unit)
abbrev f181_o_c8 (R : f181_S) : f181_t_c8 := (fun x0 x2 => R (f181_s_c8 x0 x2))
noncomputable def f181_Q_c8 (k : Nat) : f181_L := [.c (f181_p 31) 0]
noncomputable def f181_C_c8 (k : Nat) : f181_S := fun σ => f181_a k (f181_Q_c8 k) .nx σ
noncomputable def f181_F_c8 (k : Nat) : f181_L := .c (f181_p 31) 0 :: []
theorem f181_f_c8 (k : Nat) : f181_a k (f181_Q_c8 k) = f181_a k (f181_F_c8 k) := (ap_cons _ rfl)
noncomputable def f181_F_c5 (k : Nat) (G_c8 : f181_S) : f181_L := .c (f181_p 60) 0 :: .c (f181_p 61) 0 :: .j G_c8 :: f181_F_c8 k
theorem f181_f_c5 (k : Nat) : f181_a k (f181_Q_c5 k) = f181_a k (f181_F_c5 k (f181_C_c8 k)) := (Eq.trans ap_sq (Eq.trans ap_sq (ap_cons _ (ap_cons _ (Eq.trans (ap_pass (C := (f181_C_c8 k)) (fun _ => rfl)) (ap_cons _ (f181_f_c8 k)))))))
noncomputable def f181_F_c2 (k : Nat) (G_c5 G_c8 : f181_S) : f181_L := .c (f181_p 28) 0 :: .c (f181_p 29) 0 :: .j G_c5 :: f181_F_c5 k G_c8
theorem f181_f_c2 (k : Nat) : f181_a k (f181_Q_c2 k) = f181_a k (f181_F_c2 k (f181_C_c5 k) (f181_C_c8 k)) := (Eq.trans ap_sq (Eq.trans ap_sq (ap_cons _ (ap_cons _ (Eq.trans (ap_pass (C := (f181_C_c5 k)) (fun _ => rfl)) (ap_cons _ (f181_f_c5 k)))))))
def f181_entry_B (k : Nat) (g_c2 : f181_t_c2) (a0 : Int) : Option (Int × Unit) := (if 4294967296 ≤ a0 then (g_c2 (a0.fdiv (2 ^ min (32 : Int).toNat (IntKind.bits .u64))) 32) else (g_c2 a0 0))
def f181_c2_B (k : Nat) (g_c5 : f181_t_c5) (x0 : Int) (x2 : Int) : Option (Int × Unit) := (if 65536 ≤ x0 then (g_c5 (x0.fdiv (2 ^ min (16 : Int).toNat (IntKind.bits .u64))) (w64 (x2 + 16))) else (g_c5 x0 x2))
def f181_c5_B (k : Nat) (g_c8 : f181_t_c8) (x0 : Int) (x2 : Int) : Option (Int × Unit) := (if 256 ≤ x0 then (g_c8 (x0.fdiv (2 ^ min (8 : Int).toNat (IntKind.bits .u64))) (w64 (x2 + 8))) else (g_c8 x0 x2))
def f181_c8_B (k : Nat) (x0 : Int) (x2 : Int) : Option (Int × Unit) := (if 0 ≤ (IntKind.u8.wrap (x0)) then (if (IntKind.u8.wrap (x0)) < (Ts0.size : Int) then some (w64 (x2 + (w64 (strAt Ts0 (IntKind.u8.wrap (x0)).toNat))), ()) else none) else none)
theorem f181_c8_P (k : Nat) : f181_o_c8 (fun σ => f181_a k (f181_F_c8 k) .nx σ) = f181_c8_B k := by kernel_rfl
def f181_c8 (k : Nat) : f181_t_c8 := f181_c8_B k
theorem f181_c8_E (k : Nat) : f181_o_c8 (f181_C_c8 k) = f181_c8 k :=
  Eq.trans (congrArg f181_o_c8 (ap_fn (f181_f_c8 k))) ((f181_c8_P k).trans (by rfl))
theorem f181_c5_P (k : Nat) (G_c8 : f181_S) : f181_o_c5 (fun σ => f181_a k (f181_F_c5 k G_c8) .nx σ) = f181_c5_B k (f181_o_c8 G_c8) := by kernel_rfl
def f181_c5 (k : Nat) : f181_t_c5 := f181_c5_B k (f181_c8 k)
theorem f181_c5_E (k : Nat) : f181_o_c5 (f181_C_c5 k) = f181_c5 k :=
  Eq.trans (congrArg f181_o_c5 (ap_fn (f181_f_c5 k))) ((f181_c5_P k (f181_C_c8 k)).trans (by rw [f181_c8_E k] <;> rfl))
theorem f181_c2_P (k : Nat) (G_c5 G_c8 : f181_S) : f181_o_c2 (fun σ => f181_a k (f181_F_c2 k G_c5 G_c8) .nx σ) = f181_c2_B k (f181_o_c5 G_c5) := by kernel_rfl
def f181_c2 (k : Nat) : f181_t_c2 := f181_c2_B k (f181_c5 k)
theorem f181_c2_E (k : Nat) : f181_o_c2 (f181_C_c2 k) = f181_c2 k :=
  Eq.trans (congrArg f181_o_c2 (ap_fn (f181_f_c2 k))) ((f181_c2_P k (f181_C_c5 k) (f181_C_c8 k)).trans (by rw [f181_c5_E k] <;> rfl))
theorem f181_entry_P (k : Nat) (G_c2 G_c5 G_c8 : f181_S) (xs : DL f181_sig) : f181_a k (.c (f181_p 2) 0 :: .c (f181_p 12) 0 :: .c (f181_p 13) 0 :: .j G_c2 :: f181_F_c2 k G_c5 G_c8) .nx (σ0 25 80 f181_sig xs) = f181_entry_B k (f181_o_c2 G_c2) xs.1 := by kernel_rfl
def f181 (k : Nat) (a0 : Int) : Option (Int × Unit) := f181_entry_B k (f181_c2 k) a0
theorem f181_fe (k : Nat) : f181_a k [.c (f181_p 1) 0] = f181_a k (.c (f181_p 2) 0 :: .c (f181_p 12) 0 :: .c (f181_p 13) 0 :: .j (f181_C_c2 k) :: f181_F_c2 k (f181_C_c5 k) (f181_C_c8 k)) := (Eq.trans ap_sq (ap_cons _ (Eq.trans ap_sq (Eq.trans ap_sq (ap_cons _ (ap_cons _ (Eq.trans (ap_pass (C := (f181_C_c2 k)) (fun _ => rfl)) (ap_cons _ (f181_f_c2 k)))))))))
theorem f181_eq (k : Nat) (xs : DL f181_sig) : den T f181_Y (f181_E k) f181_A k f181_c 0 (σ0 25 80 f181_sig xs) (Kfin T f181_rs f181_ts) = f181 k xs.1 :=
  Eq.trans (Eq.trans den_sb (ap_at (f181_fe k) _)) ((f181_entry_P k (f181_C_c2 k) (f181_C_c5 k) (f181_C_c8 k) xs).trans (by rw [f181_c2_E k] <;> rfl))
noncomputable def f181_con (k : Nat) : Con := ⟨f181_sig, f181_rs, fun xs => f181 k xs.1⟩
theorem f181_ok (k : Nat) : PureOK Try.prog 181 f181_sig f181_rs (fun xs => f181 k xs.1) :=
  (pure_of_den (k := k) (A := f181_A) (T := T) (Y := f181_Y) (E := f181_E k) (M := 80) (ts := f181_ts) T_ok trivial trivial mixed (f := 181) (fn := Try.f181) (c := f181_c) (by kernel_rfl) (by kernel_rfl) (by kernel_rfl) (by decide) (by kernel_rfl)).congr fun xs => (f181_eq k xs).symm
theorem f181_ent : Ent Try.prog 181 := fun args w => by kernel_rfl
/-! ### math/bits.Len: function 145 -/
noncomputable def f145_c : Code := Try.f145.body.getD .skip
noncomputable abbrev f145_p (n : Nat) : Code := sb f145_c n
abbrev f145_sig : List PT := [(false, (.int .u64))]
abbrev f145_rs : List RT := [.d false (.int .i64)]
abbrev f145_ts : List RV := [.tmp 2]
abbrev f145_S := St → Option (RDL f145_rs)
abbrev f145_L := List (Fr (RDL f145_rs))
def f145_Y : Tys := []
noncomputable def f145_E (k : Nat) : Env := [(181, .c (f181_con k))]
def f145_A : Ann := {}
noncomputable abbrev f145_a (k : Nat) (F : f145_L) : Kont (RDL f145_rs) := ap T f145_Y (f145_E k) f145_A k (Kfin T f145_rs f145_ts) F
def f145_entry_B (k : Nat) (a0 : Int) : Option (Int × Unit) := ((f181 k a0).bind fun r1 => some (r1.1, ()))
theorem f145_entry_P (k : Nat) (xs : DL f145_sig) : f145_a k (.c (f145_p 1) 0 :: []) .nx (σ0 8 32 f145_sig xs) = f145_entry_B k xs.1 := by kernel_rfl
def f145 (k : Nat) (a0 : Int) : Option (Int × Unit) := f145_entry_B k a0
theorem f145_eq (k : Nat) (xs : DL f145_sig) : den T f145_Y (f145_E k) f145_A k f145_c 0 (σ0 8 32 f145_sig xs) (Kfin T f145_rs f145_ts) = f145 k xs.1 :=
  Eq.trans (Eq.trans den_sb (ap_at (ap_cons _ rfl) _)) ((f145_entry_P k xs).trans (by rfl))
noncomputable def f145_con (k : Nat) : Con := ⟨f145_sig, f145_rs, fun xs => f145 k xs.1⟩
theorem f145_ok (k : Nat) : PureOK Try.prog 145 f145_sig f145_rs (fun xs => f145 k xs.1) :=
  (pure_of_den (k := k) (A := f145_A) (T := T) (Y := f145_Y) (E := f145_E k) (M := 32) (ts := f145_ts) T_ok ⟨f181_ok k, trivial⟩ ⟨f181_ent, trivial⟩ mixed (f := 145) (fn := Try.f145) (c := f145_c) (by kernel_rfl) (by kernel_rfl) (by kernel_rfl) (by decide) (by kernel_rfl)).congr fun xs => (f145_eq k xs).symm
theorem f145_ent : Ent Try.prog 145 := fun args w => by kernel_rfl
/-! ### terrier/terrmake.Net$1: function 133 -/
noncomputable def f133_c : Code := Try.f133.body.getD .skip
noncomputable abbrev f133_p (n : Nat) : Code := sb f133_c n
abbrev f133_sig : List PT := [(true, Tq2), (true, Tq2)]
abbrev f133_rs : List RT := [.d false (.int .i64)]
abbrev f133_ts : List RV := [.tmp 4]
abbrev f133_S := St → Option (RDL f133_rs)
abbrev f133_L := List (Fr (RDL f133_rs))
def f133_Y : Tys := []
noncomputable def f133_E (k : Nat) : Env := []
def f133_A : Ann := {}
noncomputable abbrev f133_a (k : Nat) (F : f133_L) : Kont (RDL f133_rs) := ap T f133_Y (f133_E k) f133_A k (Kfin T f133_rs f133_ts) F
def f133_entry_B (k : Nat) (a0 : (Int × Int)) (a1 : (Int × Int)) : Option (Int × Unit) := (if ¬ (a0.1 = a1.1) then some (w64 (a0.1 - a1.1), ()) else some (w64 (a0.2 - a1.2), ()))
theorem f133_entry_P (k : Nat) (xs : DL f133_sig) : f133_a k (.c (f133_p 1) 0 :: []) .nx (σ0 20 64 f133_sig xs) = f133_entry_B k xs.1 xs.2.1 := by kernel_rfl
def f133 (k : Nat) (a0 : (Int × Int)) (a1 : (Int × Int)) : Option (Int × Unit) := f133_entry_B k a0 a1
theorem f133_eq (k : Nat) (xs : DL f133_sig) : den T f133_Y (f133_E k) f133_A k f133_c 0 (σ0 20 64 f133_sig xs) (Kfin T f133_rs f133_ts) = f133 k xs.1 xs.2.1 :=
  Eq.trans (Eq.trans den_sb (ap_at (ap_cons _ rfl) _)) ((f133_entry_P k xs).trans (by rfl))
noncomputable def f133_con (k : Nat) : Con := ⟨f133_sig, f133_rs, fun xs => f133 k xs.1 xs.2.1⟩
theorem f133_ok (k : Nat) : PureOK Try.prog 133 f133_sig f133_rs (fun xs => f133 k xs.1 xs.2.1) :=
  (pure_of_den (k := k) (A := f133_A) (T := T) (Y := f133_Y) (E := f133_E k) (M := 64) (ts := f133_ts) T_ok trivial trivial mixed (f := 133) (fn := Try.f133) (c := f133_c) (by kernel_rfl) (by kernel_rfl) (by kernel_rfl) (by decide) (by kernel_rfl)).congr fun xs => (f133_eq k xs).symm
theorem f133_ent : Ent Try.prog 133 := fun args w => by kernel_rfl
/-! ### slices.insertionSortCmpFunc[terrier/api.Ban]: function 209 -/
noncomputable def f209_c : Code := Try.f209.body.getD .skip
noncomputable abbrev f209_p (n : Nat) : Code := sb f209_c n
abbrev f209_sig : List PT := [(false, (.int .i64)), (false, (.int .i64)), (false, (.fn 133))]
abbrev f209_rs : List RT := []
abbrev f209_ts : List RV := []
abbrev f209_ls : List LO := [.row Tq2]
abbrev f209_S := St → Option (LOD f209_ls × RDL f209_rs)
abbrev f209_L := List (Fr (LOD f209_ls × RDL f209_rs))
def f209_Y : Tys := []
noncomputable def f209_E (k : Nat) : Env := [(133, .c (f133_con k))]
def f209_A : Ann := { loops := [(0, { slots := [(0, .id), (1, .id), (2, .id), (3, .id), (8, .id)], keys := [(0, [])] }), (2, { slots := [(0, .id), (1, .id), (2, .id), (3, .id), (8, .id), (9, .id)], keys := [(0, [])] })], regs := [(4, { slots := [(0, .id), (1, .id), (2, .id), (3, .id), (8, .id), (9, .id), (34, .bool)], keys := [(0, [])] })] }
noncomputable abbrev f209_a (k : Nat) (F : f209_L) : Kont (LOD f209_ls × RDL f209_rs) := ap T f209_Y (f209_E k) f209_A k (KfinB T true f209_ls f209_rs f209_ts) F
def f209_s_l0 (y0 : (List (Int × Int))) (x1 : Int) (x2 : Int) (x8 : Int) : St := mkS 53 161 [(0, aO 0), (1, aI x1), (2, aI x2), (3, .cp (.one (.fn 133 []))), (8, aI x8)] [(0, .vec Tq2 y0)]
abbrev f209_t_l0 := (List (Int × Int)) → Int → Int → Int → Option (((List (Int × Int)) × Unit) × (Unit))
abbrev f209_o_l0 (R : f209_S) : f209_t_l0 := (fun y0 x1 x2 x8 => R (f209_s_l0 y0 x1 x2 x8))
noncomputable def f209_Q_l0 (k : Nat) (R_l0 : f209_S) : f209_L := [.c (f209_p 12) 0, .j (fun σ => R_l0 (cut f209_A.loops 0 σ)), .blk 0]
noncomputable def f209_C_l0 (k : Nat) (n : Nat) (σ : St) : Option (LOD f209_ls × RDL f209_rs) := loopK (fun σ K => den T f209_Y (f209_E k) f209_A k (f209_p 12) 0 σ K) (cut f209_A.loops 0) (f209_a k [.blk 0]) n σ
def f209_s_l2 (y0 : (List (Int × Int))) (x1 : Int) (x2 : Int) (x8 : Int) (x9 : Int) : St := mkS 53 161 [(0, aO 0), (1, aI x1), (2, aI x2), (3, .cp (.one (.fn 133 []))), (8, aI x8), (9, aI x9)] [(0, .vec Tq2 y0)]
abbrev f209_t_l2 := (List (Int × Int)) → Int → Int → Int → Int → Option (((List (Int × Int)) × Unit) × (Unit))
abbrev f209_o_l2 (R : f209_S) : f209_t_l2 := (fun y0 x1 x2 x8 x9 => R (f209_s_l2 y0 x1 x2 x8 x9))
noncomputable def f209_Q_l2 (k : Nat) (R_l0 R_l2 : f209_S) : f209_L := [.c (f209_p 804) 2, .j (fun σ => R_l2 (cut f209_A.loops 2 σ)), .blk 2, .blk 1, .c (f209_p 51) 0, .j (fun σ => R_l0 (cut f209_A.loops 0 σ)), .blk 0]
noncomputable def f209_C_l2 (k : Nat) (R_l0 : f209_S) (n : Nat) (σ : St) : Option (LOD f209_ls × RDL f209_rs) := loopK (fun σ K => den T f209_Y (f209_E k) f209_A k (f209_p 804) 2 σ K) (cut f209_A.loops 2) (f209_a k [.blk 2, .blk 1, .c (f209_p 51) 0, .j (fun σ => R_l0 (cut f209_A.loops 0 σ)), .blk 0]) n σ
def f209_s_r4 (y0 : (List (Int × Int))) (x1 : Int) (x2 : Int) (x34 : Bool) (x8 : Int) (x9 : Int) : St := mkS 53 161 [(0, aO 0), (1, aI x1), (2, aI x2), (3, .cp (.one (.fn 133 []))), (8, aI x8), (9, aI x9), (34, aB x34)] [(0, .vec Tq2 y0)]
abbrev f209_t_r4 := (List (Int × Int)) → Int → Int → Bool → Int → Int → Option (((List (Int × Int)) × Unit) × (Unit))
abbrev f209_o_r4 (R : f209_S) : f209_t_r4 := (fun y0 x1 x2 x34 x8 x9 => R (f209_s_r4 y0 x1 x2 x34 x8 x9))
noncomputable def f209_Q_r4 (k : Nat) (R_l2 R_l0 : f209_S) : f209_L := [.c (f209_p 3217) 2, .c (f209_p 1609) 2, .j (fun σ => R_l2 (cut f209_A.loops 2 σ)), .blk 2, .blk 1, .c (f209_p 51) 0, .j (fun σ => R_l0 (cut f209_A.loops 0 σ)), .blk 0]
noncomputable def f209_C_r4 (k : Nat) (R_l2 R_l0 : f209_S) : f209_S := fun σ => f209_a k (f209_Q_r4 k R_l2 R_l0) .nx σ
noncomputable def f209_F_l0 (k : Nat) (G_l0 G_l2 : f209_S) : f209_L := .c (f209_p 24) 0 :: .j (fun σ => f209_a k (.c (f209_p 200) 1 :: .j (fun σ => f209_a k (.j (fun σ => G_l2 (cut f209_A.loops 2 σ)) :: .blk 2 :: .blk 1 :: .c (f209_p 51) 0 :: .j (fun σ => G_l0 (cut f209_A.loops 0 σ)) :: .blk 0 :: []) .nx σ) :: .blk 1 :: .c (f209_p 51) 0 :: .j (fun σ => G_l0 (cut f209_A.loops 0 σ)) :: .blk 0 :: []) .nx σ) :: .c (f209_p 51) 0 :: .j (fun σ => G_l0 (cut f209_A.loops 0 σ)) :: .blk 0 :: []
theorem f209_f_l0 (k : Nat) (R_l0 : f209_S) : f209_a k (f209_Q_l0 k R_l0) = f209_a k (f209_F_l0 k R_l0 (f209_C_l2 k R_l0 k)) := (Eq.trans ap_sq (ap_cons _ (Eq.trans ap_sq (Eq.trans (ap_bl 1) (Eq.trans (ap_j (Eq.trans ap_sq (ap_cons _ (Eq.trans (ap_bl 2) (Eq.trans (ap_j (Eq.trans (ap_lp (C := (f209_C_l2 k R_l0)) (fun _ _ => rfl)) (ap_cons _ (ap_cons _ (ap_cons _ (ap_cons _ (ap_cons _ (ap_cons _ rfl)))))))) (ap_cons _ (ap_cons _ (ap_cons _ (ap_cons _ (ap_cons _ rfl)))))))))) (ap_cons _ (ap_cons _ (ap_cons _ (ap_cons _ rfl)))))))))
noncomputable def f209_F_r4 (k : Nat) (G_l0 G_l2 : f209_S) : f209_L := .c (f209_p 3217) 2 :: .c (f209_p 1609) 2 :: .j (fun σ => G_l2 (cut f209_A.loops 2 σ)) :: .blk 2 :: .blk 1 :: .c (f209_p 51) 0 :: .j (fun σ => G_l0 (cut f209_A.loops 0 σ)) :: .blk 0 :: []
theorem f209_f_r4 (k : Nat) (R_l2 R_l0 : f209_S) : f209_a k (f209_Q_r4 k R_l2 R_l0) = f209_a k (f209_F_r4 k R_l0 R_l2) := (ap_cons _ (ap_cons _ (ap_cons _ (ap_cons _ (ap_cons _ (ap_cons _ (ap_cons _ (ap_cons _ rfl))))))))
noncomputable def f209_F_l2 (k : Nat) (G_l0 G_l2 G_r4 : f209_S) : f209_L := .c (f209_p 3216) 2 :: .j G_r4 :: f209_F_r4 k G_l0 G_l2
theorem f209_f_l2 (k : Nat) (R_l0 R_l2 : f209_S) : f209_a k (f209_Q_l2 k R_l0 R_l2) = f209_a k (f209_F_l2 k R_l0 R_l2 (f209_C_r4 k R_l2 R_l0)) := (Eq.trans ap_sq (Eq.trans ap_sq (ap_cons _ (Eq.trans (ap_pass (C := (f209_C_r4 k R_l2 R_l0)) (fun _ => rfl)) (ap_cons _ (f209_f_r4 k R_l2 R_l0))))))
def f209_entry_B (k : Nat) (g_l0 : f209_t_l0) (a : Td4) (a0 : Int) (a1 : Int) (a2 : Unit) : Option (((List (Int × Int)) × Unit) × (Unit)) := (g_l0 a a0 a1 (w64 (a0 + 1)))
def f209_l0_B (k : Nat) (g_l2 : f209_t_l2) (y0 : (List (Int × Int))) (x1 : Int) (x2 : Int) (x8 : Int) : Option (((List (Int × Int)) × Unit) × (Unit)) := (if x8 < x2 then (g_l2 y0 x1 x2 x8 x8) else some ((y0, ()), (())))
def f209_l2_B (k : Nat) (g_r4 : f209_t_r4) (y0 : (List (Int × Int))) (x1 : Int) (x2 : Int) (x8 : Int) (x9 : Int) : Option (((List (Int × Int)) × Unit) × (Unit)) := (if x1 < x9 then (if 0 ≤ x9 then (if x9 < (y0.length : Int) then (if 0 ≤ (w64 (x9 - 1)) then (if (w64 (x9 - 1)) < (y0.length : Int) then ((f133 k ((y0.getD ((x9).toNat) (0, 0)).1, (y0.getD ((x9).toNat) (0, 0)).2) ((y0.getD ((w64 (x9 - 1)).toNat) (0, 0)).1, (y0.getD ((w64 (x9 - 1)).toNat) (0, 0)).2)).bind fun r1 => (g_r4 y0 x1 x2 (decide (r1.1 < 0)) x8 x9)) else none) else none) else none) else none) else (g_r4 y0 x1 x2 false x8 x9))
def f209_r4_B (k : Nat) (g_l0 : f209_t_l0) (g_l2 : f209_t_l2) (y0 : (List (Int × Int))) (x1 : Int) (x2 : Int) (x34 : Bool) (x8 : Int) (x9 : Int) : Option (((List (Int × Int)) × Unit) × (Unit)) := (if x34 = true then (if 0 ≤ (w64 (x9 - 1)) then (if (w64 (x9 - 1)) < (y0.length : Int) then (if 0 ≤ x9 then (if x9 < (y0.length : Int) then (if 0 ≤ x9 then (if x9 < (y0.length : Int) then (if 0 ≤ (w64 (x9 - 1)) then (if (w64 (x9 - 1)) < ((y0.set ((x9).toNat) ((y0.getD ((w64 (x9 - 1)).toNat) (0, 0)).1, (y0.getD ((w64 (x9 - 1)).toNat) (0, 0)).2)).length : Int) then (g_l2 ((y0.set ((x9).toNat) ((y0.getD ((w64 (x9 - 1)).toNat) (0, 0)).1, (y0.getD ((w64 (x9 - 1)).toNat) (0, 0)).2)).set ((w64 (x9 - 1)).toNat) ((y0.getD ((x9).toNat) (0, 0)).1, (y0.getD ((x9).toNat) (0, 0)).2)) x1 x2 x8 (w64 (x9 - 1))) else none) else none) else none) else none) else none) else none) else none) else none) else (g_l0 y0 x1 x2 (w64 (x8 + 1))))
theorem f209_r4_P (k : Nat) (G_l0 G_l2 : f209_S) : f209_o_r4 (fun σ => f209_a k (f209_F_r4 k G_l0 G_l2) .nx σ) = f209_r4_B k (f209_o_l0 G_l0) (f209_o_l2 G_l2) := by kernel_rfl
def f209_r4 (k : Nat) (r_l2 : f209_t_l2) (r_l0 : f209_t_l0) : f209_t_r4 := f209_r4_B k r_l0 r_l2
theorem f209_r4_E (k : Nat) (R_l2 R_l0 : f209_S) : f209_o_r4 (f209_C_r4 k R_l2 R_l0) = f209_r4 k (f209_o_l2 R_l2) (f209_o_l0 R_l0) :=
  Eq.trans (congrArg f209_o_r4 (ap_fn (f209_f_r4 k R_l2 R_l0))) ((f209_r4_P k R_l0 R_l2).trans (by rfl))
theorem f209_l2_P (k : Nat) (G_l0 G_l2 G_r4 : f209_S) : f209_o_l2 (fun σ => f209_a k (f209_F_l2 k G_l0 G_l2 G_r4) .nx σ) = f209_l2_B k (f209_o_r4 G_r4) := by kernel_rfl
def f209_l2 (k : Nat) (r_l0 : f209_t_l0) : Nat → f209_t_l2
  | 0 => fun _ _ _ _ _ => none
  | n + 1 => f209_l2_B k (f209_r4 k (f209_l2 k r_l0 n) r_l0)
theorem f209_l2_E (k : Nat) (R_l0 : f209_S) : ∀ n, f209_o_l2 (f209_C_l2 k R_l0 n) = f209_l2 k (f209_o_l0 R_l0) n
  | 0 => rfl
  | n + 1 =>
    Eq.trans (congrArg f209_o_l2 (Eq.trans (b := fun σ => f209_a k (f209_Q_l2 k R_l0 (f209_C_l2 k R_l0 n)) .nx σ) (by kernel_rfl) (ap_fn (f209_f_l2 k R_l0 (f209_C_l2 k R_l0 n))))) ((f209_l2_P k R_l0 (f209_C_l2 k R_l0 n) (f209_C_r4 k (f209_C_l2 k R_l0 n) R_l0)).trans (by rw [f209_r4_E k (f209_C_l2 k R_l0 n) R_l0, f209_l2_E k R_l0 n] <;> rfl))
theorem f209_l0_P (k : Nat) (G_l0 G_l2 : f209_S) : f209_o_l0 (fun σ => f209_a k (f209_F_l0 k G_l0 G_l2) .nx σ) = f209_l0_B k (f209_o_l2 G_l2) := by kernel_rfl
def f209_l0 (k : Nat) : Nat → f209_t_l0
  | 0 => fun _ _ _ _ => none
  | n + 1 => f209_l0_B k (f209_l2 k (f209_l0 k n) k)
theorem f209_l0_E (k : Nat) : ∀ n, f209_o_l0 (f209_C_l0 k n) = f209_l0 k n
  | 0 => rfl
  | n + 1 =>
    Eq.trans (congrArg f209_o_l0 (Eq.trans (b := fun σ => f209_a k (f209_Q_l0 k (f209_C_l0 k n)) .nx σ) (by kernel_rfl) (ap_fn (f209_f_l0 k (f209_C_l0 k n))))) ((f209_l0_P k (f209_C_l0 k n) (f209_C_l2 k (f209_C_l0 k n) k)).trans (by rw [f209_l2_E k (f209_C_l0 k n) k, f209_l0_E k n] <;> rfl))
theorem f209_entry_P (k : Nat) (G_l0 : f209_S) (x : LOD f209_ls) (xs : DL f209_sig) : f209_a k (.c (f209_p 2) 0 :: .j (fun σ => f209_a k (.j (fun σ => G_l0 (cut f209_A.loops 0 σ)) :: .blk 0 :: []) .nx σ) :: []) .nx (σ0B 53 161 0 f209_ls x f209_sig xs) = f209_entry_B k (f209_o_l0 G_l0) x.1 xs.1 xs.2.1 xs.2.2.1 := by kernel_rfl
def f209 (k : Nat) (a : Td4) (a0 : Int) (a1 : Int) (a2 : Unit) : Option (((List (Int × Int)) × Unit) × (Unit)) := f209_entry_B k (f209_l0 k k) a a0 a1 a2
theorem f209_fe (k : Nat) : f209_a k [.c (f209_p 1) 0] = f209_a k (.c (f209_p 2) 0 :: .j (fun σ => f209_a k (.j (fun σ => (f209_C_l0 k k) (cut f209_A.loops 0 σ)) :: .blk 0 :: []) .nx σ) :: []) := (Eq.trans ap_sq (ap_cons _ (Eq.trans (ap_bl 0) (Eq.trans (ap_j (Eq.trans (ap_lp (C := (f209_C_l0 k)) (fun _ _ => rfl)) (ap_cons _ (ap_cons _ rfl)))) (ap_cons _ rfl)))))
theorem f209_eq (k : Nat) (x : LOD f209_ls) (xs : DL f209_sig) : den T f209_Y (f209_E k) f209_A k f209_c 0 (σ0B 53 161 0 f209_ls x f209_sig xs) (KfinB T true f209_ls f209_rs f209_ts) = f209 k x.1 xs.1 xs.2.1 xs.2.2.1 :=
  Eq.trans (Eq.trans den_sb (ap_at (f209_fe k) _)) ((f209_entry_P k (f209_C_l0 k k) x xs).trans (by rw [f209_l0_E k k] <;> rfl))
noncomputable def f209_con (k : Nat) : BCon := ⟨0, true, f209_ls, f209_sig, f209_rs, fun x xs => f209 k x.1 xs.1 xs.2.1 xs.2.2.1⟩
theorem f209_ok (k : Nat) : BoxOK Try.prog 209 0 true f209_ls f209_sig f209_rs (fun x xs => f209 k x.1 xs.1 xs.2.1 xs.2.2.1) :=
  (box_of_den (k := k) (A := f209_A) (T := T) (Y := f209_Y) (E := f209_E k) (M := 161) (ts := f209_ts) T_ok ⟨f133_ok k, trivial⟩ ⟨f133_ent, trivial⟩ mixed (f := 209) (fn := Try.f209) (c := f209_c) (by kernel_rfl) (by kernel_rfl) (by kernel_rfl) (by decide) (by kernel_rfl) (by decide)).congr fun x xs => (f209_eq k x xs).symm
theorem f209_ent : Ent Try.prog 209 := fun args w => by kernel_rfl
/-! ### slices.order2CmpFunc[terrier/api.Ban]: function 249 -/
noncomputable def f249_c : Code := Try.f249.body.getD .skip
noncomputable abbrev f249_p (n : Nat) : Code := sb f249_c n
abbrev f249_sig : List PT := [(false, Tq3), (false, (.int .i64)), (false, (.int .i64)), (false, (.fn 133))]
abbrev f249_rs : List RT := [.d false (.int .i64), .d false (.int .i64)]
abbrev f249_ts : List RV := [.tmp 10, .tmp 11]
abbrev f249_ls : List LO := [.box [.d (.int .i64)]]
abbrev f249_S := St → Option (LOD f249_ls × RDL f249_rs)
abbrev f249_L := List (Fr (LOD f249_ls × RDL f249_rs))
def f249_Y : Tys := []
noncomputable def f249_E (k : Nat) : Env := [(133, .c (f133_con k))]
def f249_A : Ann := {}
noncomputable abbrev f249_a (k : Nat) (F : f249_L) : Kont (LOD f249_ls × RDL f249_rs) := ap T f249_Y (f249_E k) f249_A k (KfinB T true f249_ls f249_rs f249_ts) F
def f249_entry_B (k : Nat) (a : Int) (a0 : Td4) (a1 : Int) (a2 : Int) (a3 : Unit) : Option (((Int × Unit) × Unit) × (Int × Int × Unit)) := (if 0 ≤ a2 then (if a2 < (a0.length : Int) then (if 0 ≤ a1 then (if a1 < (a0.length : Int) then ((f133 k ((a0.getD (a2).toNat (0, 0)).1, (a0.getD (a2).toNat (0, 0)).2) ((a0.getD (a1).toNat (0, 0)).1, (a0.getD (a1).toNat (0, 0)).2)).bind fun r1 => (if r1.1 < 0 then some (((w64 (a + 1), ()), ()), (a2, a1, ())) else some (((a, ()), ()), (a1, a2, ())))) else none) else none) else none) else none)
theorem f249_entry_P (k : Nat) (x : LOD f249_ls) (xs : DL f249_sig) : f249_a k (.c (f249_p 1) 0 :: []) .nx (σ0B 32 97 3 f249_ls x f249_sig xs) = f249_entry_B k x.1.1 xs.1 xs.2.1 xs.2.2.1 xs.2.2.2.1 := by kernel_rfl
def f249 (k : Nat) (a : Int) (a0 : Td4) (a1 : Int) (a2 : Int) (a3 : Unit) : Option (((Int × Unit) × Unit) × (Int × Int × Unit)) := f249_entry_B k a a0 a1 a2 a3
theorem f249_eq (k : Nat) (x : LOD f249_ls) (xs : DL f249_sig) : den T f249_Y (f249_E k) f249_A k f249_c 0 (σ0B 32 97 3 f249_ls x f249_sig xs) (KfinB T true f249_ls f249_rs f249_ts) = f249 k x.1.1 xs.1 xs.2.1 xs.2.2.1 xs.2.2.2.1 :=
  Eq.trans (Eq.trans den_sb (ap_at (ap_cons _ rfl) _)) ((f249_entry_P k x xs).trans (by rfl))
noncomputable def f249_con (k : Nat) : BCon := ⟨3, true, f249_ls, f249_sig, f249_rs, fun x xs => f249 k x.1.1 xs.1 xs.2.1 xs.2.2.1 xs.2.2.2.1⟩
theorem f249_ok (k : Nat) : BoxOK Try.prog 249 3 true f249_ls f249_sig f249_rs (fun x xs => f249 k x.1.1 xs.1 xs.2.1 xs.2.2.1 xs.2.2.2.1) :=
  (box_of_den (k := k) (A := f249_A) (T := T) (Y := f249_Y) (E := f249_E k) (M := 97) (ts := f249_ts) T_ok ⟨f133_ok k, trivial⟩ ⟨f133_ent, trivial⟩ mixed (f := 249) (fn := Try.f249) (c := f249_c) (by kernel_rfl) (by kernel_rfl) (by kernel_rfl) (by decide) (by kernel_rfl) (by decide)).congr fun x xs => (f249_eq k x xs).symm
theorem f249_ent : Ent Try.prog 249 := fun args w => by kernel_rfl
/-! ### slices.medianCmpFunc[terrier/api.Ban]: function 239 -/
noncomputable def f239_c : Code := Try.f239.body.getD .skip
noncomputable abbrev f239_p (n : Nat) : Code := sb f239_c n
abbrev f239_sig : List PT := [(false, Tq3), (false, (.int .i64)), (false, (.int .i64)), (false, (.int .i64)), (false, (.fn 133))]
abbrev f239_rs : List RT := [.d false (.int .i64)]
abbrev f239_ts : List RV := [.tmp 12]
abbrev f239_ls : List LO := [.box [.d (.int .i64)]]
abbrev f239_S := St → Option (LOD f239_ls × RDL f239_rs)
abbrev f239_L := List (Fr (LOD f239_ls × RDL f239_rs))
def f239_Y : Tys := []
noncomputable def f239_E (k : Nat) : Env := [(249, .b (f249_con k))]
def f239_A : Ann := {}
noncomputable abbrev f239_a (k : Nat) (F : f239_L) : Kont (LOD f239_ls × RDL f239_rs) := ap T f239_Y (f239_E k) f239_A k (KfinB T true f239_ls f239_rs f239_ts) F
def f239_entry_B (k : Nat) (a : Int) (a0 : Td4) (a1 : Int) (a2 : Int) (a3 : Int) (a4 : Unit) : Option (((Int × Unit) × Unit) × (Int × Unit)) := ((f249 k a a0 a1 a2 ()).bind fun r1 => ((f249 k r1.1.1.1 a0 r1.2.2.1 a3 ()).bind fun r2 => ((f249 k r2.1.1.1 a0 r1.2.1 r2.2.1 ()).bind fun r3 => some (((r3.1.1.1, ()), ()), (r3.2.2.1, ())))))
theorem f239_entry_P (k : Nat) (x : LOD f239_ls) (xs : DL f239_sig) : f239_a k (.c (f239_p 1) 0 :: []) .nx (σ0B 41 129 4 f239_ls x f239_sig xs) = f239_entry_B k x.1.1 xs.1 xs.2.1 xs.2.2.1 xs.2.2.2.1 xs.2.2.2.2.1 := by kernel_rfl
def f239 (k : Nat) (a : Int) (a0 : Td4) (a1 : Int) (a2 : Int) (a3 : Int) (a4 : Unit) : Option (((Int × Unit) × Unit) × (Int × Unit)) := f239_entry_B k a a0 a1 a2 a3 a4
theorem f239_eq (k : Nat) (x : LOD f239_ls) (xs : DL f239_sig) : den T f239_Y (f239_E k) f239_A k f239_c 0 (σ0B 41 129 4 f239_ls x f239_sig xs) (KfinB T true f239_ls f239_rs f239_ts) = f239 k x.1.1 xs.1 xs.2.1 xs.2.2.1 xs.2.2.2.1 xs.2.2.2.2.1 :=
  Eq.trans (Eq.trans den_sb (ap_at (ap_cons _ rfl) _)) ((f239_entry_P k x xs).trans (by rfl))
noncomputable def f239_con (k : Nat) : BCon := ⟨4, true, f239_ls, f239_sig, f239_rs, fun x xs => f239 k x.1.1 xs.1 xs.2.1 xs.2.2.1 xs.2.2.2.1 xs.2.2.2.2.1⟩
theorem f239_ok (k : Nat) : BoxOK Try.prog 239 4 true f239_ls f239_sig f239_rs (fun x xs => f239 k x.1.1 xs.1 xs.2.1 xs.2.2.1 xs.2.2.2.1 xs.2.2.2.2.1) :=
  (box_of_den (k := k) (A := f239_A) (T := T) (Y := f239_Y) (E := f239_E k) (M := 129) (ts := f239_ts) T_ok ⟨f249_ok k, trivial⟩ ⟨f249_ent, trivial⟩ mixed (f := 239) (fn := Try.f239) (c := f239_c) (by kernel_rfl) (by kernel_rfl) (by kernel_rfl) (by decide) (by kernel_rfl) (by decide)).congr fun x xs => (f239_eq k x xs).symm
theorem f239_ent : Ent Try.prog 239 := fun args w => by kernel_rfl
/-! ### slices.medianAdjacentCmpFunc[terrier/api.Ban]: function 238 -/
noncomputable def f238_c : Code := Try.f238.body.getD .skip
noncomputable abbrev f238_p (n : Nat) : Code := sb f238_c n
abbrev f238_sig : List PT := [(false, Tq3), (false, (.int .i64)), (false, (.fn 133))]
abbrev f238_rs : List RT := [.d false (.int .i64)]
abbrev f238_ts : List RV := [.tmp 8]
abbrev f238_ls : List LO := [.box [.d (.int .i64)]]
abbrev f238_S := St → Option (LOD f238_ls × RDL f238_rs)
abbrev f238_L := List (Fr (LOD f238_ls × RDL f238_rs))
def f238_Y : Tys := []
noncomputable def f238_E (k : Nat) : Env := [(239, .b (f239_con k))]
def f238_A : Ann := {}
noncomputable abbrev f238_a (k : Nat) (F : f238_L) : Kont (LOD f238_ls × RDL f238_rs) := ap T f238_Y (f238_E k) f238_A k (KfinB T true f238_ls f238_rs f238_ts) F
def f238_entry_B (k : Nat) (a : Int) (a0 : Td4) (a1 : Int) (a2 : Unit) : Option (((Int × Unit) × Unit) × (Int × Unit)) := ((f239 k a a0 (w64 (a1 - 1)) a1 (w64 (a1 + 1)) ()).bind fun r1 => some (((r1.1.1.1, ()), ()), (r1.2.1, ())))
theorem f238_entry_P (k : Nat) (x : LOD f238_ls) (xs : DL f238_sig) : f238_a k (.c (f238_p 1) 0 :: []) .nx (σ0B 18 65 2 f238_ls x f238_sig xs) = f238_entry_B k x.1.1 xs.1 xs.2.1 xs.2.2.1 := by kernel_rfl
def f238 (k : Nat) (a : Int) (a0 : Td4) (a1 : Int) (a2 : Unit) : Option (((Int × Unit) × Unit) × (Int × Unit)) := f238_entry_B k a a0 a1 a2
theorem f238_eq (k : Nat) (x : LOD f238_ls) (xs : DL f238_sig) : den T f238_Y (f238_E k) f238_A k f238_c 0 (σ0B 18 65 2 f238_ls x f238_sig xs) (KfinB T true f238_ls f238_rs f238_ts) = f238 k x.1.1 xs.1 xs.2.1 xs.2.2.1 :=
  Eq.trans (Eq.trans den_sb (ap_at (ap_cons _ rfl) _)) ((f238_entry_P k x xs).trans (by rfl))
noncomputable def f238_con (k : Nat) : BCon := ⟨2, true, f238_ls, f238_sig, f238_rs, fun x xs => f238 k x.1.1 xs.1 xs.2.1 xs.2.2.1⟩
theorem f238_ok (k : Nat) : BoxOK Try.prog 238 2 true f238_ls f238_sig f238_rs (fun x xs => f238 k x.1.1 xs.1 xs.2.1 xs.2.2.1) :=
  (box_of_den (k := k) (A := f238_A) (T := T) (Y := f238_Y) (E := f238_E k) (M := 65) (ts := f238_ts) T_ok ⟨f239_ok k, trivial⟩ ⟨f239_ent, trivial⟩ mixed (f := 238) (fn := Try.f238) (c := f238_c) (by kernel_rfl) (by kernel_rfl) (by kernel_rfl) (by decide) (by kernel_rfl) (by decide)).congr fun x xs => (f238_eq k x xs).symm
theorem f238_ent : Ent Try.prog 238 := fun args w => by kernel_rfl
/-! ### slices.choosePivotCmpFunc[terrier/api.Ban]: function 212 -/
noncomputable def f212_c : Code := Try.f212.body.getD .skip
noncomputable abbrev f212_p (n : Nat) : Code := sb f212_c n
abbrev f212_sig : List PT := [(false, Tq3), (false, (.int .i64)), (false, (.int .i64)), (false, (.fn 133))]
abbrev f212_rs : List RT := [.d false (.int .i64), .d false (.int .i64)]
abbrev f212_ts : List RV := [.tmp 8, .tmp 9]
abbrev f212_S := St → Option (RDL f212_rs)
abbrev f212_L := List (Fr (RDL f212_rs))
def f212_Y : Tys := []
noncomputable def f212_E (k : Nat) : Env := [(238, .b (f238_con k)), (239, .b (f239_con k))]
def f212_A : Ann := { conds := [(8, { slots := [(0, .val false Tq2), (3, .id), (11, .id), (12, .id), (13, .id), (14, .id)], keys := [(11, [])] }), (7, { slots := [(11, .id), (13, .id)], keys := [(11, [])] })] }
noncomputable abbrev f212_a (k : Nat) (F : f212_L) : Kont (RDL f212_rs) := ap T f212_Y (f212_E k) f212_A k (Kfin T f212_rs f212_ts) F
def f212_s_c8 (y11_0 : Int) (x0 : (List (Int × Int))) (x12 : Int) (x13 : Int) (x14 : Int) : St := mkS 63 192 [(0, aV Tq2 x0), (3, .cp (.one (.fn 133 []))), (11, aP 11), (12, aI x12), (13, aI x13), (14, aI x14)] [(11, .box [cI y11_0])]
abbrev f212_t_c8 := Int → (List (Int × Int)) → Int → Int → Int → Option (Int × Int × Unit)
abbrev f212_o_c8 (R : f212_S) : f212_t_c8 := (fun y11_0 x0 x12 x13 x14 => R (f212_s_c8 y11_0 x0 x12 x13 x14))
noncomputable def f212_Q_c8 (k : Nat) : f212_L := [.c (f212_p 2037) 0, .cond 7, .c (f212_p 255) 0]
noncomputable def f212_C_c8 (k : Nat) : f212_S := fun σ => f212_a k (f212_Q_c8 k) .nx σ
def f212_s_c7 (y11_0 : Int) (x13 : Int) : St := mkS 63 192 [(11, aP 11), (13, aI x13)] [(11, .box [cI y11_0])]
abbrev f212_t_c7 := Int → Int → Option (Int × Int × Unit)
abbrev f212_o_c7 (R : f212_S) : f212_t_c7 := (fun y11_0 x13 => R (f212_s_c7 y11_0 x13))
noncomputable def f212_Q_c7 (k : Nat) : f212_L := [.c (f212_p 255) 0]
noncomputable def f212_C_c7 (k : Nat) : f212_S := fun σ => f212_a k (f212_Q_c7 k) .nx σ
noncomputable def f212_F_c7 (k : Nat) : f212_L := .c (f212_p 255) 0 :: []
theorem f212_f_c7 (k : Nat) : f212_a k (f212_Q_c7 k) = f212_a k (f212_F_c7 k) := (ap_cons _ rfl)
noncomputable def f212_F_c8 (k : Nat) (G_c7 : f212_S) : f212_L := .c (f212_p 2037) 0 :: .j (fun σ => G_c7 (cut f212_A.conds 7 σ)) :: f212_F_c7 k
theorem f212_f_c8 (k : Nat) : f212_a k (f212_Q_c8 k) = f212_a k (f212_F_c8 k (f212_C_c7 k)) := (ap_cons _ (Eq.trans (ap_condj (C := (f212_C_c7 k)) (fun _ => rfl)) (ap_cons _ (f212_f_c7 k))))
def f212_entry_B (k : Nat) (g_c8 : f212_t_c8) (g_c7 : f212_t_c7) (a0 : Td4) (a1 : Int) (a2 : Int) (a3 : Unit) : Option (Int × Int × Unit) := (if 8 ≤ (w64 (a2 - a1)) then (if 50 ≤ (w64 (a2 - a1)) then ((f238 k 0 a0 (w64 (a1 + (w64 ((w64 ((w64 (a2 - a1)).tdiv 4)) * 1)))) ()).bind fun r1 => ((f238 k r1.1.1.1 a0 (w64 (a1 + (w64 ((w64 ((w64 (a2 - a1)).tdiv 4)) * 2)))) ()).bind fun r2 => ((f238 k r2.1.1.1 a0 (w64 (a1 + (w64 ((w64 ((w64 (a2 - a1)).tdiv 4)) * 3)))) ()).bind fun r3 => (g_c8 r3.1.1.1 a0 r1.2.1 r2.2.1 r3.2.1)))) else (g_c8 0 a0 (w64 (a1 + (w64 ((w64 ((w64 (a2 - a1)).tdiv 4)) * 1)))) (w64 (a1 + (w64 ((w64 ((w64 (a2 - a1)).tdiv 4)) * 2)))) (w64 (a1 + (w64 ((w64 ((w64 (a2 - a1)).tdiv 4)) * 3)))))) else (g_c7 0 (w64 (a1 + (w64 ((w64 ((w64 (a2 - a1)).tdiv 4)) * 2))))))
def f212_c8_B (k : Nat) (g_c7 : f212_t_c7) (y11_0 : Int) (x0 : (List (Int × Int))) (x12 : Int) (x13 : Int) (x14 : Int) : Option (Int × Int × Unit) := ((f239 k y11_0 x0 x12 x13 x14 ()).bind fun r1 => (g_c7 r1.1.1.1 r1.2.1))
def f212_c7_B (k : Nat) (y11_0 : Int) (x13 : Int) : Option (Int × Int × Unit) := (if y11_0 = 0 then some (x13, 1, ()) else (if y11_0 = 12 then some (x13, 2, ()) else some (x13, 0, ())))
theorem f212_c7_P (k : Nat) : f212_o_c7 (fun σ => f212_a k (f212_F_c7 k) .nx σ) = f212_c7_B k := by kernel_rfl
def f212_c7 (k : Nat) : f212_t_c7 := f212_c7_B k
theorem f212_c7_E (k : Nat) : f212_o_c7 (f212_C_c7 k) = f212_c7 k :=
  Eq.trans (congrArg f212_o_c7 (ap_fn (f212_f_c7 k))) ((f212_c7_P k).trans (by rfl))
theorem f212_c8_P (k : Nat) (G_c7 : f212_S) : f212_o_c8 (fun σ => f212_a k (f212_F_c8 k G_c7) .nx σ) = f212_c8_B k (f212_o_c7 G_c7) := by kernel_rfl
def f212_c8 (k : Nat) : f212_t_c8 := f212_c8_B k (f212_c7 k)
theorem f212_c8_E (k : Nat) : f212_o_c8 (f212_C_c8 k) = f212_c8 k :=
  Eq.trans (congrArg f212_o_c8 (ap_fn (f212_f_c8 k))) ((f212_c8_P k (f212_C_c7 k)).trans (by rw [f212_c7_E k] <;> rfl))
theorem f212_entry_P (k : Nat) (G_c8 G_c7 : f212_S) (xs : DL f212_sig) : f212_a k (.c (f212_p 2) 0 :: .c (f212_p 6) 0 :: .c (f212_p 14) 0 :: .c (f212_p 30) 0 :: .c (f212_p 62) 0 :: .c (f212_p 126) 0 :: .c (f212_p 508) 0 :: .i (.tmp 34) (fun σ => f212_a k (.c (f212_p 4072) 0 :: .c (f212_p 4073) 0 :: .j G_c8 :: f212_F_c8 k G_c7) .nx σ) (fun σ => f212_a k (.c (f212_p 1019) 0 :: .j (fun σ => G_c7 (cut f212_A.conds 7 σ)) :: f212_F_c7 k) .nx σ) :: f212_F_c7 k) .nx (σ0 63 192 f212_sig xs) = f212_entry_B k (f212_o_c8 G_c8) (f212_o_c7 G_c7) xs.1 xs.2.1 xs.2.2.1 xs.2.2.2.1 := by kernel_rfl
def f212 (k : Nat) (a0 : Td4) (a1 : Int) (a2 : Int) (a3 : Unit) : Option (Int × Int × Unit) := f212_entry_B k (f212_c8 k) (f212_c7 k) a0 a1 a2 a3
theorem f212_fe (k : Nat) : f212_a k [.c (f212_p 1) 0] = f212_a k (.c (f212_p 2) 0 :: .c (f212_p 6) 0 :: .c (f212_p 14) 0 :: .c (f212_p 30) 0 :: .c (f212_p 62) 0 :: .c (f212_p 126) 0 :: .c (f212_p 508) 0 :: .i (.tmp 34) (fun σ => f212_a k (.c (f212_p 4072) 0 :: .c (f212_p 4073) 0 :: .j (f212_C_c8 k) :: f212_F_c8 k (f212_C_c7 k)) .nx σ) (fun σ => f212_a k (.c (f212_p 1019) 0 :: .j (fun σ => (f212_C_c7 k) (cut f212_A.conds 7 σ)) :: f212_F_c7 k) .nx σ) :: f212_F_c7 k) := (Eq.trans ap_sq (ap_cons _ (Eq.trans ap_sq (ap_cons _ (Eq.trans ap_sq (ap_cons _ (Eq.trans ap_sq (ap_cons _ (Eq.trans ap_sq (ap_cons _ (Eq.trans ap_sq (ap_cons _ (Eq.trans ap_sq (Eq.trans ap_sq (ap_cons _ (Eq.trans (ap_cn (.tmp 34) 7) (Eq.trans (ap_i (Eq.trans ap_sq (Eq.trans ap_sq (ap_cons _ (ap_cons _ (Eq.trans (ap_pass (C := (f212_C_c8 k)) (fun _ => rfl)) (ap_cons _ (f212_f_c8 k))))))) (ap_cons _ (Eq.trans (ap_condj (C := (f212_C_c7 k)) (fun _ => rfl)) (ap_cons _ (f212_f_c7 k))))) (ap_cons _ (f212_f_c7 k)))))))))))))))))))
theorem f212_eq (k : Nat) (xs : DL f212_sig) : den T f212_Y (f212_E k) f212_A k f212_c 0 (σ0 63 192 f212_sig xs) (Kfin T f212_rs f212_ts) = f212 k xs.1 xs.2.1 xs.2.2.1 xs.2.2.2.1 :=
  Eq.trans (Eq.trans den_sb (ap_at (f212_fe k) _)) ((f212_entry_P k (f212_C_c8 k) (f212_C_c7 k) xs).trans (by rw [f212_c8_E k, f212_c7_E k] <;> rfl))
noncomputable def f212_con (k : Nat) : Con := ⟨f212_sig, f212_rs, fun xs => f212 k xs.1 xs.2.1 xs.2.2.1 xs.2.2.2.1⟩
theorem f212_ok (k : Nat) : PureOK Try.prog 212 f212_sig f212_rs (fun xs => f212 k xs.1 xs.2.1 xs.2.2.1 xs.2.2.2.1) :=
  (pure_of_den (k := k) (A := f212_A) (T := T) (Y := f212_Y) (E := f212_E k) (M := 192) (ts := f212_ts) T_ok ⟨f238_ok k, f239_ok k, trivial⟩ ⟨f238_ent, f239_ent, trivial⟩ mixed (f := 212) (fn := Try.f212) (c := f212_c) (by kernel_rfl) (by kernel_rfl) (by kernel_rfl) (by decide) (by kernel_rfl)).congr fun xs => (f212_eq k xs).symm
theorem f212_ent : Ent Try.prog 212 := fun args w => by kernel_rfl
/-! ### slices.pdqsortCmpFunc[terrier/api.Ban]: function 167 -/
noncomputable def f167_c : Code := Try.f167.body.getD .skip
noncomputable abbrev f167_p (n : Nat) : Code := sb f167_c n
abbrev f167_sig : List PT := [(false, (.int .i64)), (false, (.int .i64)), (false, (.int .i64)), (false, (.fn 133))]
abbrev f167_rs : List RT := []
abbrev f167_ts : List RV := []
abbrev f167_ls : List LO := [.row Tq2]
abbrev f167_S := St → Option (LOD f167_ls × RDL f167_rs)
abbrev f167_L := List (Fr (LOD f167_ls × RDL f167_rs))
def f167_Y : Tys := []
noncomputable def f167_E (k : Nat) : Env := [(133, .c (f133_con k)), (209, .b (f209_con k)), (212, .c (f212_con k))]
def f167_A : Ann := { loops := [(0, { slots := [(0, .id), (1, .id), (2, .id), (3, .id), (4, .id), (10, .id), (11, .id)], keys := [(0, [])] })], conds := [(8, { slots := [(0, .id), (1, .id), (2, .id), (3, .id), (4, .id), (10, .id), (11, .id), (12, .id)], keys := [(0, [])] }), (12, { slots := [(0, .id), (1, .id), (2, .id), (3, .id), (4, .id), (10, .id), (11, .id), (12, .id), (13, .id), (14, .id)], keys := [(0, [])] }), (16, { slots := [(0, .id), (1, .id), (2, .id), (3, .id), (4, .id), (10, .id), (11, .id), (12, .id), (13, .id)], keys := [(0, [])] })], regs := [(15, { slots := [(0, .id), (1, .id), (2, .id), (3, .id), (4, .id), (10, .id), (11, .id), (12, .id), (13, .id), (75, .bool)], keys := [(0, [])] }), (17, { slots := [(0, .id), (1, .id), (2, .id), (3, .id), (4, .id), (10, .id), (11, .id), (12, .id), (13, .id), (97, .bool)], keys := [(0, [])] })] }
noncomputable abbrev f167_a (k : Nat) (F : f167_L) : Kont (LOD f167_ls × RDL f167_rs) := ap T f167_Y (f167_E k) f167_A k (KfinB T true f167_ls f167_rs f167_ts) F
def f167_s_l0 (y0 : (List (Int × Int))) (x1 : Int) (x2 : Int) (x3 : Int) : St := mkS 148 449 [(0, aO 0), (1, aI x1), (2, aI x2), (3, aI x3), (4, .cp (.one (.fn 133 []))), (10, .cp (.one (.lit true))), (11, .cp (.one (.lit true)))] [(0, .vec Tq2 y0)]
abbrev f167_t_l0 := (List (Int × Int)) → Int → Int → Int → Option (((List (Int × Int)) × Unit) × (Unit))
abbrev f167_o_l0 (R : f167_S) : f167_t_l0 := (fun y0 x1 x2 x3 => R (f167_s_l0 y0 x1 x2 x3))
noncomputable def f167_Q_l0 (k : Nat) (R_l0 : f167_S) : f167_L := [.c (f167_p 28) 0, .j (fun σ => R_l0 (cut f167_A.loops 0 σ)), .blk 0]
noncomputable def f167_C_l0 (k : Nat) (n : Nat) (σ : St) : Option (LOD f167_ls × RDL f167_rs) := loopK (fun σ K => den T f167_Y (f167_E k) f167_A k (f167_p 28) 0 σ K) (cut f167_A.loops 0) (f167_a k [.blk 0]) n σ
def f167_s_c8 (y0 : (List (Int × Int))) (x1 : Int) (x12 : Int) (x2 : Int) (x3 : Int) : St := mkS 148 449 [(0, aO 0), (1, aI x1), (2, aI x2), (3, aI x3), (4, .cp (.one (.fn 133 []))), (10, .cp (.one (.lit true))), (11, .cp (.one (.lit true))), (12, aI x12)] [(0, .vec Tq2 y0)]
abbrev f167_t_c8 := (List (Int × Int)) → Int → Int → Int → Int → Option (((List (Int × Int)) × Unit) × (Unit))
abbrev f167_o_c8 (R : f167_S) : f167_t_c8 := (fun y0 x1 x12 x2 x3 => R (f167_s_c8 y0 x1 x12 x2 x3))
noncomputable def f167_Q_c8 (k : Nat) (R_l0 : f167_S) : f167_L := [.c (f167_p 911) 1, .blk 1, .j (fun σ => R_l0 (cut f167_A.loops 0 σ)), .blk 0]
noncomputable def f167_C_c8 (k : Nat) (R_l0 : f167_S) : f167_S := fun σ => f167_a k (f167_Q_c8 k R_l0) .nx σ
def f167_s_c12 (y0 : (List (Int × Int))) (x1 : Int) (x12 : Int) (x13 : Int) (x14 : Int) (x2 : Int) (x3 : Int) : St := mkS 148 449 [(0, aO 0), (1, aI x1), (2, aI x2), (3, aI x3), (4, .cp (.one (.fn 133 []))), (10, .cp (.one (.lit true))), (11, .cp (.one (.lit true))), (12, aI x12), (13, aI x13), (14, aI x14)] [(0, .vec Tq2 y0)]
abbrev f167_t_c12 := (List (Int × Int)) → Int → Int → Int → Int → Int → Int → Option (((List (Int × Int)) × Unit) × (Unit))
abbrev f167_o_c12 (R : f167_S) : f167_t_c12 := (fun y0 x1 x12 x13 x14 x2 x3 => R (f167_s_c12 y0 x1 x12 x13 x14 x2 x3))
noncomputable def f167_Q_c12 (k : Nat) (R_l0 : f167_S) : f167_L := [.c (f167_p 3647) 1, .blk 1, .j (fun σ => R_l0 (cut f167_A.loops 0 σ)), .blk 0]
noncomputable def f167_C_c12 (k : Nat) (R_l0 : f167_S) : f167_S := fun σ => f167_a k (f167_Q_c12 k R_l0) .nx σ
def f167_s_r15 (y0 : (List (Int × Int))) (x1 : Int) (x12 : Int) (x13 : Int) (x2 : Int) (x3 : Int) (x75 : Bool) : St := mkS 148 449 [(0, aO 0), (1, aI x1), (2, aI x2), (3, aI x3), (4, .cp (.one (.fn 133 []))), (10, .cp (.one (.lit true))), (11, .cp (.one (.lit true))), (12, aI x12), (13, aI x13), (75, aB x75)] [(0, .vec Tq2 y0)]
abbrev f167_t_r15 := (List (Int × Int)) → Int → Int → Int → Int → Int → Bool → Option (((List (Int × Int)) × Unit) × (Unit))
abbrev f167_o_r15 (R : f167_S) : f167_t_r15 := (fun y0 x1 x12 x13 x2 x3 x75 => R (f167_s_r15 y0 x1 x12 x13 x2 x3 x75))
noncomputable def f167_Q_r15 (k : Nat) (R_l0 : f167_S) : f167_L := [.c (f167_p 14589) 1, .c (f167_p 7295) 1, .blk 1, .j (fun σ => R_l0 (cut f167_A.loops 0 σ)), .blk 0]
noncomputable def f167_C_r15 (k : Nat) (R_l0 : f167_S) : f167_S := fun σ => f167_a k (f167_Q_r15 k R_l0) .nx σ
def f167_s_c16 (y0 : (List (Int × Int))) (x1 : Int) (x12 : Int) (x13 : Int) (x2 : Int) (x3 : Int) : St := mkS 148 449 [(0, aO 0), (1, aI x1), (2, aI x2), (3, aI x3), (4, .cp (.one (.fn 133 []))), (10, .cp (.one (.lit true))), (11, .cp (.one (.lit true))), (12, aI x12), (13, aI x13)] [(0, .vec Tq2 y0)]
abbrev f167_t_c16 := (List (Int × Int)) → Int → Int → Int → Int → Int → Option (((List (Int × Int)) × Unit) × (Unit))
abbrev f167_o_c16 (R : f167_S) : f167_t_c16 := (fun y0 x1 x12 x13 x2 x3 => R (f167_s_c16 y0 x1 x12 x13 x2 x3))
noncomputable def f167_Q_c16 (k : Nat) (R_l0 : f167_S) : f167_L := [.c (f167_p 7295) 1, .blk 1, .j (fun σ => R_l0 (cut f167_A.loops 0 σ)), .blk 0]
noncomputable def f167_C_c16 (k : Nat) (R_l0 : f167_S) : f167_S := fun σ => f167_a k (f167_Q_c16 k R_l0) .nx σ
def f167_s_r17 (y0 : (List (Int × Int))) (x1 : Int) (x12 : Int) (x13 : Int) (x2 : Int) (x3 : Int) (x97 : Bool) : St := mkS 148 449 [(0, aO 0), (1, aI x1), (2, aI x2), (3, aI x3), (4, .cp (.one (.fn 133 []))), (10, .cp (.one (.lit true))), (11, .cp (.one (.lit true))), (12, aI x12), (13, aI x13), (97, aB x97)] [(0, .vec Tq2 y0)]
abbrev f167_t_r17 := (List (Int × Int)) → Int → Int → Int → Int → Int → Bool → Option (((List (Int × Int)) × Unit) × (Unit))
abbrev f167_o_r17 (R : f167_S) : f167_t_r17 := (fun y0 x1 x12 x13 x2 x3 x97 => R (f167_s_r17 y0 x1 x12 x13 x2 x3 x97))
noncomputable def f167_Q_r17 (k : Nat) (R_l0 : f167_S) : f167_L := [.c (f167_p 29181) 1, .c (f167_p 14591) 1, .blk 1, .j (fun σ => R_l0 (cut f167_A.loops 0 σ)), .blk 0]
noncomputable def f167_C_r17 (k : Nat) (R_l0 : f167_S) : f167_S := fun σ => f167_a k (f167_Q_r17 k R_l0) .nx σ
noncomputable def f167_F_r17 (k : Nat) (G_l0 : f167_S) : f167_L := .c (f167_p 29181) 1 :: .c (f167_p 29182) 1 :: .c (f167_p 58366) 1 :: .c (f167_p 116734) 1 :: .c (f167_p 233470) 1 :: .c (f167_p 466942) 1 :: .c (f167_p 466943) 1 :: .blk 1 :: .j (fun σ => G_l0 (cut f167_A.loops 0 σ)) :: .blk 0 :: []
theorem f167_f_r17 (k : Nat) (R_l0 : f167_S) : f167_a k (f167_Q_r17 k R_l0) = f167_a k (f167_F_r17 k R_l0) := (ap_cons _ (Eq.trans ap_sq (ap_cons _ (Eq.trans ap_sq (ap_cons _ (Eq.trans ap_sq (ap_cons _ (Eq.trans ap_sq (ap_cons _ (Eq.trans ap_sq (ap_cons _ (ap_cons _ (ap_cons _ (ap_cons _ (ap_cons _ rfl)))))))))))))))
noncomputable def f167_F_c16 (k : Nat) (G_l0 G_r17 : f167_S) : f167_L := .c (f167_p 29180) 1 :: .j G_r17 :: f167_F_r17 k G_l0
theorem f167_f_c16 (k : Nat) (R_l0 : f167_S) : f167_a k (f167_Q_c16 k R_l0) = f167_a k (f167_F_c16 k R_l0 (f167_C_r17 k R_l0)) := (Eq.trans ap_sq (Eq.trans ap_sq (ap_cons _ (Eq.trans (ap_pass (C := (f167_C_r17 k R_l0)) (fun _ => rfl)) (ap_cons _ (f167_f_r17 k R_l0))))))
noncomputable def f167_F_r15 (k : Nat) (G_l0 G_c16 G_r17 : f167_S) : f167_L := .c (f167_p 14589) 1 :: .j G_c16 :: f167_F_c16 k G_l0 G_r17
theorem f167_f_r15 (k : Nat) (R_l0 : f167_S) : f167_a k (f167_Q_r15 k R_l0) = f167_a k (f167_F_r15 k R_l0 (f167_C_c16 k R_l0) (f167_C_r17 k R_l0)) := (ap_cons _ (Eq.trans (ap_pass (C := (f167_C_c16 k R_l0)) (fun _ => rfl)) (ap_cons _ (f167_f_c16 k R_l0))))
noncomputable def f167_F_c12 (k : Nat) (G_l0 G_r15 G_c16 G_r17 : f167_S) : f167_L := .c (f167_p 14588) 1 :: .j G_r15 :: f167_F_r15 k G_l0 G_c16 G_r17
theorem f167_f_c12 (k : Nat) (R_l0 : f167_S) : f167_a k (f167_Q_c12 k R_l0) = f167_a k (f167_F_c12 k R_l0 (f167_C_r15 k R_l0) (f167_C_c16 k R_l0) (f167_C_r17 k R_l0)) := (Eq.trans ap_sq (Eq.trans ap_sq (ap_cons _ (Eq.trans (ap_pass (C := (f167_C_r15 k R_l0)) (fun _ => rfl)) (ap_cons _ (f167_f_r15 k R_l0))))))
noncomputable def f167_F_c8 (k : Nat) (G_l0 G_c12 G_r15 G_c16 G_r17 : f167_S) : f167_L := .c (f167_p 1822) 1 :: .c (f167_p 7292) 1 :: .c (f167_p 7293) 1 :: .j G_c12 :: f167_F_c12 k G_l0 G_r15 G_c16 G_r17
theorem f167_f_c8 (k : Nat) (R_l0 : f167_S) : f167_a k (f167_Q_c8 k R_l0) = f167_a k (f167_F_c8 k R_l0 (f167_C_c12 k R_l0) (f167_C_r15 k R_l0) (f167_C_c16 k R_l0) (f167_C_r17 k R_l0)) := (Eq.trans ap_sq (ap_cons _ (Eq.trans ap_sq (Eq.trans ap_sq (ap_cons _ (ap_cons _ (Eq.trans (ap_pass (C := (f167_C_c12 k R_l0)) (fun _ => rfl)) (ap_cons _ (f167_f_c12 k R_l0)))))))))
noncomputable def f167_F_l0 (k : Nat) (G_l0 G_c8 G_c12 G_r15 G_c16 G_r17 : f167_S) : f167_L := .j (fun σ => f167_a k (.c (f167_p 112) 1 :: .c (f167_p 226) 1 :: .c (f167_p 454) 1 :: .c (f167_p 1820) 1 :: .c (f167_p 1821) 1 :: .j G_c8 :: f167_F_c8 k G_l0 G_c12 G_r15 G_c16 G_r17) .nx σ) :: .j (fun σ => G_l0 (cut f167_A.loops 0 σ)) :: .blk 0 :: []
theorem f167_f_l0 (k : Nat) (R_l0 : f167_S) : f167_a k (f167_Q_l0 k R_l0) = f167_a k (f167_F_l0 k R_l0 (f167_C_c8 k R_l0) (f167_C_c12 k R_l0) (f167_C_r15 k R_l0) (f167_C_c16 k R_l0) (f167_C_r17 k R_l0)) := (Eq.trans (ap_bl 1) (Eq.trans (ap_j (Eq.trans ap_sq (ap_cons _ (Eq.trans ap_sq (ap_cons _ (Eq.trans ap_sq (ap_cons _ (Eq.trans ap_sq (Eq.trans ap_sq (ap_cons _ (ap_cons _ (Eq.trans (ap_pass (C := (f167_C_c8 k R_l0)) (fun _ => rfl)) (ap_cons _ (f167_f_c8 k R_l0)))))))))))))) (ap_cons _ (ap_cons _ (ap_cons _ rfl)))))
def f167_entry_B (k : Nat) (g_l0 : f167_t_l0) (a : Td4) (a0 : Int) (a1 : Int) (a2 : Int) (a3 : Unit) : Option (((List (Int × Int)) × Unit) × (Unit)) := (g_l0 a a0 a1 a2)
def f167_l0_B (k : Nat) (g_c8 : f167_t_c8) (y0 : (List (Int × Int))) (x1 : Int) (x2 : Int) (x3 : Int) : Option (((List (Int × Int)) × Unit) × (Unit)) := (if (w64 (x2 - x1)) ≤ 12 then ((f209 k y0 x1 x2 ()).bind fun r1 => some ((r1.1.1, ()), (()))) else (if x3 = 0 then none else (g_c8 y0 x1 (w64 (x2 - x1)) x2 x3)))
def f167_c8_B (k : Nat) (g_c12 : f167_t_c12) (y0 : (List (Int × Int))) (x1 : Int) (x12 : Int) (x2 : Int) (x3 : Int) : Option (((List (Int × Int)) × Unit) × (Unit)) := ((f212 k y0 x1 x2 ()).bind fun r1 => (if r1.2.1 = 2 then none else (g_c12 y0 x1 x12 r1.1 r1.2.1 x2 x3)))
def f167_c12_B (k : Nat) (g_r15 : f167_t_r15) (y0 : (List (Int × Int))) (x1 : Int) (x12 : Int) (x13 : Int) (x14 : Int) (x2 : Int) (x3 : Int) : Option (((List (Int × Int)) × Unit) × (Unit)) := (g_r15 y0 x1 x12 x13 x2 x3 (decide (x14 = 1)))
def f167_r15_B (k : Nat) (g_c16 : f167_t_c16) (y0 : (List (Int × Int))) (x1 : Int) (x12 : Int) (x13 : Int) (x2 : Int) (x3 : Int) (x75 : Bool) : Option (((List (Int × Int)) × Unit) × (Unit)) := (if x75 = true then none else (g_c16 y0 x1 x12 x13 x2 x3))
def f167_c16_B (k : Nat) (g_r17 : f167_t_r17) (y0 : (List (Int × Int))) (x1 : Int) (x12 : Int) (x13 : Int) (x2 : Int) (x3 : Int) : Option (((List (Int × Int)) × Unit) × (Unit)) := (if 0 < x1 then (if 0 ≤ (w64 (x1 - 1)) then (if (w64 (x1 - 1)) < (y0.length : Int) then (if 0 ≤ x13 then (if x13 < (y0.length : Int) then ((f133 k ((y0.getD ((w64 (x1 - 1)).toNat) (0, 0)).1, (y0.getD ((w64 (x1 - 1)).toNat) (0, 0)).2) ((y0.getD ((x13).toNat) (0, 0)).1, (y0.getD ((x13).toNat) (0, 0)).2)).bind fun r1 => (g_r17 y0 x1 x12 x13 x2 x3 (decide (¬ (r1.1 < 0))))) else none) else none) else none) else none) else (g_r17 y0 x1 x12 x13 x2 x3 false))
def f167_r17_B (k : Nat) (y0 : (List (Int × Int))) (x1 : Int) (x12 : Int) (x13 : Int) (x2 : Int) (x3 : Int) (x97 : Bool) : Option (((List (Int × Int)) × Unit) × (Unit)) := (if x97 = true then none else none)
theorem f167_r17_P (k : Nat) (G_l0 : f167_S) : f167_o_r17 (fun σ => f167_a k (f167_F_r17 k G_l0) .nx σ) = f167_r17_B k := by kernel_rfl
def f167_r17 (k : Nat) (r_l0 : f167_t_l0) : f167_t_r17 := f167_r17_B k
theorem f167_r17_E (k : Nat) (R_l0 : f167_S) : f167_o_r17 (f167_C_r17 k R_l0) = f167_r17 k (f167_o_l0 R_l0) :=
  Eq.trans (congrArg f167_o_r17 (ap_fn (f167_f_r17 k R_l0))) ((f167_r17_P k R_l0).trans (by rfl))
theorem f167_c16_P (k : Nat) (G_l0 G_r17 : f167_S) : f167_o_c16 (fun σ => f167_a k (f167_F_c16 k G_l0 G_r17) .nx σ) = f167_c16_B k (f167_o_r17 G_r17) := by kernel_rfl
def f167_c16 (k : Nat) (r_l0 : f167_t_l0) : f167_t_c16 := f167_c16_B k (f167_r17 k r_l0)
theorem f167_c16_E (k : Nat) (R_l0 : f167_S) : f167_o_c16 (f167_C_c16 k R_l0) = f167_c16 k (f167_o_l0 R_l0) :=
  Eq.trans (congrArg f167_o_c16 (ap_fn (f167_f_c16 k R_l0))) ((f167_c16_P k R_l0 (f167_C_r17 k R_l0)).trans (by rw [f167_r17_E k R_l0] <;> rfl))
theorem f167_r15_P (k : Nat) (G_l0 G_c16 G_r17 : f167_S) : f167_o_r15 (fun σ => f167_a k (f167_F_r15 k G_l0 G_c16 G_r17) .nx σ) = f167_r15_B k (f167_o_c16 G_c16) := by kernel_rfl
def f167_r15 (k : Nat) (r_l0 : f167_t_l0) : f167_t_r15 := f167_r15_B k (f167_c16 k r_l0)
theorem f167_r15_E (k : Nat) (R_l0 : f167_S) : f167_o_r15 (f167_C_r15 k R_l0) = f167_r15 k (f167_o_l0 R_l0) :=
  Eq.trans (congrArg f167_o_r15 (ap_fn (f167_f_r15 k R_l0))) ((f167_r15_P k R_l0 (f167_C_c16 k R_l0) (f167_C_r17 k R_l0)).trans (by rw [f167_c16_E k R_l0] <;> rfl))
theorem f167_c12_P (k : Nat) (G_l0 G_r15 G_c16 G_r17 : f167_S) : f167_o_c12 (fun σ => f167_a k (f167_F_c12 k G_l0 G_r15 G_c16 G_r17) .nx σ) = f167_c12_B k (f167_o_r15 G_r15) := by kernel_rfl
def f167_c12 (k : Nat) (r_l0 : f167_t_l0) : f167_t_c12 := f167_c12_B k (f167_r15 k r_l0)
theorem f167_c12_E (k : Nat) (R_l0 : f167_S) : f167_o_c12 (f167_C_c12 k R_l0) = f167_c12 k (f167_o_l0 R_l0) :=
  Eq.trans (congrArg f167_o_c12 (ap_fn (f167_f_c12 k R_l0))) ((f167_c12_P k R_l0 (f167_C_r15 k R_l0) (f167_C_c16 k R_l0) (f167_C_r17 k R_l0)).trans (by rw [f167_r15_E k R_l0] <;> rfl))
theorem f167_c8_P (k : Nat) (G_l0 G_c12 G_r15 G_c16 G_r17 : f167_S) : f167_o_c8 (fun σ => f167_a k (f167_F_c8 k G_l0 G_c12 G_r15 G_c16 G_r17) .nx σ) = f167_c8_B k (f167_o_c12 G_c12) := by kernel_rfl
def f167_c8 (k : Nat) (r_l0 : f167_t_l0) : f167_t_c8 := f167_c8_B k (f167_c12 k r_l0)
theorem f167_c8_E (k : Nat) (R_l0 : f167_S) : f167_o_c8 (f167_C_c8 k R_l0) = f167_c8 k (f167_o_l0 R_l0) :=
  Eq.trans (congrArg f167_o_c8 (ap_fn (f167_f_c8 k R_l0))) ((f167_c8_P k R_l0 (f167_C_c12 k R_l0) (f167_C_r15 k R_l0) (f167_C_c16 k R_l0) (f167_C_r17 k R_l0)).trans (by rw [f167_c12_E k R_l0] <;> rfl))
theorem f167_l0_P (k : Nat) (G_l0 G_c8 G_c12 G_r15 G_c16 G_r17 : f167_S) : f167_o_l0 (fun σ => f167_a k (f167_F_l0 k G_l0 G_c8 G_c12 G_r15 G_c16 G_r17) .nx σ) = f167_l0_B k (f167_o_c8 G_c8) := by kernel_rfl
def f167_l0 (k : Nat) : Nat → f167_t_l0
  | 0 => fun _ _ _ _ => none
  | n + 1 => f167_l0_B k (f167_c8 k (f167_l0 k n))
theorem f167_l0_E (k : Nat) : ∀ n, f167_o_l0 (f167_C_l0 k n) = f167_l0 k n
  | 0 => rfl
  | n + 1 =>
    Eq.trans (congrArg f167_o_l0 (Eq.trans (b := fun σ => f167_a k (f167_Q_l0 k (f167_C_l0 k n)) .nx σ) (by kernel_rfl) (ap_fn (f167_f_l0 k (f167_C_l0 k n))))) ((f167_l0_P k (f167_C_l0 k n) (f167_C_c8 k (f167_C_l0 k n)) (f167_C_c12 k (f167_C_l0 k n)) (f167_C_r15 k (f167_C_l0 k n)) (f167_C_c16 k (f167_C_l0 k n)) (f167_C_r17 k (f167_C_l0 k n))).trans (by rw [f167_c8_E k (f167_C_l0 k n), f167_l0_E k n] <;> rfl))
theorem f167_entry_P (k : Nat) (G_l0 : f167_S) (x : LOD f167_ls) (xs : DL f167_sig) : f167_a k (.c (f167_p 2) 0 :: .c (f167_p 6) 0 :: .j (fun σ => f167_a k (.j (fun σ => G_l0 (cut f167_A.loops 0 σ)) :: .blk 0 :: []) .nx σ) :: []) .nx (σ0B 148 449 0 f167_ls x f167_sig xs) = f167_entry_B k (f167_o_l0 G_l0) x.1 xs.1 xs.2.1 xs.2.2.1 xs.2.2.2.1 := by kernel_rfl
def f167 (k : Nat) (a : Td4) (a0 : Int) (a1 : Int) (a2 : Int) (a3 : Unit) : Option (((List (Int × Int)) × Unit) × (Unit)) := f167_entry_B k (f167_l0 k k) a a0 a1 a2 a3
theorem f167_fe (k : Nat) : f167_a k [.c (f167_p 1) 0] = f167_a k (.c (f167_p 2) 0 :: .c (f167_p 6) 0 :: .j (fun σ => f167_a k (.j (fun σ => (f167_C_l0 k k) (cut f167_A.loops 0 σ)) :: .blk 0 :: []) .nx σ) :: []) := (Eq.trans ap_sq (ap_cons _ (Eq.trans ap_sq (ap_cons _ (Eq.trans (ap_bl 0) (Eq.trans (ap_j (Eq.trans (ap_lp (C := (f167_C_l0 k)) (fun _ _ => rfl)) (ap_cons _ (ap_cons _ rfl)))) (ap_cons _ rfl)))))))
theorem f167_eq (k : Nat) (x : LOD f167_ls) (xs : DL f167_sig) : den T f167_Y (f167_E k) f167_A k f167_c 0 (σ0B 148 449 0 f167_ls x f167_sig xs) (KfinB T true f167_ls f167_rs f167_ts) = f167 k x.1 xs.1 xs.2.1 xs.2.2.1 xs.2.2.2.1 :=
  Eq.trans (Eq.trans den_sb (ap_at (f167_fe k) _)) ((f167_entry_P k (f167_C_l0 k k) x xs).trans (by rw [f167_l0_E k k] <;> rfl))
noncomputable def f167_con (k : Nat) : BCon := ⟨0, true, f167_ls, f167_sig, f167_rs, fun x xs => f167 k x.1 xs.1 xs.2.1 xs.2.2.1 xs.2.2.2.1⟩
theorem f167_ok (k : Nat) : BoxOK Try.prog 167 0 true f167_ls f167_sig f167_rs (fun x xs => f167 k x.1 xs.1 xs.2.1 xs.2.2.1 xs.2.2.2.1) :=
  (box_of_den (k := k) (A := f167_A) (T := T) (Y := f167_Y) (E := f167_E k) (M := 449) (ts := f167_ts) T_ok ⟨f133_ok k, f209_ok k, f212_ok k, trivial⟩ ⟨f133_ent, f209_ent, f212_ent, trivial⟩ mixed (f := 167) (fn := Try.f167) (c := f167_c) (by kernel_rfl) (by kernel_rfl) (by kernel_rfl) (by decide) (by kernel_rfl) (by decide)).congr fun x xs => (f167_eq k x xs).symm
theorem f167_ent : Ent Try.prog 167 := fun args w => by kernel_rfl
/-! ### slices.SortFunc[[]terrier/api.Ban,terrier/api.Ban]: function 132 -/
noncomputable def f132_c : Code := Try.f132.body.getD .skip
noncomputable abbrev f132_p (n : Nat) : Code := sb f132_c n
abbrev f132_sig : List PT := [(false, (.fn 133))]
abbrev f132_rs : List RT := []
abbrev f132_ts : List RV := []
abbrev f132_ls : List LO := [.row Tq2]
abbrev f132_S := St → Option (LOD f132_ls × RDL f132_rs)
abbrev f132_L := List (Fr (LOD f132_ls × RDL f132_rs))
def f132_Y : Tys := []
noncomputable def f132_E (k : Nat) : Env := [(145, .c (f145_con k)), (167, .b (f167_con k))]
def f132_A : Ann := {}
noncomputable abbrev f132_a (k : Nat) (F : f132_L) : Kont (LOD f132_ls × RDL f132_rs) := ap T f132_Y (f132_E k) f132_A k (KfinB T true f132_ls f132_rs f132_ts) F
def f132_entry_B (k : Nat) (a : Td4) (a0 : Unit) : Option (((List (Int × Int)) × Unit) × (Unit)) := ((f145 k (IntKind.u64.wrap ((a.length : Int)))).bind fun r1 => ((f167 k a 0 (a.length : Int) r1.1 ()).bind fun r2 => some ((r2.1.1, ()), (()))))
theorem f132_entry_P (k : Nat) (x : LOD f132_ls) (xs : DL f132_sig) : f132_a k (.c (f132_p 1) 0 :: []) .nx (σ0B 14 49 0 f132_ls x f132_sig xs) = f132_entry_B k x.1 xs.1 := by kernel_rfl
def f132 (k : Nat) (a : Td4) (a0 : Unit) : Option (((List (Int × Int)) × Unit) × (Unit)) := f132_entry_B k a a0
theorem f132_eq (k : Nat) (x : LOD f132_ls) (xs : DL f132_sig) : den T f132_Y (f132_E k) f132_A k f132_c 0 (σ0B 14 49 0 f132_ls x f132_sig xs) (KfinB T true f132_ls f132_rs f132_ts) = f132 k x.1 xs.1 :=
  Eq.trans (Eq.trans den_sb (ap_at (ap_cons _ rfl) _)) ((f132_entry_P k x xs).trans (by rfl))
noncomputable def f132_con (k : Nat) : BCon := ⟨0, true, f132_ls, f132_sig, f132_rs, fun x xs => f132 k x.1 xs.1⟩
theorem f132_ok (k : Nat) : BoxOK Try.prog 132 0 true f132_ls f132_sig f132_rs (fun x xs => f132 k x.1 xs.1) :=
  (box_of_den (k := k) (A := f132_A) (T := T) (Y := f132_Y) (E := f132_E k) (M := 49) (ts := f132_ts) T_ok ⟨f145_ok k, f167_ok k, trivial⟩ ⟨f145_ent, f167_ent, trivial⟩ mixed (f := 132) (fn := Try.f132) (c := f132_c) (by kernel_rfl) (by kernel_rfl) (by kernel_rfl) (by decide) (by kernel_rfl) (by decide)).congr fun x xs => (f132_eq k x xs).symm
theorem f132_ent : Ent Try.prog 132 := fun args w => by kernel_rfl
/-! ### terrier/terrmake.Net: function 67 -/
noncomputable def f67_c : Code := Try.f67.body.getD .skip
noncomputable abbrev f67_p (n : Nat) : Code := sb f67_c n
abbrev f67_sig : List PT := [(false, Tq1)]
abbrev f67_rs : List RT := [.d true Tq9]
abbrev f67_ts : List RV := [.cell 2 27]
abbrev f67_S := St → Option (RDL f67_rs)
abbrev f67_L := List (Fr (RDL f67_rs))
def f67_Y : Tys := [(34, Tq6), (108, Tq2), (141, Tq2)]
noncomputable def f67_E (k : Nat) : Env := [(51, .b (f51_con k)), (105, .c (f105_con k)), (126, .c (f126_con k)), (131, .b (f131_con k)), (132, .b (f132_con k))]
def f67_A : Ann := { loops := [(0, { matb := [(4, 0, 39, Tq2)], slots := [(2, .id), (3, .id), (4, .id)], keys := [(2, []), (4, []), (11, [.val false (.int .i64)]), (39, [])] }), (2, { matb := [(4, 0, 39, Tq2)], slots := [(2, .id), (3, .id), (4, .id), (5, .id)], keys := [(2, []), (4, []), (5, []), (11, [.val false (.int .i64)]), (39, [])] }), (4, { matb := [(4, 0, 39, Tq2), (4, 1, 69, Tq6)], slots := [(2, .id), (3, .id), (4, .id), (42, .id), (43, .id)], keys := [(2, []), (4, []), (11, [.val false (.int .i64)]), (39, []), (69, [])] }), (6, { matb := [(4, 0, 39, Tq2), (4, 1, 69, Tq6), (4, 2, 117, Tq2)], slots := [(2, .id), (3, .id), (4, .id), (73, .id), (74, .id)], keys := [(2, []), (4, []), (11, [.val false (.int .i64)]), (39, []), (69, []), (117, [])] })], regs := [(3, { matb := [(4, 0, 39, Tq2)], slots := [(2, .id), (3, .id), (4, .id), (24, .bool)], keys := [(2, []), (4, []), (11, [.val false (.int .i64)]), (39, [])] }), (18, { matb := [(4, 2, 117, Tq2)], slots := [(2, .id), (3, .id), (4, .id), (8, .id), (73, .id), (74, .id), (112, .bool)], keys := [(2, []), (4, []), (8, []), (11, [.val false (.int .i64)]), (39, []), (69, []), (117, [])] })], conds := [(12, { matb := [(4, 0, 39, Tq2), (4, 1, 69, Tq6)], slots := [(2, .id), (3, .id), (4, .id), (42, .id), (43, .id)], keys := [(2, []), (4, []), (11, [.val false (.int .i64)]), (39, []), (69, [])] }), (19, { matb := [(4, 2, 117, Tq2)], slots := [(2, .id), (3, .id), (4, .id), (73, .id), (74, .id)], keys := [(2, []), (4, []), (11, [.val false (.int .i64)]), (39, []), (69, []), (117, [])] })], blks := [(6, { matb := [(4, 1, 69, Tq6), (4, 2, 117, Tq2)], slots := [(2, .id), (4, .id)], keys := [(2, []), (4, []), (39, []), (69, []), (117, [])] })] }
noncomputable abbrev f67_a (k : Nat) (F : f67_L) : Kont (RDL f67_rs) := ap T f67_Y (f67_E k) f67_A k (Kfin T f67_rs f67_ts) F
def f67_s_l0 (y11_0 : (List Int)) (y39 : (List (Int × Int))) : St := mkS 124 384 [(2, aP 2), (3, aP 11), (4, aP 4)] [(2, .box [.nil, .nil, .nil]), (4, .box [.own 39, .nil, .nil]), (11, .box [cV (.int .i64) y11_0]), (39, .vec Tq2 y39)]
abbrev f67_t_l0 := (List Int) → (List (Int × Int)) → Option (Td12 × Unit)
abbrev f67_o_l0 (R : f67_S) : f67_t_l0 := (fun y11_0 y39 => R (f67_s_l0 y11_0 y39))
noncomputable def f67_Q_l0 (k : Nat) (R_l0 : f67_S) : f67_L := [.c (f67_p 120) 0, .j (fun σ => R_l0 (cut f67_A.loops 0 σ)), .blk 0, .c (f67_p 31) 0]
noncomputable def f67_C_l0 (k : Nat) (n : Nat) (σ : St) : Option (RDL f67_rs) := loopK (fun σ K => den T f67_Y (f67_E k) f67_A k (f67_p 120) 0 σ K) (cut f67_A.loops 0) (f67_a k [.blk 0, .c (f67_p 31) 0]) n σ
def f67_s_r3 (y11_0 : (List Int)) (y39 : (List (Int × Int))) (x24 : Bool) : St := mkS 124 384 [(2, aP 2), (3, aP 11), (4, aP 4), (24, aB x24)] [(2, .box [.nil, .nil, .nil]), (4, .box [.own 39, .nil, .nil]), (11, .box [cV (.int .i64) y11_0]), (39, .vec Tq2 y39)]
abbrev f67_t_r3 := (List Int) → (List (Int × Int)) → Bool → Option (Td12 × Unit)
abbrev f67_o_r3 (R : f67_S) : f67_t_r3 := (fun y11_0 y39 x24 => R (f67_s_r3 y11_0 y39 x24))
noncomputable def f67_Q_r3 (k : Nat) (R_l0 : f67_S) : f67_L := [.c (f67_p 481) 0, .c (f67_p 241) 0, .j (fun σ => R_l0 (cut f67_A.loops 0 σ)), .blk 0, .c (f67_p 31) 0]
noncomputable def f67_C_r3 (k : Nat) (R_l0 : f67_S) : f67_S := fun σ => f67_a k (f67_Q_r3 k R_l0) .nx σ
def f67_s_l2 (y11_0 : (List Int)) (y39 : (List (Int × Int))) (y5_0 : Int) (y5_1 : Int) : St := mkS 124 384 [(2, aP 2), (3, aP 11), (4, aP 4), (5, aP 5)] [(2, .box [.nil, .nil, .nil]), (4, .box [.own 39, .nil, .nil]), (5, .box [cI y5_0, cI y5_1]), (11, .box [cV (.int .i64) y11_0]), (39, .vec Tq2 y39)]
abbrev f67_t_l2 := (List Int) → (List (Int × Int)) → Int → Int → Option (Td12 × Unit)
abbrev f67_o_l2 (R : f67_S) : f67_t_l2 := (fun y11_0 y39 y5_0 y5_1 => R (f67_s_l2 y11_0 y39 y5_0 y5_1))
noncomputable def f67_Q_l2 (k : Nat) (R_l0 R_l2 : f67_S) : f67_L := [.c (f67_p 7720) 2, .j (fun σ => R_l2 (cut f67_A.loops 2 σ)), .blk 2, .c (f67_p 1931) 1, .blk 1, .j (fun σ => R_l0 (cut f67_A.loops 0 σ)), .blk 0, .c (f67_p 31) 0]
noncomputable def f67_C_l2 (k : Nat) (R_l0 : f67_S) (n : Nat) (σ : St) : Option (RDL f67_rs) := loopK (fun σ K => den T f67_Y (f67_E k) f67_A k (f67_p 7720) 2 σ K) (cut f67_A.loops 2) (f67_a k [.blk 2, .c (f67_p 1931) 1, .blk 1, .j (fun σ => R_l0 (cut f67_A.loops 0 σ)), .blk 0, .c (f67_p 31) 0]) n σ
def f67_s_l4 (y11_0 : (List Int)) (y39 : (List (Int × Int))) (y69 : (List (Int × (Int × (Int × Int))))) (x42 : Int) (x43 : Int) : St := mkS 124 384 [(2, aP 2), (3, aP 11), (4, aP 4), (42, aI x42), (43, aI x43)] [(2, .box [.nil, .nil, .nil]), (4, .box [.own 39, .own 69, .nil]), (11, .box [cV (.int .i64) y11_0]), (39, .vec Tq2 y39), (69, .vec Tq6 y69)]
abbrev f67_t_l4 := (List Int) → (List (Int × Int)) → (List (Int × (Int × (Int × Int)))) → Int → Int → Option (Td12 × Unit)
abbrev f67_o_l4 (R : f67_S) : f67_t_l4 := (fun y11_0 y39 y69 x42 x43 => R (f67_s_l4 y11_0 y39 y69 x42 x43))
noncomputable def f67_Q_l4 (k : Nat) (R_l4 : f67_S) : f67_L := [.c (f67_p 500) 4, .j (fun σ => R_l4 (cut f67_A.loops 4 σ)), .blk 4, .c (f67_p 63) 0]
noncomputable def f67_C_l4 (k : Nat) (n : Nat) (σ : St) : Option (RDL f67_rs) := loopK (fun σ K => den T f67_Y (f67_E k) f67_A k (f67_p 500) 4 σ K) (cut f67_A.loops 4) (f67_a k [.blk 4, .c (f67_p 63) 0]) n σ
def f67_s_c12 (y11_0 : (List Int)) (y39 : (List (Int × Int))) (y69 : (List (Int × (Int × (Int × Int))))) (x42 : Int) (x43 : Int) : St := mkS 124 384 [(2, aP 2), (3, aP 11), (4, aP 4), (42, aI x42), (43, aI x43)] [(2, .box [.nil, .nil, .nil]), (4, .box [.own 39, .own 69, .nil]), (11, .box [cV (.int .i64) y11_0]), (39, .vec Tq2 y39), (69, .vec Tq6 y69)]
abbrev f67_t_c12 := (List Int) → (List (Int × Int)) → (List (Int × (Int × (Int × Int)))) → Int → Int → Option (Td12 × Unit)
abbrev f67_o_c12 (R : f67_S) : f67_t_c12 := (fun y11_0 y39 y69 x42 x43 => R (f67_s_c12 y11_0 y39 y69 x42 x43))
noncomputable def f67_Q_c12 (k : Nat) (R_l4 : f67_S) : f67_L := [.blk 5, .c (f67_p 4007) 4, .j (fun σ => R_l4 (cut f67_A.loops 4 σ)), .blk 4, .c (f67_p 63) 0]
noncomputable def f67_C_c12 (k : Nat) (R_l4 : f67_S) : f67_S := fun σ => f67_a k (f67_Q_c12 k R_l4) .nx σ
def f67_s_l6 (y11_0 : (List Int)) (y117 : (List (Int × Int))) (y39 : (List (Int × Int))) (y69 : (List (Int × (Int × (Int × Int))))) (x73 : Int) (x74 : Int) : St := mkS 124 384 [(2, aP 2), (3, aP 11), (4, aP 4), (73, aI x73), (74, aI x74)] [(2, .box [.nil, .nil, .nil]), (4, .box [.own 39, .own 69, .own 117]), (11, .box [cV (.int .i64) y11_0]), (39, .vec Tq2 y39), (69, .vec Tq6 y69), (117, .vec Tq2 y117)]
abbrev f67_t_l6 := (List Int) → (List (Int × Int)) → (List (Int × Int)) → (List (Int × (Int × (Int × Int)))) → Int → Int → Option (Td12 × Unit)
abbrev f67_o_l6 (R : f67_S) : f67_t_l6 := (fun y11_0 y117 y39 y69 x73 x74 => R (f67_s_l6 y11_0 y117 y39 y69 x73 x74))
noncomputable def f67_Q_l6 (k : Nat) (R_l6 : f67_S) : f67_L := [.c (f67_p 1012) 6, .j (fun σ => R_l6 (cut f67_A.loops 6 σ)), .blk 6, .c (f67_p 127) 0]
noncomputable def f67_C_l6 (k : Nat) (n : Nat) (σ : St) : Option (RDL f67_rs) := loopK (fun σ K => den T f67_Y (f67_E k) f67_A k (f67_p 1012) 6 σ K) (cut f67_A.loops 6) (f67_a k [.blk 6, .c (f67_p 127) 0]) n σ
def f67_s_b6 (y117 : (List (Int × Int))) (y39 : (List (Int × Int))) (y69 : (List (Int × (Int × (Int × Int))))) : St := mkS 124 384 [(2, aP 2), (4, aP 4)] [(2, .box [.nil, .nil, .nil]), (4, .box [.own 39, .own 69, .own 117]), (39, .vec Tq2 y39), (69, .vec Tq6 y69), (117, .vec Tq2 y117)]
abbrev f67_t_b6 := (List (Int × Int)) → (List (Int × Int)) → (List (Int × (Int × (Int × Int)))) → Option (Td12 × Unit)
abbrev f67_o_b6 (R : f67_S) : f67_t_b6 := (fun y117 y39 y69 => R (f67_s_b6 y117 y39 y69))
noncomputable def f67_Q_b6 (k : Nat) : f67_L := [.c (f67_p 127) 0]
noncomputable def f67_C_b6 (k : Nat) : f67_S := fun σ => f67_a k (f67_Q_b6 k) .nx σ
def f67_s_r18 (y11_0 : (List Int)) (y117 : (List (Int × Int))) (y39 : (List (Int × Int))) (y69 : (List (Int × (Int × (Int × Int))))) (y8_0 : Int) (y8_1 : Int) (x112 : Bool) (x73 : Int) (x74 : Int) : St := mkS 124 384 [(2, aP 2), (3, aP 11), (4, aP 4), (8, aP 8), (73, aI x73), (74, aI x74), (112, aB x112)] [(2, .box [.nil, .nil, .nil]), (4, .box [.own 39, .own 69, .own 117]), (8, .box [cI y8_0, cI y8_1]), (11, .box [cV (.int .i64) y11_0]), (39, .vec Tq2 y39), (69, .vec Tq6 y69), (117, .vec Tq2 y117)]
abbrev f67_t_r18 := (List Int) → (List (Int × Int)) → (List (Int × Int)) → (List (Int × (Int × (Int × Int)))) → Int → Int → Bool → Int → Int → Option (Td12 × Unit)
abbrev f67_o_r18 (R : f67_S) : f67_t_r18 := (fun y11_0 y117 y39 y69 y8_0 y8_1 x112 x73 x74 => R (f67_s_r18 y11_0 y117 y39 y69 y8_0 y8_1 x112 x73 x74))
noncomputable def f67_Q_r18 (k : Nat) (R_l6 : f67_S) : f67_L := [.c (f67_p 129639) 7, .blk 7, .c (f67_p 8103) 6, .j (fun σ => R_l6 (cut f67_A.loops 6 σ)), .blk 6, .c (f67_p 127) 0]
noncomputable def f67_C_r18 (k : Nat) (R_l6 : f67_S) : f67_S := fun σ => f67_a k (f67_Q_r18 k R_l6) .nx σ
def f67_s_c19 (y11_0 : (List Int)) (y117 : (List (Int × Int))) (y39 : (List (Int × Int))) (y69 : (List (Int × (Int × (Int × Int))))) (x73 : Int) (x74 : Int) : St := mkS 124 384 [(2, aP 2), (3, aP 11), (4, aP 4), (73, aI x73), (74, aI x74)] [(2, .box [.nil, .nil, .nil]), (4, .box [.own 39, .own 69, .own 117]), (11, .box [cV (.int .i64) y11_0]), (39, .vec Tq2 y39), (69, .vec Tq6 y69), (117, .vec Tq2 y117)]
abbrev f67_t_c19 := (List Int) → (List (Int × Int)) → (List (Int × Int)) → (List (Int × (Int × (Int × Int)))) → Int → Int → Option (Td12 × Unit)
abbrev f67_o_c19 (R : f67_S) : f67_t_c19 := (fun y11_0 y117 y39 y69 x73 x74 => R (f67_s_c19 y11_0 y117 y39 y69 x73 x74))
noncomputable def f67_Q_c19 (k : Nat) (R_l6 : f67_S) : f67_L := [.blk 7, .c (f67_p 8103) 6, .j (fun σ => R_l6 (cut f67_A.loops 6 σ)), .blk 6, .c (f67_p 127) 0]
noncomputable def f67_C_c19 (k : Nat) (R_l6 : f67_S) : f67_S := fun σ => f67_a k (f67_Q_c19 k R_l6) .nx σ
noncomputable def f67_F_b6 (k : Nat) : f67_L := .c (f67_p 127) 0 :: []
theorem f67_f_b6 (k : Nat) : f67_a k (f67_Q_b6 k) = f67_a k (f67_F_b6 k) := (ap_cons _ rfl)
noncomputable def f67_F_r3 (k : Nat) (G_l0 G_l2 G_l4 G_l6 G_b6 : f67_S) : f67_L := .c (f67_p 481) 0 :: .j (fun σ => f67_a k (.c (f67_p 964) 1 :: .j (fun σ => f67_a k (.j (fun σ => G_l2 (cut f67_A.loops 2 σ)) :: .blk 2 :: .c (f67_p 1931) 1 :: .blk 1 :: .j (fun σ => G_l0 (cut f67_A.loops 0 σ)) :: .blk 0 :: .c (f67_p 124) 0 :: .j (fun σ => f67_a k (.j (fun σ => G_l4 (cut f67_A.loops 4 σ)) :: .blk 4 :: .c (f67_p 252) 0 :: .j (fun σ => f67_a k (.j (fun σ => G_l6 (cut f67_A.loops 6 σ)) :: .b 6 (fun σ => G_b6 (cut f67_A.blks 6 σ)) :: f67_F_b6 k) .nx σ) :: f67_F_b6 k) .nx σ) :: .c (f67_p 252) 0 :: .j (fun σ => f67_a k (.j (fun σ => G_l6 (cut f67_A.loops 6 σ)) :: .b 6 (fun σ => G_b6 (cut f67_A.blks 6 σ)) :: f67_F_b6 k) .nx σ) :: f67_F_b6 k) .nx σ) :: .c (f67_p 1931) 1 :: .blk 1 :: .j (fun σ => G_l0 (cut f67_A.loops 0 σ)) :: .blk 0 :: .c (f67_p 124) 0 :: .j (fun σ => f67_a k (.j (fun σ => G_l4 (cut f67_A.loops 4 σ)) :: .blk 4 :: .c (f67_p 252) 0 :: .j (fun σ => f67_a k (.j (fun σ => G_l6 (cut f67_A.loops 6 σ)) :: .b 6 (fun σ => G_b6 (cut f67_A.blks 6 σ)) :: f67_F_b6 k) .nx σ) :: f67_F_b6 k) .nx σ) :: .c (f67_p 252) 0 :: .j (fun σ => f67_a k (.j (fun σ => G_l6 (cut f67_A.loops 6 σ)) :: .b 6 (fun σ => G_b6 (cut f67_A.blks 6 σ)) :: f67_F_b6 k) .nx σ) :: f67_F_b6 k) .nx σ) :: .j (fun σ => G_l0 (cut f67_A.loops 0 σ)) :: .blk 0 :: .c (f67_p 124) 0 :: .j (fun σ => f67_a k (.j (fun σ => G_l4 (cut f67_A.loops 4 σ)) :: .blk 4 :: .c (f67_p 252) 0 :: .j (fun σ => f67_a k (.j (fun σ => G_l6 (cut f67_A.loops 6 σ)) :: .b 6 (fun σ => G_b6 (cut f67_A.blks 6 σ)) :: f67_F_b6 k) .nx σ) :: f67_F_b6 k) .nx σ) :: .c (f67_p 252) 0 :: .j (fun σ => f67_a k (.j (fun σ => G_l6 (cut f67_A.loops 6 σ)) :: .b 6 (fun σ => G_b6 (cut f67_A.blks 6 σ)) :: f67_F_b6 k) .nx σ) :: f67_F_b6 k
theorem f67_f_r3 (k : Nat) (R_l0 : f67_S) : f67_a k (f67_Q_r3 k R_l0) = f67_a k (f67_F_r3 k R_l0 (f67_C_l2 k R_l0 k) (f67_C_l4 k k) (f67_C_l6 k k) (f67_C_b6 k)) := (ap_cons _ (Eq.trans (ap_bl 1) (Eq.trans (ap_j (Eq.trans ap_sq (ap_cons _ (Eq.trans ap_sq (Eq.trans (ap_bl 2) (Eq.trans (ap_j (Eq.trans (ap_lp (C := (f67_C_l2 k R_l0)) (fun _ _ => rfl)) (ap_cons _ (ap_cons _ (ap_cons _ (ap_cons _ (ap_cons _ (ap_cons _ (Eq.trans ap_sq (Eq.trans ap_sq (ap_cons _ (Eq.trans (ap_bl 4) (Eq.trans (ap_j (Eq.trans (ap_lp (C := (f67_C_l4 k)) (fun _ _ => rfl)) (ap_cons _ (ap_cons _ (Eq.trans ap_sq (Eq.trans ap_sq (ap_cons _ (Eq.trans (ap_bl 6) (Eq.trans (ap_j (Eq.trans (ap_lp (C := (f67_C_l6 k)) (fun _ _ => rfl)) (ap_cons _ (Eq.trans (ap_blkb (C := (f67_C_b6 k)) (fun _ => rfl)) (ap_cons _ (f67_f_b6 k)))))) (ap_cons _ (f67_f_b6 k))))))))))) (ap_cons _ (Eq.trans ap_sq (Eq.trans ap_sq (ap_cons _ (Eq.trans (ap_bl 6) (Eq.trans (ap_j (Eq.trans (ap_lp (C := (f67_C_l6 k)) (fun _ _ => rfl)) (ap_cons _ (Eq.trans (ap_blkb (C := (f67_C_b6 k)) (fun _ => rfl)) (ap_cons _ (f67_f_b6 k)))))) (ap_cons _ (f67_f_b6 k))))))))))))))))))))) (ap_cons _ (ap_cons _ (ap_cons _ (ap_cons _ (ap_cons _ (Eq.trans ap_sq (Eq.trans ap_sq (ap_cons _ (Eq.trans (ap_bl 4) (Eq.trans (ap_j (Eq.trans (ap_lp (C := (f67_C_l4 k)) (fun _ _ => rfl)) (ap_cons _ (ap_cons _ (Eq.trans ap_sq (Eq.trans ap_sq (ap_cons _ (Eq.trans (ap_bl 6) (Eq.trans (ap_j (Eq.trans (ap_lp (C := (f67_C_l6 k)) (fun _ _ => rfl)) (ap_cons _ (Eq.trans (ap_blkb (C := (f67_C_b6 k)) (fun _ => rfl)) (ap_cons _ (f67_f_b6 k)))))) (ap_cons _ (f67_f_b6 k))))))))))) (ap_cons _ (Eq.trans ap_sq (Eq.trans ap_sq (ap_cons _ (Eq.trans (ap_bl 6) (Eq.trans (ap_j (Eq.trans (ap_lp (C := (f67_C_l6 k)) (fun _ _ => rfl)) (ap_cons _ (Eq.trans (ap_blkb (C := (f67_C_b6 k)) (fun _ => rfl)) (ap_cons _ (f67_f_b6 k)))))) (ap_cons _ (f67_f_b6 k)))))))))))))))))))))))) (ap_cons _ (ap_cons _ (ap_cons _ (Eq.trans ap_sq (Eq.trans ap_sq (ap_cons _ (Eq.trans (ap_bl 4) (Eq.trans (ap_j (Eq.trans (ap_lp (C := (f67_C_l4 k)) (fun _ _ => rfl)) (ap_cons _ (ap_cons _ (Eq.trans ap_sq (Eq.trans ap_sq (ap_cons _ (Eq.trans (ap_bl 6) (Eq.trans (ap_j (Eq.trans (ap_lp (C := (f67_C_l6 k)) (fun _ _ => rfl)) (ap_cons _ (Eq.trans (ap_blkb (C := (f67_C_b6 k)) (fun _ => rfl)) (ap_cons _ (f67_f_b6 k)))))) (ap_cons _ (f67_f_b6 k))))))))))) (ap_cons _ (Eq.trans ap_sq (Eq.trans ap_sq (ap_cons _ (Eq.trans (ap_bl 6) (Eq.trans (ap_j (Eq.trans (ap_lp (C := (f67_C_l6 k)) (fun _ _ => rfl)) (ap_cons _ (Eq.trans (ap_blkb (C := (f67_C_b6 k)) (fun _ => rfl)) (ap_cons _ (f67_f_b6 k)))))) (ap_cons _ (f67_f_b6 k)))))))))))))))))))
noncomputable def f67_F_l0 (k : Nat) (G_l0 G_r3 G_l2 G_l4 G_l6 G_b6 : f67_S) : f67_L := .c (f67_p 480) 0 :: .j G_r3 :: f67_F_r3 k G_l0 G_l2 G_l4 G_l6 G_b6
theorem f67_f_l0 (k : Nat) (R_l0 : f67_S) : f67_a k (f67_Q_l0 k R_l0) = f67_a k (f67_F_l0 k R_l0 (f67_C_r3 k R_l0) (f67_C_l2 k R_l0 k) (f67_C_l4 k k) (f67_C_l6 k k) (f67_C_b6 k)) := (Eq.trans ap_sq (Eq.trans ap_sq (ap_cons _ (Eq.trans (ap_pass (C := (f67_C_r3 k R_l0)) (fun _ => rfl)) (ap_cons _ (f67_f_r3 k R_l0))))))
noncomputable def f67_F_l2 (k : Nat) (G_l0 G_l2 G_l4 G_l6 G_b6 : f67_S) : f67_L := .c (f67_p 7720) 2 :: .j (fun σ => G_l2 (cut f67_A.loops 2 σ)) :: .blk 2 :: .c (f67_p 1931) 1 :: .blk 1 :: .j (fun σ => G_l0 (cut f67_A.loops 0 σ)) :: .blk 0 :: .c (f67_p 124) 0 :: .j (fun σ => f67_a k (.j (fun σ => G_l4 (cut f67_A.loops 4 σ)) :: .blk 4 :: .c (f67_p 252) 0 :: .j (fun σ => f67_a k (.j (fun σ => G_l6 (cut f67_A.loops 6 σ)) :: .b 6 (fun σ => G_b6 (cut f67_A.blks 6 σ)) :: f67_F_b6 k) .nx σ) :: f67_F_b6 k) .nx σ) :: .c (f67_p 252) 0 :: .j (fun σ => f67_a k (.j (fun σ => G_l6 (cut f67_A.loops 6 σ)) :: .b 6 (fun σ => G_b6 (cut f67_A.blks 6 σ)) :: f67_F_b6 k) .nx σ) :: f67_F_b6 k
theorem f67_f_l2 (k : Nat) (R_l0 R_l2 : f67_S) : f67_a k (f67_Q_l2 k R_l0 R_l2) = f67_a k (f67_F_l2 k R_l0 R_l2 (f67_C_l4 k k) (f67_C_l6 k k) (f67_C_b6 k)) := (ap_cons _ (ap_cons _ (ap_cons _ (ap_cons _ (ap_cons _ (ap_cons _ (ap_cons _ (Eq.trans ap_sq (Eq.trans ap_sq (ap_cons _ (Eq.trans (ap_bl 4) (Eq.trans (ap_j (Eq.trans (ap_lp (C := (f67_C_l4 k)) (fun _ _ => rfl)) (ap_cons _ (ap_cons _ (Eq.trans ap_sq (Eq.trans ap_sq (ap_cons _ (Eq.trans (ap_bl 6) (Eq.trans (ap_j (Eq.trans (ap_lp (C := (f67_C_l6 k)) (fun _ _ => rfl)) (ap_cons _ (Eq.trans (ap_blkb (C := (f67_C_b6 k)) (fun _ => rfl)) (ap_cons _ (f67_f_b6 k)))))) (ap_cons _ (f67_f_b6 k))))))))))) (ap_cons _ (Eq.trans ap_sq (Eq.trans ap_sq (ap_cons _ (Eq.trans (ap_bl 6) (Eq.trans (ap_j (Eq.trans (ap_lp (C := (f67_C_l6 k)) (fun _ _ => rfl)) (ap_cons _ (Eq.trans (ap_blkb (C := (f67_C_b6 k)) (fun _ => rfl)) (ap_cons _ (f67_f_b6 k)))))) (ap_cons _ (f67_f_b6 k))))))))))))))))))))
noncomputable def f67_F_c12 (k : Nat) (G_l4 G_l6 G_b6 : f67_S) : f67_L := .blk 5 :: .c (f67_p 4007) 4 :: .j (fun σ => G_l4 (cut f67_A.loops 4 σ)) :: .blk 4 :: .c (f67_p 252) 0 :: .j (fun σ => f67_a k (.j (fun σ => G_l6 (cut f67_A.loops 6 σ)) :: .b 6 (fun σ => G_b6 (cut f67_A.blks 6 σ)) :: f67_F_b6 k) .nx σ) :: f67_F_b6 k
theorem f67_f_c12 (k : Nat) (R_l4 : f67_S) : f67_a k (f67_Q_c12 k R_l4) = f67_a k (f67_F_c12 k R_l4 (f67_C_l6 k k) (f67_C_b6 k)) := (ap_cons _ (ap_cons _ (ap_cons _ (ap_cons _ (Eq.trans ap_sq (Eq.trans ap_sq (ap_cons _ (Eq.trans (ap_bl 6) (Eq.trans (ap_j (Eq.trans (ap_lp (C := (f67_C_l6 k)) (fun _ _ => rfl)) (ap_cons _ (Eq.trans (ap_blkb (C := (f67_C_b6 k)) (fun _ => rfl)) (ap_cons _ (f67_f_b6 k)))))) (ap_cons _ (f67_f_b6 k)))))))))))
noncomputable def f67_F_l4 (k : Nat) (G_l4 G_c12 G_l6 G_b6 : f67_S) : f67_L := .c (f67_p 1000) 4 :: .c (f67_p 2002) 4 :: .j (fun σ => f67_a k (.c (f67_p 16024) 5 :: .c (f67_p 32050) 5 :: .c (f67_p 32051) 5 :: .j G_c12 :: f67_F_c12 k G_l4 G_l6 G_b6) .nx σ) :: .c (f67_p 4007) 4 :: .j (fun σ => G_l4 (cut f67_A.loops 4 σ)) :: .blk 4 :: .c (f67_p 252) 0 :: .j (fun σ => f67_a k (.j (fun σ => G_l6 (cut f67_A.loops 6 σ)) :: .b 6 (fun σ => G_b6 (cut f67_A.blks 6 σ)) :: f67_F_b6 k) .nx σ) :: f67_F_b6 k
theorem f67_f_l4 (k : Nat) (R_l4 : f67_S) : f67_a k (f67_Q_l4 k R_l4) = f67_a k (f67_F_l4 k R_l4 (f67_C_c12 k R_l4) (f67_C_l6 k k) (f67_C_b6 k)) := (Eq.trans ap_sq (ap_cons _ (Eq.trans ap_sq (ap_cons _ (Eq.trans ap_sq (Eq.trans (ap_bl 5) (Eq.trans (ap_j (Eq.trans ap_sq (ap_cons _ (Eq.trans ap_sq (ap_cons _ (ap_cons _ (Eq.trans (ap_pass (C := (f67_C_c12 k R_l4)) (fun _ => rfl)) (ap_cons _ (f67_f_c12 k R_l4))))))))) (ap_cons _ (ap_cons _ (ap_cons _ (ap_cons _ (Eq.trans ap_sq (Eq.trans ap_sq (ap_cons _ (Eq.trans (ap_bl 6) (Eq.trans (ap_j (Eq.trans (ap_lp (C := (f67_C_l6 k)) (fun _ _ => rfl)) (ap_cons _ (Eq.trans (ap_blkb (C := (f67_C_b6 k)) (fun _ => rfl)) (ap_cons _ (f67_f_b6 k)))))) (ap_cons _ (f67_f_b6 k))))))))))))))))))
noncomputable def f67_F_c19 (k : Nat) (G_l6 G_b6 : f67_S) : f67_L := .blk 7 :: .c (f67_p 8103) 6 :: .j (fun σ => G_l6 (cut f67_A.loops 6 σ)) :: .b 6 (fun σ => G_b6 (cut f67_A.blks 6 σ)) :: f67_F_b6 k
theorem f67_f_c19 (k : Nat) (R_l6 : f67_S) : f67_a k (f67_Q_c19 k R_l6) = f67_a k (f67_F_c19 k R_l6 (f67_C_b6 k)) := (ap_cons _ (ap_cons _ (ap_cons _ (Eq.trans (ap_blkb (C := (f67_C_b6 k)) (fun _ => rfl)) (ap_cons _ (f67_f_b6 k))))))
noncomputable def f67_F_r18 (k : Nat) (G_l6 G_b6 G_c19 : f67_S) : f67_L := .c (f67_p 129639) 7 :: .j G_c19 :: f67_F_c19 k G_l6 G_b6
theorem f67_f_r18 (k : Nat) (R_l6 : f67_S) : f67_a k (f67_Q_r18 k R_l6) = f67_a k (f67_F_r18 k R_l6 (f67_C_b6 k) (f67_C_c19 k R_l6)) := (ap_cons _ (Eq.trans (ap_pass (C := (f67_C_c19 k R_l6)) (fun _ => rfl)) (ap_cons _ (f67_f_c19 k R_l6))))
noncomputable def f67_F_l6 (k : Nat) (G_l6 G_b6 G_r18 G_c19 : f67_S) : f67_L := .c (f67_p 2024) 6 :: .c (f67_p 4050) 6 :: .j (fun σ => f67_a k (.c (f67_p 32408) 7 :: .c (f67_p 64818) 7 :: .c (f67_p 129638) 7 :: .j G_r18 :: f67_F_r18 k G_l6 G_b6 G_c19) .nx σ) :: .c (f67_p 8103) 6 :: .j (fun σ => G_l6 (cut f67_A.loops 6 σ)) :: .b 6 (fun σ => G_b6 (cut f67_A.blks 6 σ)) :: f67_F_b6 k
theorem f67_f_l6 (k : Nat) (R_l6 : f67_S) : f67_a k (f67_Q_l6 k R_l6) = f67_a k (f67_F_l6 k R_l6 (f67_C_b6 k) (f67_C_r18 k R_l6) (f67_C_c19 k R_l6)) := (Eq.trans ap_sq (ap_cons _ (Eq.trans ap_sq (ap_cons _ (Eq.trans ap_sq (Eq.trans (ap_bl 7) (Eq.trans (ap_j (Eq.trans ap_sq (ap_cons _ (Eq.trans ap_sq (ap_cons _ (Eq.trans ap_sq (ap_cons _ (Eq.trans (ap_pass (C := (f67_C_r18 k R_l6)) (fun _ => rfl)) (ap_cons _ (f67_f_r18 k R_l6)))))))))) (ap_cons _ (ap_cons _ (ap_cons _ (Eq.trans (ap_blkb (C := (f67_C_b6 k)) (fun _ => rfl)) (ap_cons _ (f67_f_b6 k)))))))))))))
def f67_entry_B (k : Nat) (g_l0 : f67_t_l0) (a0 : (List Int)) : Option (Td12 × Unit) := (g_l0 a0 ([] : List (Int × Int)))
def f67_l0_B (k : Nat) (g_r3 : f67_t_r3) (y11_0 : (List Int)) (y39 : (List (Int × Int))) : Option (Td12 × Unit) := ((f51 k y11_0 7).bind fun r1 => (if (y39.length : Int) < (w64 (2 + r1.2.1)) then (g_r3 r1.1.1.1 y39 true) else (g_r3 r1.1.1.1 y39 (decide ((y39.length : Int) < 2)))))
def f67_r3_B (k : Nat) (g_l2 : f67_t_l2) (g_l4 : f67_t_l4) (y11_0 : (List Int)) (y39 : (List (Int × Int))) (x24 : Bool) : Option (Td12 × Unit) := (if x24 = true then ((f131 k y11_0).bind fun r1 => (g_l2 r1.1.1.1 y39 r1.2.1.1 r1.2.1.2)) else ((f51 k y11_0 17).bind fun r2 => (g_l4 r2.1.1.1 y39 ([] : List (Int × (Int × (Int × Int)))) r2.2.1 0)))
def f67_l2_B (k : Nat) (g_l0 : f67_t_l0) (g_l2 : f67_t_l2) (y11_0 : (List Int)) (y39 : (List (Int × Int))) (y5_0 : Int) (y5_1 : Int) : Option (Td12 × Unit) := ((f126 k y39 (y5_0, y5_1)).bind fun r1 => (if r1.1 = true then (g_l2 y11_0 y39 (w64 (y5_0 + 1)) y5_1) else (if (y39.length + 1) * 16 ≤ 140737488355328 then (g_l0 y11_0 (y39 ++ [(y5_0, y5_1)])) else none)))
def f67_l4_B (k : Nat) (g_c12 : f67_t_c12) (g_l6 : f67_t_l6) (y11_0 : (List Int)) (y39 : (List (Int × Int))) (y69 : (List (Int × (Int × (Int × Int))))) (x42 : Int) (x43 : Int) : Option (Td12 × Unit) := (if x43 < x42 then ((f51 k y11_0 (y39.length : Int)).bind fun r1 => ((f51 k r1.1.1.1 (y39.length : Int)).bind fun r2 => (if ¬ (r1.2.1 = r2.2.1) then ((f51 k r2.1.1.1 20).bind fun r3 => ((f51 k r3.1.1.1 5).bind fun r4 => (if (y69.length + 1) * 32 ≤ 140737488355328 then (g_c12 r4.1.1.1 y39 (y69 ++ [(r1.2.1, (r2.2.1, (w64 (1 + r3.2.1), r4.2.1)))]) x42 x43) else none))) else (g_c12 r2.1.1.1 y39 y69 x42 x43)))) else ((f51 k y11_0 4).bind fun r5 => (g_l6 r5.1.1.1 ([] : List (Int × Int)) y39 y69 r5.2.1 0)))
def f67_c12_B (k : Nat) (g_l4 : f67_t_l4) (y11_0 : (List Int)) (y39 : (List (Int × Int))) (y69 : (List (Int × (Int × (Int × Int))))) (x42 : Int) (x43 : Int) : Option (Td12 × Unit) := (g_l4 y11_0 y39 y69 x42 (w64 (x43 + 1)))
def f67_l6_B (k : Nat) (g_b6 : f67_t_b6) (g_r18 : f67_t_r18) (y11_0 : (List Int)) (y117 : (List (Int × Int))) (y39 : (List (Int × Int))) (y69 : (List (Int × (Int × (Int × Int))))) (x73 : Int) (x74 : Int) : Option (Td12 × Unit) := (if x74 < x73 then (if (y69.length : Int) = 0 then (g_b6 y117 y39 y69) else ((f51 k y11_0 (y69.length : Int)).bind fun r1 => ((f51 k r1.1.1.1 (y69.length : Int)).bind fun r2 => (if 0 ≤ r1.2.1 then (if r1.2.1 < (y69.length : Int) then (if 0 ≤ r2.2.1 then (if r2.2.1 < (y69.length : Int) then (if (((y69.getD ((r1.2.1).toNat) (0, (0, (0, 0)))).2).1) = ((y69.getD ((r2.2.1).toNat) (0, (0, (0, 0)))).1) then ((f105 k y117 (r1.2.1, r2.2.1)).bind fun r3 => (g_r18 r2.1.1.1 y117 y39 y69 r1.2.1 r2.2.1 (decide (¬ (r3.1 = true))) x73 x74)) else (g_r18 r2.1.1.1 y117 y39 y69 r1.2.1 r2.2.1 false x73 x74)) else none) else none) else none) else none)))) else (g_b6 y117 y39 y69))
def f67_b6_B (k : Nat) (y117 : (List (Int × Int))) (y39 : (List (Int × Int))) (y69 : (List (Int × (Int × (Int × Int))))) : Option (Td12 × Unit) := ((f132 k y117 ()).bind fun r1 => some ((y39, (y69, r1.1.1)), ()))
def f67_r18_B (k : Nat) (g_c19 : f67_t_c19) (y11_0 : (List Int)) (y117 : (List (Int × Int))) (y39 : (List (Int × Int))) (y69 : (List (Int × (Int × (Int × Int))))) (y8_0 : Int) (y8_1 : Int) (x112 : Bool) (x73 : Int) (x74 : Int) : Option (Td12 × Unit) := (if x112 = true then (if (y117.length + 1) * 16 ≤ 140737488355328 then (g_c19 y11_0 (y117 ++ [(y8_0, y8_1)]) y39 y69 x73 x74) else none) else (g_c19 y11_0 y117 y39 y69 x73 x74))
def f67_c19_B (k : Nat) (g_l6 : f67_t_l6) (y11_0 : (List Int)) (y117 : (List (Int × Int))) (y39 : (List (Int × Int))) (y69 : (List (Int × (Int × (Int × Int))))) (x73 : Int) (x74 : Int) : Option (Td12 × Unit) := (g_l6 y11_0 y117 y39 y69 x73 (w64 (x74 + 1)))
theorem f67_l2_P (k : Nat) (G_l0 G_l2 G_l4 G_l6 G_b6 : f67_S) : f67_o_l2 (fun σ => f67_a k (f67_F_l2 k G_l0 G_l2 G_l4 G_l6 G_b6) .nx σ) = f67_l2_B k (f67_o_l0 G_l0) (f67_o_l2 G_l2) := by kernel_rfl
def f67_l2 (k : Nat) (r_l0 : f67_t_l0) : Nat → f67_t_l2
  | 0 => fun _ _ _ _ => none
  | n + 1 => f67_l2_B k r_l0 (f67_l2 k r_l0 n)
theorem f67_l2_E (k : Nat) (R_l0 : f67_S) : ∀ n, f67_o_l2 (f67_C_l2 k R_l0 n) = f67_l2 k (f67_o_l0 R_l0) n
  | 0 => rfl
  | n + 1 =>
    Eq.trans (congrArg f67_o_l2 (Eq.trans (b := fun σ => f67_a k (f67_Q_l2 k R_l0 (f67_C_l2 k R_l0 n)) .nx σ) (by kernel_rfl) (ap_fn (f67_f_l2 k R_l0 (f67_C_l2 k R_l0 n))))) ((f67_l2_P k R_l0 (f67_C_l2 k R_l0 n) (f67_C_l4 k k) (f67_C_l6 k k) (f67_C_b6 k)).trans (by rw [f67_l2_E k R_l0 n] <;> rfl))
theorem f67_c12_P (k : Nat) (G_l4 G_l6 G_b6 : f67_S) : f67_o_c12 (fun σ => f67_a k (f67_F_c12 k G_l4 G_l6 G_b6) .nx σ) = f67_c12_B k (f67_o_l4 G_l4) := by kernel_rfl
def f67_c12 (k : Nat) (r_l4 : f67_t_l4) : f67_t_c12 := f67_c12_B k r_l4
theorem f67_c12_E (k : Nat) (R_l4 : f67_S) : f67_o_c12 (f67_C_c12 k R_l4) = f67_c12 k (f67_o_l4 R_l4) :=
  Eq.trans (congrArg f67_o_c12 (ap_fn (f67_f_c12 k R_l4))) ((f67_c12_P k R_l4 (f67_C_l6 k k) (f67_C_b6 k)).trans (by rfl))
theorem f67_b6_P (k : Nat) : f67_o_b6 (fun σ => f67_a k (f67_F_b6 k) .nx σ) = f67_b6_B k := by kernel_rfl
def f67_b6 (k : Nat) : f67_t_b6 := f67_b6_B k
theorem f67_b6_E (k : Nat) : f67_o_b6 (f67_C_b6 k) = f67_b6 k :=
  Eq.trans (congrArg f67_o_b6 (ap_fn (f67_f_b6 k))) ((f67_b6_P k).trans (by rfl))
theorem f67_c19_P (k : Nat) (G_l6 G_b6 : f67_S) : f67_o_c19 (fun σ => f67_a k (f67_F_c19 k G_l6 G_b6) .nx σ) = f67_c19_B k (f67_o_l6 G_l6) := by kernel_rfl
def f67_c19 (k : Nat) (r_l6 : f67_t_l6) : f67_t_c19 := f67_c19_B k r_l6
theorem f67_c19_E (k : Nat) (R_l6 : f67_S) : f67_o_c19 (f67_C_c19 k R_l6) = f67_c19 k (f67_o_l6 R_l6) :=
  Eq.trans (congrArg f67_o_c19 (ap_fn (f67_f_c19 k R_l6))) ((f67_c19_P k R_l6 (f67_C_b6 k)).trans (by rfl))
theorem f67_r18_P (k : Nat) (G_l6 G_b6 G_c19 : f67_S) : f67_o_r18 (fun σ => f67_a k (f67_F_r18 k G_l6 G_b6 G_c19) .nx σ) = f67_r18_B k (f67_o_c19 G_c19) := by kernel_rfl
def f67_r18 (k : Nat) (r_l6 : f67_t_l6) : f67_t_r18 := f67_r18_B k (f67_c19 k r_l6)
theorem f67_r18_E (k : Nat) (R_l6 : f67_S) : f67_o_r18 (f67_C_r18 k R_l6) = f67_r18 k (f67_o_l6 R_l6) :=
  Eq.trans (congrArg f67_o_r18 (ap_fn (f67_f_r18 k R_l6))) ((f67_r18_P k R_l6 (f67_C_b6 k) (f67_C_c19 k R_l6)).trans (by rw [f67_c19_E k R_l6] <;> rfl))
theorem f67_l6_P (k : Nat) (G_l6 G_b6 G_r18 G_c19 : f67_S) : f67_o_l6 (fun σ => f67_a k (f67_F_l6 k G_l6 G_b6 G_r18 G_c19) .nx σ) = f67_l6_B k (f67_o_b6 G_b6) (f67_o_r18 G_r18) := by kernel_rfl
def f67_l6 (k : Nat) : Nat → f67_t_l6
  | 0 => fun _ _ _ _ _ _ => none
  | n + 1 => f67_l6_B k (f67_b6 k) (f67_r18 k (f67_l6 k n))
theorem f67_l6_E (k : Nat) : ∀ n, f67_o_l6 (f67_C_l6 k n) = f67_l6 k n
  | 0 => rfl
  | n + 1 =>
    Eq.trans (congrArg f67_o_l6 (Eq.trans (b := fun σ => f67_a k (f67_Q_l6 k (f67_C_l6 k n)) .nx σ) (by kernel_rfl) (ap_fn (f67_f_l6 k (f67_C_l6 k n))))) ((f67_l6_P k (f67_C_l6 k n) (f67_C_b6 k) (f67_C_r18 k (f67_C_l6 k n)) (f67_C_c19 k (f67_C_l6 k n))).trans (by rw [f67_b6_E k, f67_r18_E k (f67_C_l6 k n), f67_l6_E k n] <;> rfl))
theorem f67_l4_P (k : Nat) (G_l4 G_c12 G_l6 G_b6 : f67_S) : f67_o_l4 (fun σ => f67_a k (f67_F_l4 k G_l4 G_c12 G_l6 G_b6) .nx σ) = f67_l4_B k (f67_o_c12 G_c12) (f67_o_l6 G_l6) := by kernel_rfl
def f67_l4 (k : Nat) : Nat → f67_t_l4
  | 0 => fun _ _ _ _ _ => none
  | n + 1 => f67_l4_B k (f67_c12 k (f67_l4 k n)) (f67_l6 k k)
theorem f67_l4_E (k : Nat) : ∀ n, f67_o_l4 (f67_C_l4 k n) = f67_l4 k n
  | 0 => rfl
  | n + 1 =>
    Eq.trans (congrArg f67_o_l4 (Eq.trans (b := fun σ => f67_a k (f67_Q_l4 k (f67_C_l4 k n)) .nx σ) (by kernel_rfl) (ap_fn (f67_f_l4 k (f67_C_l4 k n))))) ((f67_l4_P k (f67_C_l4 k n) (f67_C_c12 k (f67_C_l4 k n)) (f67_C_l6 k k) (f67_C_b6 k)).trans (by rw [f67_c12_E k (f67_C_l4 k n), f67_l6_E k k, f67_l4_E k n] <;> rfl))
theorem f67_r3_P (k : Nat) (G_l0 G_l2 G_l4 G_l6 G_b6 : f67_S) : f67_o_r3 (fun σ => f67_a k (f67_F_r3 k G_l0 G_l2 G_l4 G_l6 G_b6) .nx σ) = f67_r3_B k (f67_o_l2 G_l2) (f67_o_l4 G_l4) := by kernel_rfl
def f67_r3 (k : Nat) (r_l0 : f67_t_l0) : f67_t_r3 := f67_r3_B k (f67_l2 k r_l0 k) (f67_l4 k k)
theorem f67_r3_E (k : Nat) (R_l0 : f67_S) : f67_o_r3 (f67_C_r3 k R_l0) = f67_r3 k (f67_o_l0 R_l0) :=
  Eq.trans (congrArg f67_o_r3 (ap_fn (f67_f_r3 k R_l0))) ((f67_r3_P k R_l0 (f67_C_l2 k R_l0 k) (f67_C_l4 k k) (f67_C_l6 k k) (f67_C_b6 k)).trans (by rw [f67_l2_E k R_l0 k, f67_l4_E k k] <;> rfl))
theorem f67_l0_P (k : Nat) (G_l0 G_r3 G_l2 G_l4 G_l6 G_b6 : f67_S) : f67_o_l0 (fun σ => f67_a k (f67_F_l0 k G_l0 G_r3 G_l2 G_l4 G_l6 G_b6) .nx σ) = f67_l0_B k (f67_o_r3 G_r3) := by kernel_rfl
def f67_l0 (k : Nat) : Nat → f67_t_l0
  | 0 => fun _ _ => none
  | n + 1 => f67_l0_B k (f67_r3 k (f67_l0 k n))
theorem f67_l0_E (k : Nat) : ∀ n, f67_o_l0 (f67_C_l0 k n) = f67_l0 k n
  | 0 => rfl
  | n + 1 =>
    Eq.trans (congrArg f67_o_l0 (Eq.trans (b := fun σ => f67_a k (f67_Q_l0 k (f67_C_l0 k n)) .nx σ) (by kernel_rfl) (ap_fn (f67_f_l0 k (f67_C_l0 k n))))) ((f67_l0_P k (f67_C_l0 k n) (f67_C_r3 k (f67_C_l0 k n)) (f67_C_l2 k (f67_C_l0 k n) k) (f67_C_l4 k k) (f67_C_l6 k k) (f67_C_b6 k)).trans (by rw [f67_r3_E k (f67_C_l0 k n), f67_l0_E k n] <;> rfl))
theorem f67_entry_P (k : Nat) (G_l0 G_l4 G_l6 G_b6 : f67_S) (xs : DL f67_sig) : f67_a k (.c (f67_p 2) 0 :: .c (f67_p 6) 0 :: .c (f67_p 14) 0 :: .j (fun σ => f67_a k (.j (fun σ => G_l0 (cut f67_A.loops 0 σ)) :: .blk 0 :: .c (f67_p 124) 0 :: .j (fun σ => f67_a k (.j (fun σ => G_l4 (cut f67_A.loops 4 σ)) :: .blk 4 :: .c (f67_p 252) 0 :: .j (fun σ => f67_a k (.j (fun σ => G_l6 (cut f67_A.loops 6 σ)) :: .b 6 (fun σ => G_b6 (cut f67_A.blks 6 σ)) :: f67_F_b6 k) .nx σ) :: f67_F_b6 k) .nx σ) :: .c (f67_p 252) 0 :: .j (fun σ => f67_a k (.j (fun σ => G_l6 (cut f67_A.loops 6 σ)) :: .b 6 (fun σ => G_b6 (cut f67_A.blks 6 σ)) :: f67_F_b6 k) .nx σ) :: f67_F_b6 k) .nx σ) :: .c (f67_p 124) 0 :: .j (fun σ => f67_a k (.j (fun σ => G_l4 (cut f67_A.loops 4 σ)) :: .blk 4 :: .c (f67_p 252) 0 :: .j (fun σ => f67_a k (.j (fun σ => G_l6 (cut f67_A.loops 6 σ)) :: .b 6 (fun σ => G_b6 (cut f67_A.blks 6 σ)) :: f67_F_b6 k) .nx σ) :: f67_F_b6 k) .nx σ) :: .c (f67_p 252) 0 :: .j (fun σ => f67_a k (.j (fun σ => G_l6 (cut f67_A.loops 6 σ)) :: .b 6 (fun σ => G_b6 (cut f67_A.blks 6 σ)) :: f67_F_b6 k) .nx σ) :: f67_F_b6 k) .nx (σ0 124 384 f67_sig xs) = f67_entry_B k (f67_o_l0 G_l0) xs.1 := by kernel_rfl
def f67 (k : Nat) (a0 : (List Int)) : Option (Td12 × Unit) := f67_entry_B k (f67_l0 k k) a0
theorem f67_fe (k : Nat) : f67_a k [.c (f67_p 1) 0] = f67_a k (.c (f67_p 2) 0 :: .c (f67_p 6) 0 :: .c (f67_p 14) 0 :: .j (fun σ => f67_a k (.j (fun σ => (f67_C_l0 k k) (cut f67_A.loops 0 σ)) :: .blk 0 :: .c (f67_p 124) 0 :: .j (fun σ => f67_a k (.j (fun σ => (f67_C_l4 k k) (cut f67_A.loops 4 σ)) :: .blk 4 :: .c (f67_p 252) 0 :: .j (fun σ => f67_a k (.j (fun σ => (f67_C_l6 k k) (cut f67_A.loops 6 σ)) :: .b 6 (fun σ => (f67_C_b6 k) (cut f67_A.blks 6 σ)) :: f67_F_b6 k) .nx σ) :: f67_F_b6 k) .nx σ) :: .c (f67_p 252) 0 :: .j (fun σ => f67_a k (.j (fun σ => (f67_C_l6 k k) (cut f67_A.loops 6 σ)) :: .b 6 (fun σ => (f67_C_b6 k) (cut f67_A.blks 6 σ)) :: f67_F_b6 k) .nx σ) :: f67_F_b6 k) .nx σ) :: .c (f67_p 124) 0 :: .j (fun σ => f67_a k (.j (fun σ => (f67_C_l4 k k) (cut f67_A.loops 4 σ)) :: .blk 4 :: .c (f67_p 252) 0 :: .j (fun σ => f67_a k (.j (fun σ => (f67_C_l6 k k) (cut f67_A.loops 6 σ)) :: .b 6 (fun σ => (f67_C_b6 k) (cut f67_A.blks 6 σ)) :: f67_F_b6 k) .nx σ) :: f67_F_b6 k) .nx σ) :: .c (f67_p 252) 0 :: .j (fun σ => f67_a k (.j (fun σ => (f67_C_l6 k k) (cut f67_A.loops 6 σ)) :: .b 6 (fun σ => (f67_C_b6 k) (cut f67_A.blks 6 σ)) :: f67_F_b6 k) .nx σ) :: f67_F_b6 k) := (Eq.trans ap_sq (ap_cons _ (Eq.trans ap_sq (ap_cons _ (Eq.trans ap_sq (ap_cons _ (Eq.trans ap_sq (Eq.trans (ap_bl 0) (Eq.trans (ap_j (Eq.trans (ap_lp (C := (f67_C_l0 k)) (fun _ _ => rfl)) (ap_cons _ (ap_cons _ (Eq.trans ap_sq (Eq.trans ap_sq (ap_cons _ (Eq.trans (ap_bl 4) (Eq.trans (ap_j (Eq.trans (ap_lp (C := (f67_C_l4 k)) (fun _ _ => rfl)) (ap_cons _ (ap_cons _ (Eq.trans ap_sq (Eq.trans ap_sq (ap_cons _ (Eq.trans (ap_bl 6) (Eq.trans (ap_j (Eq.trans (ap_lp (C := (f67_C_l6 k)) (fun _ _ => rfl)) (ap_cons _ (Eq.trans (ap_blkb (C := (f67_C_b6 k)) (fun _ => rfl)) (ap_cons _ (f67_f_b6 k)))))) (ap_cons _ (f67_f_b6 k))))))))))) (ap_cons _ (Eq.trans ap_sq (Eq.trans ap_sq (ap_cons _ (Eq.trans (ap_bl 6) (Eq.trans (ap_j (Eq.trans (ap_lp (C := (f67_C_l6 k)) (fun _ _ => rfl)) (ap_cons _ (Eq.trans (ap_blkb (C := (f67_C_b6 k)) (fun _ => rfl)) (ap_cons _ (f67_f_b6 k)))))) (ap_cons _ (f67_f_b6 k))))))))))))))))) (ap_cons _ (Eq.trans ap_sq (Eq.trans ap_sq (ap_cons _ (Eq.trans (ap_bl 4) (Eq.trans (ap_j (Eq.trans (ap_lp (C := (f67_C_l4 k)) (fun _ _ => rfl)) (ap_cons _ (ap_cons _ (Eq.trans ap_sq (Eq.trans ap_sq (ap_cons _ (Eq.trans (ap_bl 6) (Eq.trans (ap_j (Eq.trans (ap_lp (C := (f67_C_l6 k)) (fun _ _ => rfl)) (ap_cons _ (Eq.trans (ap_blkb (C := (f67_C_b6 k)) (fun _ => rfl)) (ap_cons _ (f67_f_b6 k)))))) (ap_cons _ (f67_f_b6 k))))))))))) (ap_cons _ (Eq.trans ap_sq (Eq.trans ap_sq (ap_cons _ (Eq.trans (ap_bl 6) (Eq.trans (ap_j (Eq.trans (ap_lp (C := (f67_C_l6 k)) (fun _ _ => rfl)) (ap_cons _ (Eq.trans (ap_blkb (C := (f67_C_b6 k)) (fun _ => rfl)) (ap_cons _ (f67_f_b6 k)))))) (ap_cons _ (f67_f_b6 k)))))))))))))))))))))))
theorem f67_eq (k : Nat) (xs : DL f67_sig) : den T f67_Y (f67_E k) f67_A k f67_c 0 (σ0 124 384 f67_sig xs) (Kfin T f67_rs f67_ts) = f67 k xs.1 :=
  Eq.trans (Eq.trans den_sb (ap_at (f67_fe k) _)) ((f67_entry_P k (f67_C_l0 k k) (f67_C_l4 k k) (f67_C_l6 k k) (f67_C_b6 k) xs).trans (by rw [f67_l0_E k k] <;> rfl))
noncomputable def f67_con (k : Nat) : Con := ⟨f67_sig, f67_rs, fun xs => f67 k xs.1⟩
theorem f67_ok (k : Nat) : PureOK Try.prog 67 f67_sig f67_rs (fun xs => f67 k xs.1) :=
  (pure_of_den (k := k) (A := f67_A) (T := T) (Y := f67_Y) (E := f67_E k) (M := 384) (ts := f67_ts) T_ok ⟨f51_ok k, f105_ok k, f126_ok k, f131_ok k, f132_ok k, trivial⟩ ⟨f51_ent, f105_ent, f126_ent, f131_ent, f132_ent, trivial⟩ mixed (f := 67) (fn := Try.f67) (c := f67_c) (by kernel_rfl) (by kernel_rfl) (by kernel_rfl) (by decide) (by kernel_rfl)).congr fun xs => (f67_eq k xs).symm
theorem f67_ent : Ent Try.prog 67 := fun args w => by kernel_rfl
/-! ### terrier/terrkeep4.Plain: function 14 -/
noncomputable def f14_c : Code := Try.f14.body.getD .skip
noncomputable abbrev f14_p (n : Nat) : Code := sb f14_c n
abbrev f14_sig : List PT := [(false, Tq1)]
abbrev f14_rs : List RT := [.d true Tq9]
abbrev f14_ts : List RV := [.cell 2 27]
abbrev f14_S := St → Option (RDL f14_rs)
abbrev f14_L := List (Fr (RDL f14_rs))
def f14_Y : Tys := []
noncomputable def f14_E (k : Nat) : Env := [(67, .c (f67_con k))]
def f14_A : Ann := {}
noncomputable abbrev f14_a (k : Nat) (F : f14_L) : Kont (RDL f14_rs) := ap T f14_Y (f14_E k) f14_A k (Kfin T f14_rs f14_ts) F
def f14_entry_B (k : Nat) (a0 : (List Int)) : Option (Td12 × Unit) := ((f67 k a0).bind fun r1 => some ((r1.1.1, (r1.1.2.1, [])), ()))
theorem f14_entry_P (k : Nat) (xs : DL f14_sig) : f14_a k (.c (f14_p 1) 0 :: []) .nx (σ0 8 32 f14_sig xs) = f14_entry_B k xs.1 := by kernel_rfl
def f14 (k : Nat) (a0 : (List Int)) : Option (Td12 × Unit) := f14_entry_B k a0
theorem f14_eq (k : Nat) (xs : DL f14_sig) : den T f14_Y (f14_E k) f14_A k f14_c 0 (σ0 8 32 f14_sig xs) (Kfin T f14_rs f14_ts) = f14 k xs.1 :=
  Eq.trans (Eq.trans den_sb (ap_at (ap_cons _ rfl) _)) ((f14_entry_P k xs).trans (by rfl))
noncomputable def f14_con (k : Nat) : Con := ⟨f14_sig, f14_rs, fun xs => f14 k xs.1⟩
theorem f14_ok (k : Nat) : PureOK Try.prog 14 f14_sig f14_rs (fun xs => f14 k xs.1) :=
  (pure_of_den (k := k) (A := f14_A) (T := T) (Y := f14_Y) (E := f14_E k) (M := 32) (ts := f14_ts) T_ok ⟨f67_ok k, trivial⟩ ⟨f67_ent, trivial⟩ mixed (f := 14) (fn := Try.f14) (c := f14_c) (by kernel_rfl) (by kernel_rfl) (by kernel_rfl) (by decide) (by kernel_rfl)).congr fun xs => (f14_eq k xs).symm
theorem f14_ent : Ent Try.prog 14 := fun args w => by kernel_rfl
/-! ### terrier/timed.Check: function 134 -/
noncomputable def f134_c : Code := Try.f134.body.getD .skip
noncomputable abbrev f134_p (n : Nat) : Code := sb f134_c n
abbrev f134_sig : List PT := [(true, Tq16)]
abbrev f134_rs : List RT := [.d false (.int .i64)]
abbrev f134_ts : List RV := [.tmp 2]
abbrev f134_S := St → Option (RDL f134_rs)
abbrev f134_L := List (Fr (RDL f134_rs))
def f134_Y : Tys := []
noncomputable def f134_E (k : Nat) : Env := []
def f134_A : Ann := { regs := [(1, { slots := [(1, .id), (18, .bool)], keys := [(1, [.id, .id, .val false Tq13])] }), (3, { slots := [(1, .id), (26, .bool)], keys := [(1, [.id, .id, .val false Tq13])] }), (8, { slots := [(1, .id), (3, .id), (4, .id), (28, .val false Tq13), (29, .id), (30, .id), (73, .bool)], keys := [(1, [.id, .id, .val false Tq13]), (4, [])] }), (10, { slots := [(1, .id), (28, .val false Tq13), (29, .id), (30, .id), (87, .bool)], keys := [(1, [.id, .id, .val false Tq13])] })], loops := [(0, { slots := [(1, .id), (28, .val false Tq13), (29, .id), (30, .id)], keys := [(1, [.id, .id, .val false Tq13])] })] }
noncomputable abbrev f134_a (k : Nat) (F : f134_L) : Kont (RDL f134_rs) := ap T f134_Y (f134_E k) f134_A k (Kfin T f134_rs f134_ts) F
def f134_s_r1 (y1_0 : Int) (y1_1 : Int) (y1_2 : (List (Int × (Int × (Int × (Int × Int)))))) (x18 : Bool) : St := mkS 89 272 [(1, aP 1), (18, aB x18)] [(1, .box [cI y1_0, cI y1_1, cV Tq13 y1_2])]
abbrev f134_t_r1 := Int → Int → (List (Int × (Int × (Int × (Int × Int))))) → Bool → Option (Int × Unit)
abbrev f134_o_r1 (R : f134_S) : f134_t_r1 := (fun y1_0 y1_1 y1_2 x18 => R (f134_s_r1 y1_0 y1_1 y1_2 x18))
noncomputable def f134_Q_r1 (k : Nat) : f134_L := [.c (f134_p 13) 0, .c (f134_p 7) 0]
noncomputable def f134_C_r1 (k : Nat) : f134_S := fun σ => f134_a k (f134_Q_r1 k) .nx σ
def f134_s_r3 (y1_0 : Int) (y1_1 : Int) (y1_2 : (List (Int × (Int × (Int × (Int × Int)))))) (x26 : Bool) : St := mkS 89 272 [(1, aP 1), (26, aB x26)] [(1, .box [cI y1_0, cI y1_1, cV Tq13 y1_2])]
abbrev f134_t_r3 := Int → Int → (List (Int × (Int × (Int × (Int × Int))))) → Bool → Option (Int × Unit)
abbrev f134_o_r3 (R : f134_S) : f134_t_r3 := (fun y1_0 y1_1 y1_2 x26 => R (f134_s_r3 y1_0 y1_1 y1_2 x26))
noncomputable def f134_Q_r3 (k : Nat) : f134_L := [.c (f134_p 29) 0, .c (f134_p 15) 0]
noncomputable def f134_C_r3 (k : Nat) : f134_S := fun σ => f134_a k (f134_Q_r3 k) .nx σ
def f134_s_l0 (y1_0 : Int) (y1_1 : Int) (y1_2 : (List (Int × (Int × (Int × (Int × Int)))))) (x29 : Int) (x30 : Int) : St := mkS 89 272 [(1, aP 1), (28, aV Tq13 y1_2), (29, aI x29), (30, aI x30)] [(1, .box [cI y1_0, cI y1_1, cV Tq13 y1_2])]
abbrev f134_t_l0 := Int → Int → (List (Int × (Int × (Int × (Int × Int))))) → Int → Int → Option (Int × Unit)
abbrev f134_o_l0 (R : f134_S) : f134_t_l0 := (fun y1_0 y1_1 y1_2 x29 x30 => R (f134_s_l0 y1_0 y1_1 y1_2 x29 x30))
noncomputable def f134_Q_l0 (k : Nat) (R_l0 : f134_S) : f134_L := [.c (f134_p 244) 0, .j (fun σ => R_l0 (cut f134_A.loops 0 σ)), .blk 0, .c (f134_p 31) 0]
noncomputable def f134_C_l0 (k : Nat) (n : Nat) (σ : St) : Option (RDL f134_rs) := loopK (fun σ K => den T f134_Y (f134_E k) f134_A k (f134_p 244) 0 σ K) (cut f134_A.loops 0) (f134_a k [.blk 0, .c (f134_p 31) 0]) n σ
def f134_s_r8 (y1_0 : Int) (y1_1 : Int) (y1_2 : (List (Int × (Int × (Int × (Int × Int)))))) (y4_0 : Int) (y4_1 : Int) (y4_2 : Int) (y4_3 : Int) (y4_4 : Int) (x29 : Int) (x3 : Int) (x73 : Bool) : St := mkS 89 272 [(1, aP 1), (3, aI x3), (4, aP 4), (28, aV Tq13 y1_2), (29, aI x29), (30, aI x3), (73, aB x73)] [(1, .box [cI y1_0, cI y1_1, cV Tq13 y1_2]), (4, .box [cI y4_0, cI y4_1, cI y4_2, cI y4_3, cI y4_4])]
abbrev f134_t_r8 := Int → Int → (List (Int × (Int × (Int × (Int × Int))))) → Int → Int → Int → Int → Int → Int → Int → Bool → Option (Int × Unit)
abbrev f134_o_r8 (R : f134_S) : f134_t_r8 := (fun y1_0 y1_1 y1_2 y4_0 y4_1 y4_2 y4_3 y4_4 x29 x3 x73 => R (f134_s_r8 y1_0 y1_1 y1_2 y4_0 y4_1 y4_2 y4_3 y4_4 x29 x3 x73))
noncomputable def f134_Q_r8 (k : Nat) (R_l0 : f134_S) : f134_L := [.c (f134_p 31333) 1, .c (f134_p 15667) 1, .blk 1, .c (f134_p 1959) 0, .j (fun σ => R_l0 (cut f134_A.loops 0 σ)), .blk 0, .c (f134_p 31) 0]
noncomputable def f134_C_r8 (k : Nat) (R_l0 : f134_S) : f134_S := fun σ => f134_a k (f134_Q_r8 k R_l0) .nx σ
def f134_s_r10 (y1_0 : Int) (y1_1 : Int) (y1_2 : (List (Int × (Int × (Int × (Int × Int)))))) (x29 : Int) (x30 : Int) (x87 : Bool) : St := mkS 89 272 [(1, aP 1), (28, aV Tq13 y1_2), (29, aI x29), (30, aI x30), (87, aB x87)] [(1, .box [cI y1_0, cI y1_1, cV Tq13 y1_2])]
abbrev f134_t_r10 := Int → Int → (List (Int × (Int × (Int × (Int × Int))))) → Int → Int → Bool → Option (Int × Unit)
abbrev f134_o_r10 (R : f134_S) : f134_t_r10 := (fun y1_0 y1_1 y1_2 x29 x30 x87 => R (f134_s_r10 y1_0 y1_1 y1_2 x29 x30 x87))
noncomputable def f134_Q_r10 (k : Nat) (R_l0 : f134_S) : f134_L := [.c (f134_p 31335) 1, .blk 1, .c (f134_p 1959) 0, .j (fun σ => R_l0 (cut f134_A.loops 0 σ)), .blk 0, .c (f134_p 31) 0]
noncomputable def f134_C_r10 (k : Nat) (R_l0 : f134_S) : f134_S := fun σ => f134_a k (f134_Q_r10 k R_l0) .nx σ
noncomputable def f134_F_r3 (k : Nat) (G_l0 : f134_S) : f134_L := .c (f134_p 29) 0 :: .c (f134_p 60) 0 :: .j (fun σ => f134_a k (.j (fun σ => G_l0 (cut f134_A.loops 0 σ)) :: .blk 0 :: .c (f134_p 31) 0 :: []) .nx σ) :: .c (f134_p 31) 0 :: []
theorem f134_f_r3 (k : Nat) : f134_a k (f134_Q_r3 k) = f134_a k (f134_F_r3 k (f134_C_l0 k k)) := (ap_cons _ (Eq.trans ap_sq (Eq.trans ap_sq (ap_cons _ (Eq.trans (ap_bl 0) (Eq.trans (ap_j (Eq.trans (ap_lp (C := (f134_C_l0 k)) (fun _ _ => rfl)) (ap_cons _ (ap_cons _ (ap_cons _ rfl))))) (ap_cons _ (ap_cons _ rfl))))))))
noncomputable def f134_F_r1 (k : Nat) (G_r3 G_l0 : f134_S) : f134_L := .c (f134_p 13) 0 :: .c (f134_p 28) 0 :: .j G_r3 :: f134_F_r3 k G_l0
theorem f134_f_r1 (k : Nat) : f134_a k (f134_Q_r1 k) = f134_a k (f134_F_r1 k (f134_C_r3 k) (f134_C_l0 k k)) := (ap_cons _ (Eq.trans ap_sq (Eq.trans ap_sq (ap_cons _ (Eq.trans (ap_pass (C := (f134_C_r3 k)) (fun _ => rfl)) (ap_cons _ (f134_f_r3 k)))))))
noncomputable def f134_F_r10 (k : Nat) (G_l0 : f134_S) : f134_L := .c (f134_p 31335) 1 :: .blk 1 :: .c (f134_p 1959) 0 :: .j (fun σ => G_l0 (cut f134_A.loops 0 σ)) :: .blk 0 :: .c (f134_p 31) 0 :: []
theorem f134_f_r10 (k : Nat) (R_l0 : f134_S) : f134_a k (f134_Q_r10 k R_l0) = f134_a k (f134_F_r10 k R_l0) := (ap_cons _ (ap_cons _ (ap_cons _ (ap_cons _ (ap_cons _ (ap_cons _ rfl))))))
noncomputable def f134_F_r8 (k : Nat) (G_l0 G_r10 : f134_S) : f134_L := .c (f134_p 31333) 1 :: .c (f134_p 31334) 1 :: .j G_r10 :: f134_F_r10 k G_l0
theorem f134_f_r8 (k : Nat) (R_l0 : f134_S) : f134_a k (f134_Q_r8 k R_l0) = f134_a k (f134_F_r8 k R_l0 (f134_C_r10 k R_l0)) := (ap_cons _ (Eq.trans ap_sq (ap_cons _ (Eq.trans (ap_pass (C := (f134_C_r10 k R_l0)) (fun _ => rfl)) (ap_cons _ (f134_f_r10 k R_l0))))))
noncomputable def f134_F_l0 (k : Nat) (G_l0 G_r8 G_r10 : f134_S) : f134_L := .c (f134_p 488) 0 :: .c (f134_p 978) 0 :: .j (fun σ => f134_a k (.c (f134_p 7832) 1 :: .c (f134_p 31332) 1 :: .j G_r8 :: f134_F_r8 k G_l0 G_r10) .nx σ) :: .c (f134_p 1959) 0 :: .j (fun σ => G_l0 (cut f134_A.loops 0 σ)) :: .blk 0 :: .c (f134_p 31) 0 :: []
theorem f134_f_l0 (k : Nat) (R_l0 : f134_S) : f134_a k (f134_Q_l0 k R_l0) = f134_a k (f134_F_l0 k R_l0 (f134_C_r8 k R_l0) (f134_C_r10 k R_l0)) := (Eq.trans ap_sq (ap_cons _ (Eq.trans ap_sq (ap_cons _ (Eq.trans ap_sq (Eq.trans (ap_bl 1) (Eq.trans (ap_j (Eq.trans ap_sq (ap_cons _ (Eq.trans ap_sq (Eq.trans ap_sq (ap_cons _ (Eq.trans (ap_pass (C := (f134_C_r8 k R_l0)) (fun _ => rfl)) (ap_cons _ (f134_f_r8 k R_l0))))))))) (ap_cons _ (ap_cons _ (ap_cons _ (ap_cons _ (ap_cons _ rfl))))))))))))
def f134_entry_B (k : Nat) (g_r1 : f134_t_r1) (a0 : (Int × Td18)) : Option (Int × Unit) := (if a0.1 < 0 then (g_r1 a0.1 a0.2.1 a0.2.2 true) else (if 200 < a0.1 then (g_r1 a0.1 a0.2.1 a0.2.2 true) else (g_r1 a0.1 a0.2.1 a0.2.2 (decide (400 < (a0.2.2.length : Int))))))
def f134_r1_B (k : Nat) (g_r3 : f134_t_r3) (y1_0 : Int) (y1_1 : Int) (y1_2 : (List (Int × (Int × (Int × (Int × Int)))))) (x18 : Bool) : Option (Int × Unit) := (if x18 = true then some (2, ()) else (if y1_1 < 0 then (g_r3 y1_0 y1_1 y1_2 true) else (g_r3 y1_0 y1_1 y1_2 (decide (1073741824 < y1_1)))))
def f134_r3_B (k : Nat) (g_l0 : f134_t_l0) (y1_0 : Int) (y1_1 : Int) (y1_2 : (List (Int × (Int × (Int × (Int × Int)))))) (x26 : Bool) : Option (Int × Unit) := (if x26 = true then some (1, ()) else (g_l0 y1_0 y1_1 y1_2 (y1_2.length : Int) 0))
def f134_l0_B (k : Nat) (g_r8 : f134_t_r8) (y1_0 : Int) (y1_1 : Int) (y1_2 : (List (Int × (Int × (Int × (Int × Int)))))) (x29 : Int) (x30 : Int) : Option (Int × Unit) := (if x30 < x29 then (if 0 ≤ x30 then (if x30 < (y1_2.length : Int) then (if ((y1_2.getD (x30).toNat (0, (0, (0, (0, 0))))).1) < 0 then (g_r8 y1_0 y1_1 y1_2 ((y1_2.getD (x30).toNat (0, (0, (0, (0, 0))))).1) (((y1_2.getD (x30).toNat (0, (0, (0, (0, 0))))).2).1) ((((y1_2.getD (x30).toNat (0, (0, (0, (0, 0))))).2).2).1) (((((y1_2.getD (x30).toNat (0, (0, (0, (0, 0))))).2).2).2).1) (((((y1_2.getD (x30).toNat (0, (0, (0, (0, 0))))).2).2).2).2) x29 x30 true) else (if (((y1_2.getD (x30).toNat (0, (0, (0, (0, 0))))).2).1) < 0 then (g_r8 y1_0 y1_1 y1_2 ((y1_2.getD (x30).toNat (0, (0, (0, (0, 0))))).1) (((y1_2.getD (x30).toNat (0, (0, (0, (0, 0))))).2).1) ((((y1_2.getD (x30).toNat (0, (0, (0, (0, 0))))).2).2).1) (((((y1_2.getD (x30).toNat (0, (0, (0, (0, 0))))).2).2).2).1) (((((y1_2.getD (x30).toNat (0, (0, (0, (0, 0))))).2).2).2).2) x29 x30 true) else (if y1_0 ≤ ((y1_2.getD (x30).toNat (0, (0, (0, (0, 0))))).1) then (g_r8 y1_0 y1_1 y1_2 ((y1_2.getD (x30).toNat (0, (0, (0, (0, 0))))).1) (((y1_2.getD (x30).toNat (0, (0, (0, (0, 0))))).2).1) ((((y1_2.getD (x30).toNat (0, (0, (0, (0, 0))))).2).2).1) (((((y1_2.getD (x30).toNat (0, (0, (0, (0, 0))))).2).2).2).1) (((((y1_2.getD (x30).toNat (0, (0, (0, (0, 0))))).2).2).2).2) x29 x30 true) else (if y1_0 ≤ (((y1_2.getD (x30).toNat (0, (0, (0, (0, 0))))).2).1) then (g_r8 y1_0 y1_1 y1_2 ((y1_2.getD (x30).toNat (0, (0, (0, (0, 0))))).1) (((y1_2.getD (x30).toNat (0, (0, (0, (0, 0))))).2).1) ((((y1_2.getD (x30).toNat (0, (0, (0, (0, 0))))).2).2).1) (((((y1_2.getD (x30).toNat (0, (0, (0, (0, 0))))).2).2).2).1) (((((y1_2.getD (x30).toNat (0, (0, (0, (0, 0))))).2).2).2).2) x29 x30 true) else (if ((((y1_2.getD (x30).toNat (0, (0, (0, (0, 0))))).2).2).1) < 0 then (g_r8 y1_0 y1_1 y1_2 ((y1_2.getD (x30).toNat (0, (0, (0, (0, 0))))).1) (((y1_2.getD (x30).toNat (0, (0, (0, (0, 0))))).2).1) ((((y1_2.getD (x30).toNat (0, (0, (0, (0, 0))))).2).2).1) (((((y1_2.getD (x30).toNat (0, (0, (0, (0, 0))))).2).2).2).1) (((((y1_2.getD (x30).toNat (0, (0, (0, (0, 0))))).2).2).2).2) x29 x30 true) else (if 1073741824 < (((((y1_2.getD (x30).toNat (0, (0, (0, (0, 0))))).2).2).2).1) then (g_r8 y1_0 y1_1 y1_2 ((y1_2.getD (x30).toNat (0, (0, (0, (0, 0))))).1) (((y1_2.getD (x30).toNat (0, (0, (0, (0, 0))))).2).1) ((((y1_2.getD (x30).toNat (0, (0, (0, (0, 0))))).2).2).1) (((((y1_2.getD (x30).toNat (0, (0, (0, (0, 0))))).2).2).2).1) (((((y1_2.getD (x30).toNat (0, (0, (0, (0, 0))))).2).2).2).2) x29 x30 true) else (g_r8 y1_0 y1_1 y1_2 ((y1_2.getD (x30).toNat (0, (0, (0, (0, 0))))).1) (((y1_2.getD (x30).toNat (0, (0, (0, (0, 0))))).2).1) ((((y1_2.getD (x30).toNat (0, (0, (0, (0, 0))))).2).2).1) (((((y1_2.getD (x30).toNat (0, (0, (0, (0, 0))))).2).2).2).1) (((((y1_2.getD (x30).toNat (0, (0, (0, (0, 0))))).2).2).2).2) x29 x30 (decide ((((((y1_2.getD (x30).toNat (0, (0, (0, (0, 0))))).2).2).2).1) ≤ ((((y1_2.getD (x30).toNat (0, (0, (0, (0, 0))))).2).2).1)))))))))) else none) else none) else some (0, ()))
def f134_r8_B (k : Nat) (g_r10 : f134_t_r10) (y1_0 : Int) (y1_1 : Int) (y1_2 : (List (Int × (Int × (Int × (Int × Int)))))) (y4_0 : Int) (y4_1 : Int) (y4_2 : Int) (y4_3 : Int) (y4_4 : Int) (x29 : Int) (x3 : Int) (x73 : Bool) : Option (Int × Unit) := (if x73 = true then some (1, ()) else (if 0 < x3 then (if 0 ≤ (w64 (x3 - 1)) then (if (w64 (x3 - 1)) < (y1_2.length : Int) then (g_r10 y1_0 y1_1 y1_2 x29 x3 (decide (y4_2 < ((((y1_2.getD (w64 (x3 - 1)).toNat (0, (0, (0, (0, 0))))).2).2).1)))) else none) else none) else (g_r10 y1_0 y1_1 y1_2 x29 x3 false)))
def f134_r10_B (k : Nat) (g_l0 : f134_t_l0) (y1_0 : Int) (y1_1 : Int) (y1_2 : (List (Int × (Int × (Int × (Int × Int)))))) (x29 : Int) (x30 : Int) (x87 : Bool) : Option (Int × Unit) := (if x87 = true then some (9, ()) else (g_l0 y1_0 y1_1 y1_2 x29 (w64 (x30 + 1))))
theorem f134_r10_P (k : Nat) (G_l0 : f134_S) : f134_o_r10 (fun σ => f134_a k (f134_F_r10 k G_l0) .nx σ) = f134_r10_B k (f134_o_l0 G_l0) := by kernel_rfl
def f134_r10 (k : Nat) (r_l0 : f134_t_l0) : f134_t_r10 := f134_r10_B k r_l0
theorem f134_r10_E (k : Nat) (R_l0 : f134_S) : f134_o_r10 (f134_C_r10 k R_l0) = f134_r10 k (f134_o_l0 R_l0) :=
  Eq.trans (congrArg f134_o_r10 (ap_fn (f134_f_r10 k R_l0))) ((f134_r10_P k R_l0).trans (by rfl))
theorem f134_r8_P (k : Nat) (G_l0 G_r10 : f134_S) : f134_o_r8 (fun σ => f134_a k (f134_F_r8 k G_l0 G_r10) .nx σ) = f134_r8_B k (f134_o_r10 G_r10) := by kernel_rfl
def f134_r8 (k : Nat) (r_l0 : f134_t_l0) : f134_t_r8 := f134_r8_B k (f134_r10 k r_l0)
theorem f134_r8_E (k : Nat) (R_l0 : f134_S) : f134_o_r8 (f134_C_r8 k R_l0) = f134_r8 k (f134_o_l0 R_l0) :=
  Eq.trans (congrArg f134_o_r8 (ap_fn (f134_f_r8 k R_l0))) ((f134_r8_P k R_l0 (f134_C_r10 k R_l0)).trans (by rw [f134_r10_E k R_l0] <;> rfl))
theorem f134_l0_P (k : Nat) (G_l0 G_r8 G_r10 : f134_S) : f134_o_l0 (fun σ => f134_a k (f134_F_l0 k G_l0 G_r8 G_r10) .nx σ) = f134_l0_B k (f134_o_r8 G_r8) := by kernel_rfl
def f134_l0 (k : Nat) : Nat → f134_t_l0
  | 0 => fun _ _ _ _ _ => none
  | n + 1 => f134_l0_B k (f134_r8 k (f134_l0 k n))
theorem f134_l0_E (k : Nat) : ∀ n, f134_o_l0 (f134_C_l0 k n) = f134_l0 k n
  | 0 => rfl
  | n + 1 =>
    Eq.trans (congrArg f134_o_l0 (Eq.trans (b := fun σ => f134_a k (f134_Q_l0 k (f134_C_l0 k n)) .nx σ) (by kernel_rfl) (ap_fn (f134_f_l0 k (f134_C_l0 k n))))) ((f134_l0_P k (f134_C_l0 k n) (f134_C_r8 k (f134_C_l0 k n)) (f134_C_r10 k (f134_C_l0 k n))).trans (by rw [f134_r8_E k (f134_C_l0 k n), f134_l0_E k n] <;> rfl))
theorem f134_r3_P (k : Nat) (G_l0 : f134_S) : f134_o_r3 (fun σ => f134_a k (f134_F_r3 k G_l0) .nx σ) = f134_r3_B k (f134_o_l0 G_l0) := by kernel_rfl
def f134_r3 (k : Nat) : f134_t_r3 := f134_r3_B k (f134_l0 k k)
theorem f134_r3_E (k : Nat) : f134_o_r3 (f134_C_r3 k) = f134_r3 k :=
  Eq.trans (congrArg f134_o_r3 (ap_fn (f134_f_r3 k))) ((f134_r3_P k (f134_C_l0 k k)).trans (by rw [f134_l0_E k k] <;> rfl))
theorem f134_r1_P (k : Nat) (G_r3 G_l0 : f134_S) : f134_o_r1 (fun σ => f134_a k (f134_F_r1 k G_r3 G_l0) .nx σ) = f134_r1_B k (f134_o_r3 G_r3) := by kernel_rfl
def f134_r1 (k : Nat) : f134_t_r1 := f134_r1_B k (f134_r3 k)
theorem f134_r1_E (k : Nat) : f134_o_r1 (f134_C_r1 k) = f134_r1 k :=
  Eq.trans (congrArg f134_o_r1 (ap_fn (f134_f_r1 k))) ((f134_r1_P k (f134_C_r3 k) (f134_C_l0 k k)).trans (by rw [f134_r3_E k] <;> rfl))
theorem f134_entry_P (k : Nat) (G_r1 G_r3 G_l0 : f134_S) (xs : DL f134_sig) : f134_a k (.c (f134_p 2) 0 :: .c (f134_p 12) 0 :: .j G_r1 :: f134_F_r1 k G_r3 G_l0) .nx (σ0 89 272 f134_sig xs) = f134_entry_B k (f134_o_r1 G_r1) xs.1 := by kernel_rfl
def f134 (k : Nat) (a0 : (Int × Td18)) : Option (Int × Unit) := f134_entry_B k (f134_r1 k) a0
theorem f134_fe (k : Nat) : f134_a k [.c (f134_p 1) 0] = f134_a k (.c (f134_p 2) 0 :: .c (f134_p 12) 0 :: .j (f134_C_r1 k) :: f134_F_r1 k (f134_C_r3 k) (f134_C_l0 k k)) := (Eq.trans ap_sq (ap_cons _ (Eq.trans ap_sq (Eq.trans ap_sq (ap_cons _ (Eq.trans (ap_pass (C := (f134_C_r1 k)) (fun _ => rfl)) (ap_cons _ (f134_f_r1 k))))))))
theorem f134_eq (k : Nat) (xs : DL f134_sig) : den T f134_Y (f134_E k) f134_A k f134_c 0 (σ0 89 272 f134_sig xs) (Kfin T f134_rs f134_ts) = f134 k xs.1 :=
  Eq.trans (Eq.trans den_sb (ap_at (f134_fe k) _)) ((f134_entry_P k (f134_C_r1 k) (f134_C_r3 k) (f134_C_l0 k k) xs).trans (by rw [f134_r1_E k] <;> rfl))
noncomputable def f134_con (k : Nat) : Con := ⟨f134_sig, f134_rs, fun xs => f134 k xs.1⟩
theorem f134_ok (k : Nat) : PureOK Try.prog 134 f134_sig f134_rs (fun xs => f134 k xs.1) :=
  (pure_of_den (k := k) (A := f134_A) (T := T) (Y := f134_Y) (E := f134_E k) (M := 272) (ts := f134_ts) T_ok trivial trivial mixed (f := 134) (fn := Try.f134) (c := f134_c) (by kernel_rfl) (by kernel_rfl) (by kernel_rfl) (by decide) (by kernel_rfl)).congr fun xs => (f134_eq k xs).symm
theorem f134_ent : Ent Try.prog 134 := fun args w => by kernel_rfl
/-! ### terrier/timed.valid: function 68 -/
noncomputable def f68_c : Code := Try.f68.body.getD .skip
noncomputable abbrev f68_p (n : Nat) : Code := sb f68_c n
abbrev f68_sig : List PT := [(true, Tq16), (false, Tq1)]
abbrev f68_rs : List RT := [.d false (.int .i64)]
abbrev f68_ts : List RV := [.tmp 4]
abbrev f68_S := St → Option (RDL f68_rs)
abbrev f68_L := List (Fr (RDL f68_rs))
def f68_Y : Tys := []
noncomputable def f68_E (k : Nat) : Env := [(134, .c (f134_con k))]
def f68_A : Ann := { loops := [(0, { slots := [(2, .id), (13, .val false (.int .i64)), (14, .id), (15, .id)], keys := [(2, [.id, .id, .val false Tq13])] })], regs := [(7, { slots := [(2, .id), (13, .val false (.int .i64)), (14, .id), (15, .id), (26, .bool)], keys := [(2, [.id, .id, .val false Tq13])] })] }
noncomputable abbrev f68_a (k : Nat) (F : f68_L) : Kont (RDL f68_rs) := ap T f68_Y (f68_E k) f68_A k (Kfin T f68_rs f68_ts) F
def f68_s_l0 (y2_0 : Int) (y2_1 : Int) (y2_2 : (List (Int × (Int × (Int × (Int × Int)))))) (x13 : (List Int)) (x14 : Int) (x15 : Int) : St := mkS 28 96 [(2, aP 2), (13, aV (.int .i64) x13), (14, aI x14), (15, aI x15)] [(2, .box [cI y2_0, cI y2_1, cV Tq13 y2_2])]
abbrev f68_t_l0 := Int → Int → (List (Int × (Int × (Int × (Int × Int))))) → (List Int) → Int → Int → Option (Int × Unit)
abbrev f68_o_l0 (R : f68_S) : f68_t_l0 := (fun y2_0 y2_1 y2_2 x13 x14 x15 => R (f68_s_l0 y2_0 y2_1 y2_2 x13 x14 x15))
noncomputable def f68_Q_l0 (k : Nat) (R_l0 : f68_S) : f68_L := [.c (f68_p 116) 0, .j (fun σ => R_l0 (cut f68_A.loops 0 σ)), .blk 0, .c (f68_p 15) 0]
noncomputable def f68_C_l0 (k : Nat) (n : Nat) (σ : St) : Option (RDL f68_rs) := loopK (fun σ K => den T f68_Y (f68_E k) f68_A k (f68_p 116) 0 σ K) (cut f68_A.loops 0) (f68_a k [.blk 0, .c (f68_p 15) 0]) n σ
def f68_s_r7 (y2_0 : Int) (y2_1 : Int) (y2_2 : (List (Int × (Int × (Int × (Int × Int)))))) (x13 : (List Int)) (x14 : Int) (x15 : Int) (x26 : Bool) : St := mkS 28 96 [(2, aP 2), (13, aV (.int .i64) x13), (14, aI x14), (15, aI x15), (26, aB x26)] [(2, .box [cI y2_0, cI y2_1, cV Tq13 y2_2])]
abbrev f68_t_r7 := Int → Int → (List (Int × (Int × (Int × (Int × Int))))) → (List Int) → Int → Int → Bool → Option (Int × Unit)
abbrev f68_o_r7 (R : f68_S) : f68_t_r7 := (fun y2_0 y2_1 y2_2 x13 x14 x15 x26 => R (f68_s_r7 y2_0 y2_1 y2_2 x13 x14 x15 x26))
noncomputable def f68_Q_r7 (k : Nat) (R_l0 : f68_S) : f68_L := [.c (f68_p 7475) 1, .blk 1, .c (f68_p 935) 0, .j (fun σ => R_l0 (cut f68_A.loops 0 σ)), .blk 0, .c (f68_p 15) 0]
noncomputable def f68_C_r7 (k : Nat) (R_l0 : f68_S) : f68_S := fun σ => f68_a k (f68_Q_r7 k R_l0) .nx σ
noncomputable def f68_F_r7 (k : Nat) (G_l0 : f68_S) : f68_L := .c (f68_p 7475) 1 :: .blk 1 :: .c (f68_p 935) 0 :: .j (fun σ => G_l0 (cut f68_A.loops 0 σ)) :: .blk 0 :: .c (f68_p 15) 0 :: []
theorem f68_f_r7 (k : Nat) (R_l0 : f68_S) : f68_a k (f68_Q_r7 k R_l0) = f68_a k (f68_F_r7 k R_l0) := (ap_cons _ (ap_cons _ (ap_cons _ (ap_cons _ (ap_cons _ (ap_cons _ rfl))))))
noncomputable def f68_F_l0 (k : Nat) (G_l0 G_r7 : f68_S) : f68_L := .c (f68_p 232) 0 :: .c (f68_p 466) 0 :: .j (fun σ => f68_a k (.c (f68_p 3736) 1 :: .c (f68_p 7474) 1 :: .j G_r7 :: f68_F_r7 k G_l0) .nx σ) :: .c (f68_p 935) 0 :: .j (fun σ => G_l0 (cut f68_A.loops 0 σ)) :: .blk 0 :: .c (f68_p 15) 0 :: []
theorem f68_f_l0 (k : Nat) (R_l0 : f68_S) : f68_a k (f68_Q_l0 k R_l0) = f68_a k (f68_F_l0 k R_l0 (f68_C_r7 k R_l0)) := (Eq.trans ap_sq (ap_cons _ (Eq.trans ap_sq (ap_cons _ (Eq.trans ap_sq (Eq.trans (ap_bl 1) (Eq.trans (ap_j (Eq.trans ap_sq (ap_cons _ (Eq.trans ap_sq (ap_cons _ (Eq.trans (ap_pass (C := (f68_C_r7 k R_l0)) (fun _ => rfl)) (ap_cons _ (f68_f_r7 k R_l0)))))))) (ap_cons _ (ap_cons _ (ap_cons _ (ap_cons _ (ap_cons _ rfl))))))))))))
def f68_entry_B (k : Nat) (g_l0 : f68_t_l0) (a0 : (Int × Td18)) (a1 : (List Int)) : Option (Int × Unit) := ((f134 k (a0.1, (a0.2.1, a0.2.2))).bind fun r1 => (if ¬ (r1.1 = 0) then some (r1.1, ()) else (g_l0 a0.1 a0.2.1 a0.2.2 a1 (a1.length : Int) 0)))
def f68_l0_B (k : Nat) (g_r7 : f68_t_r7) (y2_0 : Int) (y2_1 : Int) (y2_2 : (List (Int × (Int × (Int × (Int × Int)))))) (x13 : (List Int)) (x14 : Int) (x15 : Int) : Option (Int × Unit) := (if x15 < x14 then (if 0 ≤ x15 then (if x15 < (x13.length : Int) then (if (x13.getD (x15).toNat 0) < 0 then (g_r7 y2_0 y2_1 y2_2 x13 x14 x15 true) else (g_r7 y2_0 y2_1 y2_2 x13 x14 x15 (decide (y2_0 ≤ (x13.getD (x15).toNat 0))))) else none) else none) else some (0, ()))
def f68_r7_B (k : Nat) (g_l0 : f68_t_l0) (y2_0 : Int) (y2_1 : Int) (y2_2 : (List (Int × (Int × (Int × (Int × Int)))))) (x13 : (List Int)) (x14 : Int) (x15 : Int) (x26 : Bool) : Option (Int × Unit) := (if x26 = true then some (1, ()) else (g_l0 y2_0 y2_1 y2_2 x13 x14 (w64 (x15 + 1))))
theorem f68_r7_P (k : Nat) (G_l0 : f68_S) : f68_o_r7 (fun σ => f68_a k (f68_F_r7 k G_l0) .nx σ) = f68_r7_B k (f68_o_l0 G_l0) := by kernel_rfl
def f68_r7 (k : Nat) (r_l0 : f68_t_l0) : f68_t_r7 := f68_r7_B k r_l0
theorem f68_r7_E (k : Nat) (R_l0 : f68_S) : f68_o_r7 (f68_C_r7 k R_l0) = f68_r7 k (f68_o_l0 R_l0) :=
  Eq.trans (congrArg f68_o_r7 (ap_fn (f68_f_r7 k R_l0))) ((f68_r7_P k R_l0).trans (by rfl))
theorem f68_l0_P (k : Nat) (G_l0 G_r7 : f68_S) : f68_o_l0 (fun σ => f68_a k (f68_F_l0 k G_l0 G_r7) .nx σ) = f68_l0_B k (f68_o_r7 G_r7) := by kernel_rfl
def f68_l0 (k : Nat) : Nat → f68_t_l0
  | 0 => fun _ _ _ _ _ _ => none
  | n + 1 => f68_l0_B k (f68_r7 k (f68_l0 k n))
theorem f68_l0_E (k : Nat) : ∀ n, f68_o_l0 (f68_C_l0 k n) = f68_l0 k n
  | 0 => rfl
  | n + 1 =>
    Eq.trans (congrArg f68_o_l0 (Eq.trans (b := fun σ => f68_a k (f68_Q_l0 k (f68_C_l0 k n)) .nx σ) (by kernel_rfl) (ap_fn (f68_f_l0 k (f68_C_l0 k n))))) ((f68_l0_P k (f68_C_l0 k n) (f68_C_r7 k (f68_C_l0 k n))).trans (by rw [f68_r7_E k (f68_C_l0 k n), f68_l0_E k n] <;> rfl))
theorem f68_entry_P (k : Nat) (G_l0 : f68_S) (xs : DL f68_sig) : f68_a k (.c (f68_p 2) 0 :: .c (f68_p 6) 0 :: .c (f68_p 28) 0 :: .j (fun σ => f68_a k (.j (fun σ => G_l0 (cut f68_A.loops 0 σ)) :: .blk 0 :: .c (f68_p 15) 0 :: []) .nx σ) :: .c (f68_p 15) 0 :: []) .nx (σ0 28 96 f68_sig xs) = f68_entry_B k (f68_o_l0 G_l0) xs.1 xs.2.1 := by kernel_rfl
def f68 (k : Nat) (a0 : (Int × Td18)) (a1 : (List Int)) : Option (Int × Unit) := f68_entry_B k (f68_l0 k k) a0 a1
theorem f68_fe (k : Nat) : f68_a k [.c (f68_p 1) 0] = f68_a k (.c (f68_p 2) 0 :: .c (f68_p 6) 0 :: .c (f68_p 28) 0 :: .j (fun σ => f68_a k (.j (fun σ => (f68_C_l0 k k) (cut f68_A.loops 0 σ)) :: .blk 0 :: .c (f68_p 15) 0 :: []) .nx σ) :: .c (f68_p 15) 0 :: []) := (Eq.trans ap_sq (ap_cons _ (Eq.trans ap_sq (ap_cons _ (Eq.trans ap_sq (Eq.trans ap_sq (ap_cons _ (Eq.trans (ap_bl 0) (Eq.trans (ap_j (Eq.trans (ap_lp (C := (f68_C_l0 k)) (fun _ _ => rfl)) (ap_cons _ (ap_cons _ (ap_cons _ rfl))))) (ap_cons _ (ap_cons _ rfl)))))))))))
theorem f68_eq (k : Nat) (xs : DL f68_sig) : den T f68_Y (f68_E k) f68_A k f68_c 0 (σ0 28 96 f68_sig xs) (Kfin T f68_rs f68_ts) = f68 k xs.1 xs.2.1 :=
  Eq.trans (Eq.trans den_sb (ap_at (f68_fe k) _)) ((f68_entry_P k (f68_C_l0 k k) xs).trans (by rw [f68_l0_E k k] <;> rfl))
noncomputable def f68_con (k : Nat) : Con := ⟨f68_sig, f68_rs, fun xs => f68 k xs.1 xs.2.1⟩
theorem f68_ok (k : Nat) : PureOK Try.prog 68 f68_sig f68_rs (fun xs => f68 k xs.1 xs.2.1) :=
  (pure_of_den (k := k) (A := f68_A) (T := T) (Y := f68_Y) (E := f68_E k) (M := 96) (ts := f68_ts) T_ok ⟨f134_ok k, trivial⟩ ⟨f134_ent, trivial⟩ mixed (f := 68) (fn := Try.f68) (c := f68_c) (by kernel_rfl) (by kernel_rfl) (by kernel_rfl) (by decide) (by kernel_rfl)).congr fun xs => (f68_eq k xs).symm
theorem f68_ent : Ent Try.prog 68 := fun args w => by kernel_rfl
/-! ### math/bits.Mul64: function 169 -/
noncomputable def f169_c : Code := Try.f169.body.getD .skip
noncomputable abbrev f169_p (n : Nat) : Code := sb f169_c n
abbrev f169_sig : List PT := [(false, (.int .u64)), (false, (.int .u64))]
abbrev f169_rs : List RT := [.d false (.int .u64), .d false (.int .u64)]
abbrev f169_ts : List RV := [.tmp 4, .tmp 5]
abbrev f169_S := St → Option (RDL f169_rs)
abbrev f169_L := List (Fr (RDL f169_rs))
def f169_Y : Tys := []
noncomputable def f169_E (k : Nat) : Env := []
def f169_A : Ann := {}
noncomputable abbrev f169_a (k : Nat) (F : f169_L) : Kont (RDL f169_rs) := ap T f169_Y (f169_E k) f169_A k (Kfin T f169_rs f169_ts) F
def f169_entry_B (k : Nat) (a0 : Int) (a1 : Int) : Option (Int × Int × Unit) := some (IntKind.u64.wrap ((IntKind.u64.wrap ((IntKind.u64.wrap ((a0.fdiv (2 ^ min (32 : Int).toNat (IntKind.bits .u64))) * (a1.fdiv (2 ^ min (32 : Int).toNat (IntKind.bits .u64))))) + ((IntKind.u64.wrap ((IntKind.u64.wrap ((a0.fdiv (2 ^ min (32 : Int).toNat (IntKind.bits .u64))) * (bitI .and .u64 a1 4294967295))) + ((IntKind.u64.wrap ((bitI .and .u64 a0 4294967295) * (bitI .and .u64 a1 4294967295))).fdiv (2 ^ min (32 : Int).toNat (IntKind.bits .u64))))).fdiv (2 ^ min (32 : Int).toNat (IntKind.bits .u64))))) + ((IntKind.u64.wrap ((bitI .and .u64 (IntKind.u64.wrap ((IntKind.u64.wrap ((a0.fdiv (2 ^ min (32 : Int).toNat (IntKind.bits .u64))) * (bitI .and .u64 a1 4294967295))) + ((IntKind.u64.wrap ((bitI .and .u64 a0 4294967295) * (bitI .and .u64 a1 4294967295))).fdiv (2 ^ min (32 : Int).toNat (IntKind.bits .u64))))) 4294967295) + (IntKind.u64.wrap ((bitI .and .u64 a0 4294967295) * (a1.fdiv (2 ^ min (32 : Int).toNat (IntKind.bits .u64))))))).fdiv (2 ^ min (32 : Int).toNat (IntKind.bits .u64)))), IntKind.u64.wrap (a0 * a1), ())
theorem f169_entry_P (k : Nat) (xs : DL f169_sig) : f169_a k (.c (f169_p 1) 0 :: []) .nx (σ0 51 160 f169_sig xs) = f169_entry_B k xs.1 xs.2.1 := by kernel_rfl
def f169 (k : Nat) (a0 : Int) (a1 : Int) : Option (Int × Int × Unit) := f169_entry_B k a0 a1
theorem f169_eq (k : Nat) (xs : DL f169_sig) : den T f169_Y (f169_E k) f169_A k f169_c 0 (σ0 51 160 f169_sig xs) (Kfin T f169_rs f169_ts) = f169 k xs.1 xs.2.1 :=
  Eq.trans (Eq.trans den_sb (ap_at (ap_cons _ rfl) _)) ((f169_entry_P k xs).trans (by rfl))
noncomputable def f169_con (k : Nat) : Con := ⟨f169_sig, f169_rs, fun xs => f169 k xs.1 xs.2.1⟩
theorem f169_ok (k : Nat) : PureOK Try.prog 169 f169_sig f169_rs (fun xs => f169 k xs.1 xs.2.1) :=
  (pure_of_den (k := k) (A := f169_A) (T := T) (Y := f169_Y) (E := f169_E k) (M := 160) (ts := f169_ts) T_ok trivial trivial mixed (f := 169) (fn := Try.f169) (c := f169_c) (by kernel_rfl) (by kernel_rfl) (by kernel_rfl) (by decide) (by kernel_rfl)).congr fun xs => (f169_eq k xs).symm
theorem f169_ent : Ent Try.prog 169 := fun args w => by kernel_rfl
/-! ### math/bits.Mul: function 135 -/
noncomputable def f135_c : Code := Try.f135.body.getD .skip
noncomputable abbrev f135_p (n : Nat) : Code := sb f135_c n
abbrev f135_sig : List PT := [(false, (.int .u64)), (false, (.int .u64))]
abbrev f135_rs : List RT := [.d false (.int .u64), .d false (.int .u64)]
abbrev f135_ts : List RV := [.tmp 4, .tmp 5]
abbrev f135_S := St → Option (RDL f135_rs)
abbrev f135_L := List (Fr (RDL f135_rs))
def f135_Y : Tys := []
noncomputable def f135_E (k : Nat) : Env := [(169, .c (f169_con k))]
def f135_A : Ann := {}
noncomputable abbrev f135_a (k : Nat) (F : f135_L) : Kont (RDL f135_rs) := ap T f135_Y (f135_E k) f135_A k (Kfin T f135_rs f135_ts) F
def f135_entry_B (k : Nat) (a0 : Int) (a1 : Int) : Option (Int × Int × Unit) := ((f169 k a0 a1).bind fun r1 => some (r1.1, r1.2.1, ()))
theorem f135_entry_P (k : Nat) (xs : DL f135_sig) : f135_a k (.c (f135_p 1) 0 :: []) .nx (σ0 30 96 f135_sig xs) = f135_entry_B k xs.1 xs.2.1 := by kernel_rfl
def f135 (k : Nat) (a0 : Int) (a1 : Int) : Option (Int × Int × Unit) := f135_entry_B k a0 a1
theorem f135_eq (k : Nat) (xs : DL f135_sig) : den T f135_Y (f135_E k) f135_A k f135_c 0 (σ0 30 96 f135_sig xs) (Kfin T f135_rs f135_ts) = f135 k xs.1 xs.2.1 :=
  Eq.trans (Eq.trans den_sb (ap_at (ap_cons _ rfl) _)) ((f135_entry_P k xs).trans (by rfl))
noncomputable def f135_con (k : Nat) : Con := ⟨f135_sig, f135_rs, fun xs => f135 k xs.1 xs.2.1⟩
theorem f135_ok (k : Nat) : PureOK Try.prog 135 f135_sig f135_rs (fun xs => f135 k xs.1 xs.2.1) :=
  (pure_of_den (k := k) (A := f135_A) (T := T) (Y := f135_Y) (E := f135_E k) (M := 96) (ts := f135_ts) T_ok ⟨f169_ok k, trivial⟩ ⟨f169_ent, trivial⟩ mixed (f := 135) (fn := Try.f135) (c := f135_c) (by kernel_rfl) (by kernel_rfl) (by kernel_rfl) (by decide) (by kernel_rfl)).congr fun xs => (f135_eq k xs).symm
theorem f135_ent : Ent Try.prog 135 := fun args w => by kernel_rfl
/-! ### slices.Repeat[[]int,int]: function 69 -/
noncomputable def f69_c : Code := Try.f69.body.getD .skip
noncomputable abbrev f69_p (n : Nat) : Code := sb f69_c n
abbrev f69_sig : List PT := [(false, Tq1), (false, (.int .i64))]
abbrev f69_rs : List RT := [.new (.int .i64)]
abbrev f69_ts : List RV := [.tmp 4]
abbrev f69_S := St → Option (RDL f69_rs)
abbrev f69_L := List (Fr (RDL f69_rs))
def f69_Y : Tys := [(3, (.int .i64))]
noncomputable def f69_E (k : Nat) : Env := [(135, .c (f135_con k))]
def f69_A : Ann := { conds := [(2, { slots := [(0, .val false (.int .i64)), (1, .id)] }), (5, { slots := [(0, .val false (.int .i64)), (6, .id)] })], regs := [(4, { slots := [(0, .val false (.int .i64)), (6, .id), (26, .bool)] })], loops := [(0, { slots := [(7, .id), (8, .id)], keys := [(30, [])] })] }
noncomputable abbrev f69_a (k : Nat) (F : f69_L) : Kont (RDL f69_rs) := ap T f69_Y (f69_E k) f69_A k (Kfin T f69_rs f69_ts) F
def f69_s_c2 (x0 : (List Int)) (x1 : Int) : St := mkS 48 144 [(0, aV (.int .i64) x0), (1, aI x1)] []
abbrev f69_t_c2 := (List Int) → Int → Option ((List Int) × Unit)
abbrev f69_o_c2 (R : f69_S) : f69_t_c2 := (fun x0 x1 => R (f69_s_c2 x0 x1))
noncomputable def f69_Q_c2 (k : Nat) : f69_L := [.c (f69_p 7) 0]
noncomputable def f69_C_c2 (k : Nat) : f69_S := fun σ => f69_a k (f69_Q_c2 k) .nx σ
def f69_s_r4 (x0 : (List Int)) (x26 : Bool) (x6 : Int) : St := mkS 48 144 [(0, aV (.int .i64) x0), (6, .cp (.one (.int .u64 x6))), (26, aB x26)] []
abbrev f69_t_r4 := (List Int) → Bool → Int → Option ((List Int) × Unit)
abbrev f69_o_r4 (R : f69_S) : f69_t_r4 := (fun x0 x26 x6 => R (f69_s_r4 x0 x26 x6))
noncomputable def f69_Q_r4 (k : Nat) : f69_L := [.c (f69_p 61) 0, .c (f69_p 31) 0]
noncomputable def f69_C_r4 (k : Nat) : f69_S := fun σ => f69_a k (f69_Q_r4 k) .nx σ
def f69_s_c5 (x0 : (List Int)) (x6 : Int) : St := mkS 48 144 [(0, aV (.int .i64) x0), (6, .cp (.one (.int .u64 x6)))] []
abbrev f69_t_c5 := (List Int) → Int → Option ((List Int) × Unit)
abbrev f69_o_c5 (R : f69_S) : f69_t_c5 := (fun x0 x6 => R (f69_s_c5 x0 x6))
noncomputable def f69_Q_c5 (k : Nat) : f69_L := [.c (f69_p 31) 0]
noncomputable def f69_C_c5 (k : Nat) : f69_S := fun σ => f69_a k (f69_Q_c5 k) .nx σ
def f69_s_l0 (y30 : (List Int)) (x8 : Int) : St := mkS 48 144 [(7, aO 30), (8, aI x8)] [(30, .vec (.int .i64) y30)]
abbrev f69_t_l0 := (List Int) → Int → Option ((List Int) × Unit)
abbrev f69_o_l0 (R : f69_S) : f69_t_l0 := (fun y30 x8 => R (f69_s_l0 y30 x8))
noncomputable def f69_Q_l0 (k : Nat) (R_l0 : f69_S) : f69_L := [.c (f69_p 1016) 0, .j (fun σ => R_l0 (cut f69_A.loops 0 σ)), .blk 0, .c (f69_p 255) 0]
noncomputable def f69_C_l0 (k : Nat) (n : Nat) (σ : St) : Option (RDL f69_rs) := loopK (fun σ K => den T f69_Y (f69_E k) f69_A k (f69_p 1016) 0 σ K) (cut f69_A.loops 0) (f69_a k [.blk 0, .c (f69_p 255) 0]) n σ
noncomputable def f69_F_c5 (k : Nat) (G_l0 : f69_S) : f69_L := .c (f69_p 62) 0 :: .c (f69_p 126) 0 :: .j (fun σ => f69_a k (.j (fun σ => G_l0 (cut f69_A.loops 0 σ)) :: .blk 0 :: .c (f69_p 255) 0 :: []) .nx σ) :: .c (f69_p 255) 0 :: []
theorem f69_f_c5 (k : Nat) : f69_a k (f69_Q_c5 k) = f69_a k (f69_F_c5 k (f69_C_l0 k k)) := (Eq.trans ap_sq (ap_cons _ (Eq.trans ap_sq (ap_cons _ (Eq.trans ap_sq (Eq.trans (ap_bl 0) (Eq.trans (ap_j (Eq.trans (ap_lp (C := (f69_C_l0 k)) (fun _ _ => rfl)) (ap_cons _ (ap_cons _ (ap_cons _ rfl))))) (ap_cons _ (ap_cons _ rfl)))))))))
noncomputable def f69_F_r4 (k : Nat) (G_c5 G_l0 : f69_S) : f69_L := .c (f69_p 61) 0 :: .j G_c5 :: f69_F_c5 k G_l0
theorem f69_f_r4 (k : Nat) : f69_a k (f69_Q_r4 k) = f69_a k (f69_F_r4 k (f69_C_c5 k) (f69_C_l0 k k)) := (ap_cons _ (Eq.trans (ap_pass (C := (f69_C_c5 k)) (fun _ => rfl)) (ap_cons _ (f69_f_c5 k))))
noncomputable def f69_F_c2 (k : Nat) (G_r4 G_c5 G_l0 : f69_S) : f69_L := .c (f69_p 14) 0 :: .c (f69_p 60) 0 :: .j G_r4 :: f69_F_r4 k G_c5 G_l0
theorem f69_f_c2 (k : Nat) : f69_a k (f69_Q_c2 k) = f69_a k (f69_F_c2 k (f69_C_r4 k) (f69_C_c5 k) (f69_C_l0 k k)) := (Eq.trans ap_sq (ap_cons _ (Eq.trans ap_sq (Eq.trans ap_sq (ap_cons _ (Eq.trans (ap_pass (C := (f69_C_r4 k)) (fun _ => rfl)) (ap_cons _ (f69_f_r4 k))))))))
noncomputable def f69_F_l0 (k : Nat) (G_l0 : f69_S) : f69_L := .c (f69_p 1016) 0 :: .j (fun σ => G_l0 (cut f69_A.loops 0 σ)) :: .blk 0 :: .c (f69_p 255) 0 :: []
theorem f69_f_l0 (k : Nat) (R_l0 : f69_S) : f69_a k (f69_Q_l0 k R_l0) = f69_a k (f69_F_l0 k R_l0) := (ap_cons _ (ap_cons _ (ap_cons _ (ap_cons _ rfl))))
def f69_entry_B (k : Nat) (g_c2 : f69_t_c2) (a0 : (List Int)) (a1 : Int) : Option ((List Int) × Unit) := (if a1 < 0 then none else (g_c2 a0 a1))
def f69_c2_B (k : Nat) (g_r4 : f69_t_r4) (x0 : (List Int)) (x1 : Int) : Option ((List Int) × Unit) := ((f135 k (IntKind.u64.wrap ((x0.length : Int))) (IntKind.u64.wrap (x1))).bind fun r1 => (if 0 < r1.1 then (g_r4 x0 true r1.2.1) else (g_r4 x0 (decide (9223372036854775807 < r1.2.1)) r1.2.1)))
def f69_r4_B (k : Nat) (g_c5 : f69_t_c5) (x0 : (List Int)) (x26 : Bool) (x6 : Int) : Option ((List Int) × Unit) := (if x26 = true then none else (g_c5 x0 x6))
def f69_c5_B (k : Nat) (g_l0 : f69_t_l0) (x0 : (List Int)) (x6 : Int) : Option ((List Int) × Unit) := (if 0 ≤ (w64 (x6)) then (if (w64 (x6)) ≤ 1073741824 then (g_l0 (copyL (List.replicate (w64 (x6)).toNat (0 : Int)) x0 0 ((List.replicate (w64 (x6)).toNat (0 : Int)).length)) ((min ((List.replicate (w64 (x6)).toNat (0 : Int)).length) x0.length : Nat) : Int)) else none) else none)
def f69_l0_B (k : Nat) (g_l0 : f69_t_l0) (y30 : (List Int)) (x8 : Int) : Option ((List Int) × Unit) := (if x8 < (y30.length : Int) then (if 0 ≤ x8 then (if x8 ≤ (y30.length : Int) then (if 0 ≤ x8 then (if x8 ≤ (y30.length : Int) then (g_l0 (copyL y30 (List.take ((x8).toNat - (0 : Int).toNat) (List.drop ((0 : Int).toNat) y30)) ((x8).toNat) ((y30.length : Int).toNat - (x8).toNat)) (w64 (x8 + ((min ((y30.length : Int).toNat - (x8).toNat) (List.take ((x8).toNat - (0 : Int).toNat) (List.drop ((0 : Int).toNat) y30)).length : Nat) : Int)))) else none) else none) else none) else none) else some (y30, ()))
theorem f69_l0_P (k : Nat) (G_l0 : f69_S) : f69_o_l0 (fun σ => f69_a k (f69_F_l0 k G_l0) .nx σ) = f69_l0_B k (f69_o_l0 G_l0) := by kernel_rfl
def f69_l0 (k : Nat) : Nat → f69_t_l0
  | 0 => fun _ _ => none
  | n + 1 => f69_l0_B k (f69_l0 k n)
theorem f69_l0_E (k : Nat) : ∀ n, f69_o_l0 (f69_C_l0 k n) = f69_l0 k n
  | 0 => rfl
  | n + 1 =>
    Eq.trans (congrArg f69_o_l0 (Eq.trans (b := fun σ => f69_a k (f69_Q_l0 k (f69_C_l0 k n)) .nx σ) (by kernel_rfl) (ap_fn (f69_f_l0 k (f69_C_l0 k n))))) ((f69_l0_P k (f69_C_l0 k n)).trans (by rw [f69_l0_E k n] <;> rfl))
theorem f69_c5_P (k : Nat) (G_l0 : f69_S) : f69_o_c5 (fun σ => f69_a k (f69_F_c5 k G_l0) .nx σ) = f69_c5_B k (f69_o_l0 G_l0) := by kernel_rfl
def f69_c5 (k : Nat) : f69_t_c5 := f69_c5_B k (f69_l0 k k)
theorem f69_c5_E (k : Nat) : f69_o_c5 (f69_C_c5 k) = f69_c5 k :=
  Eq.trans (congrArg f69_o_c5 (ap_fn (f69_f_c5 k))) ((f69_c5_P k (f69_C_l0 k k)).trans (by rw [f69_l0_E k k] <;> rfl))
theorem f69_r4_P (k : Nat) (G_c5 G_l0 : f69_S) : f69_o_r4 (fun σ => f69_a k (f69_F_r4 k G_c5 G_l0) .nx σ) = f69_r4_B k (f69_o_c5 G_c5) := by kernel_rfl
def f69_r4 (k : Nat) : f69_t_r4 := f69_r4_B k (f69_c5 k)
theorem f69_r4_E (k : Nat) : f69_o_r4 (f69_C_r4 k) = f69_r4 k :=
  Eq.trans (congrArg f69_o_r4 (ap_fn (f69_f_r4 k))) ((f69_r4_P k (f69_C_c5 k) (f69_C_l0 k k)).trans (by rw [f69_c5_E k] <;> rfl))
theorem f69_c2_P (k : Nat) (G_r4 G_c5 G_l0 : f69_S) : f69_o_c2 (fun σ => f69_a k (f69_F_c2 k G_r4 G_c5 G_l0) .nx σ) = f69_c2_B k (f69_o_r4 G_r4) := by kernel_rfl
def f69_c2 (k : Nat) : f69_t_c2 := f69_c2_B k (f69_r4 k)
theorem f69_c2_E (k : Nat) : f69_o_c2 (f69_C_c2 k) = f69_c2 k :=
  Eq.trans (congrArg f69_o_c2 (ap_fn (f69_f_c2 k))) ((f69_c2_P k (f69_C_r4 k) (f69_C_c5 k) (f69_C_l0 k k)).trans (by rw [f69_r4_E k] <;> rfl))
theorem f69_entry_P (k : Nat) (G_c2 G_r4 G_c5 G_l0 : f69_S) (xs : DL f69_sig) : f69_a k (.c (f69_p 2) 0 :: .c (f69_p 12) 0 :: .c (f69_p 13) 0 :: .j G_c2 :: f69_F_c2 k G_r4 G_c5 G_l0) .nx (σ0 48 144 f69_sig xs) = f69_entry_B k (f69_o_c2 G_c2) xs.1 xs.2.1 := by kernel_rfl
def f69 (k : Nat) (a0 : (List Int)) (a1 : Int) : Option ((List Int) × Unit) := f69_entry_B k (f69_c2 k) a0 a1
theorem f69_fe (k : Nat) : f69_a k [.c (f69_p 1) 0] = f69_a k (.c (f69_p 2) 0 :: .c (f69_p 12) 0 :: .c (f69_p 13) 0 :: .j (f69_C_c2 k) :: f69_F_c2 k (f69_C_r4 k) (f69_C_c5 k) (f69_C_l0 k k)) := (Eq.trans ap_sq (ap_cons _ (Eq.trans ap_sq (Eq.trans ap_sq (ap_cons _ (ap_cons _ (Eq.trans (ap_pass (C := (f69_C_c2 k)) (fun _ => rfl)) (ap_cons _ (f69_f_c2 k)))))))))
theorem f69_eq (k : Nat) (xs : DL f69_sig) : den T f69_Y (f69_E k) f69_A k f69_c 0 (σ0 48 144 f69_sig xs) (Kfin T f69_rs f69_ts) = f69 k xs.1 xs.2.1 :=
  Eq.trans (Eq.trans den_sb (ap_at (f69_fe k) _)) ((f69_entry_P k (f69_C_c2 k) (f69_C_r4 k) (f69_C_c5 k) (f69_C_l0 k k) xs).trans (by rw [f69_c2_E k] <;> rfl))
noncomputable def f69_con (k : Nat) : Con := ⟨f69_sig, f69_rs, fun xs => f69 k xs.1 xs.2.1⟩
theorem f69_ok (k : Nat) : PureOK Try.prog 69 f69_sig f69_rs (fun xs => f69 k xs.1 xs.2.1) :=
  (pure_of_den (k := k) (A := f69_A) (T := T) (Y := f69_Y) (E := f69_E k) (M := 144) (ts := f69_ts) T_ok ⟨f135_ok k, trivial⟩ ⟨f135_ent, trivial⟩ mixed (f := 69) (fn := Try.f69) (c := f69_c) (by kernel_rfl) (by kernel_rfl) (by kernel_rfl) (by decide) (by kernel_rfl)).congr fun xs => (f69_eq k xs).symm
theorem f69_ent : Ent Try.prog 69 := fun args w => by kernel_rfl
/-! ### slices.Clone[[]int,int]: function 97 -/
noncomputable def f97_c : Code := Try.f97.body.getD .skip
noncomputable abbrev f97_p (n : Nat) : Code := sb f97_c n
abbrev f97_sig : List PT := [(false, Tq19)]
abbrev f97_rs : List RT := [.new (.int .i64)]
abbrev f97_ts : List RV := [.tmp 2]
abbrev f97_S := St → Option (RDL f97_rs)
abbrev f97_L := List (Fr (RDL f97_rs))
def f97_Y : Tys := [(3, (.int .i64))]
noncomputable def f97_E (k : Nat) : Env := []
def f97_A : Ann := {}
noncomputable abbrev f97_a (k : Nat) (F : f97_L) : Kont (RDL f97_rs) := ap T f97_Y (f97_E k) f97_A k (Kfin T f97_rs f97_ts) F
def f97_entry_B (k : Nat) (a0 : Td20) : Option ((List Int) × Unit) := (if isNilO a0 = true then some ([], ()) else (if (([] : List Int).length + (slL true a0).length) * 8 ≤ 140737488355328 then some ((([] : List Int) ++ (slL true a0)), ()) else none))
theorem f97_entry_P (k : Nat) (xs : DL f97_sig) : f97_a k (.c (f97_p 1) 0 :: []) .nx (σ0 8 32 f97_sig xs) = f97_entry_B k xs.1 := by kernel_rfl
def f97 (k : Nat) (a0 : Td20) : Option ((List Int) × Unit) := f97_entry_B k a0
theorem f97_eq (k : Nat) (xs : DL f97_sig) : den T f97_Y (f97_E k) f97_A k f97_c 0 (σ0 8 32 f97_sig xs) (Kfin T f97_rs f97_ts) = f97 k xs.1 :=
  Eq.trans (Eq.trans den_sb (ap_at (ap_cons _ rfl) _)) ((f97_entry_P k xs).trans (by rfl))
noncomputable def f97_con (k : Nat) : Con := ⟨f97_sig, f97_rs, fun xs => f97 k xs.1⟩
theorem f97_ok (k : Nat) : PureOK Try.prog 97 f97_sig f97_rs (fun xs => f97 k xs.1) :=
  (pure_of_den (k := k) (A := f97_A) (T := T) (Y := f97_Y) (E := f97_E k) (M := 32) (ts := f97_ts) T_ok trivial trivial mixed (f := 97) (fn := Try.f97) (c := f97_c) (by kernel_rfl) (by kernel_rfl) (by kernel_rfl) (by decide) (by kernel_rfl)).congr fun xs => (f97_eq k xs).symm
theorem f97_ent : Ent Try.prog 97 := fun args w => by kernel_rfl
def f97u (k : Nat) (a0 : List Int) : Option (List Int × Unit) := unnil1 (f97 k) a0
noncomputable def f97u_con (k : Nat) : Con := ⟨[(false, .sl false (.int .i64))], f97_rs, fun xs => f97u k xs.1⟩
theorem f97u_ok (k : Nat) : PureOK Try.prog 97 [(false, .sl false (.int .i64))] f97_rs (fun xs => f97u k xs.1) := (f97_ok k).unnil1
theorem f97u_ent : Ent Try.prog 97 := f97_ent
/-! ### cmp.isNaN[int]: function 193 -/
noncomputable def f193_c : Code := Try.f193.body.getD .skip
noncomputable abbrev f193_p (n : Nat) : Code := sb f193_c n
abbrev f193_sig : List PT := [(false, (.int .i64))]
abbrev f193_rs : List RT := [.d false .bool]
abbrev f193_ts : List RV := [.tmp 2]
abbrev f193_S := St → Option (RDL f193_rs)
abbrev f193_L := List (Fr (RDL f193_rs))
def f193_Y : Tys := []
noncomputable def f193_E (k : Nat) : Env := []
def f193_A : Ann := {}
noncomputable abbrev f193_a (k : Nat) (F : f193_L) : Kont (RDL f193_rs) := ap T f193_Y (f193_E k) f193_A k (Kfin T f193_rs f193_ts) F
def f193_entry_B (k : Nat) (a0 : Int) : Option (Bool × Unit) := some (decide (¬ (a0 = a0)), ())
theorem f193_entry_P (k : Nat) (xs : DL f193_sig) : f193_a k (.c (f193_p 1) 0 :: []) .nx (σ0 6 32 f193_sig xs) = f193_entry_B k xs.1 := by kernel_rfl
def f193 (k : Nat) (a0 : Int) : Option (Bool × Unit) := f193_entry_B k a0
theorem f193_eq (k : Nat) (xs : DL f193_sig) : den T f193_Y (f193_E k) f193_A k f193_c 0 (σ0 6 32 f193_sig xs) (Kfin T f193_rs f193_ts) = f193 k xs.1 :=
  Eq.trans (Eq.trans den_sb (ap_at (ap_cons _ rfl) _)) ((f193_entry_P k xs).trans (by rfl))
noncomputable def f193_con (k : Nat) : Con := ⟨f193_sig, f193_rs, fun xs => f193 k xs.1⟩
theorem f193_ok (k : Nat) : PureOK Try.prog 193 f193_sig f193_rs (fun xs => f193 k xs.1) :=
  (pure_of_den (k := k) (A := f193_A) (T := T) (Y := f193_Y) (E := f193_E k) (M := 32) (ts := f193_ts) T_ok trivial trivial mixed (f := 193) (fn := Try.f193) (c := f193_c) (by kernel_rfl) (by kernel_rfl) (by kernel_rfl) (by decide) (by kernel_rfl)).congr fun xs => (f193_eq k xs).symm
theorem f193_ent : Ent Try.prog 193 := fun args w => by kernel_rfl
/-! ### cmp.Compare[int]: function 156 -/
noncomputable def f156_c : Code := Try.f156.body.getD .skip
noncomputable abbrev f156_p (n : Nat) : Code := sb f156_c n
abbrev f156_sig : List PT := [(false, (.int .i64)), (false, (.int .i64))]
abbrev f156_rs : List RT := [.d false (.int .i64)]
abbrev f156_ts : List RV := [.tmp 4]
abbrev f156_S := St → Option (RDL f156_rs)
abbrev f156_L := List (Fr (RDL f156_rs))
def f156_Y : Tys := []
noncomputable def f156_E (k : Nat) : Env := [(193, .c (f193_con k))]
def f156_A : Ann := {}
noncomputable abbrev f156_a (k : Nat) (F : f156_L) : Kont (RDL f156_rs) := ap T f156_Y (f156_E k) f156_A k (Kfin T f156_rs f156_ts) F
def f156_entry_B (k : Nat) (a0 : Int) (a1 : Int) : Option (Int × Unit) := ((f193 k a0).bind fun r1 => ((f193 k a1).bind fun r2 => (if r1.1 = true then (if r2.1 = true then some (0, ()) else some ((-1), ())) else (if r2.1 = true then some (1, ()) else (if a0 < a1 then some ((-1), ()) else (if a1 < a0 then some (1, ()) else some (0, ())))))))
theorem f156_entry_P (k : Nat) (xs : DL f156_sig) : f156_a k (.c (f156_p 1) 0 :: []) .nx (σ0 20 64 f156_sig xs) = f156_entry_B k xs.1 xs.2.1 := by kernel_rfl
def f156 (k : Nat) (a0 : Int) (a1 : Int) : Option (Int × Unit) := f156_entry_B k a0 a1
theorem f156_eq (k : Nat) (xs : DL f156_sig) : den T f156_Y (f156_E k) f156_A k f156_c 0 (σ0 20 64 f156_sig xs) (Kfin T f156_rs f156_ts) = f156 k xs.1 xs.2.1 :=
  Eq.trans (Eq.trans den_sb (ap_at (ap_cons _ rfl) _)) ((f156_entry_P k xs).trans (by rfl))
noncomputable def f156_con (k : Nat) : Con := ⟨f156_sig, f156_rs, fun xs => f156 k xs.1 xs.2.1⟩
theorem f156_ok (k : Nat) : PureOK Try.prog 156 f156_sig f156_rs (fun xs => f156 k xs.1 xs.2.1) :=
  (pure_of_den (k := k) (A := f156_A) (T := T) (Y := f156_Y) (E := f156_E k) (M := 64) (ts := f156_ts) T_ok ⟨f193_ok k, trivial⟩ ⟨f193_ent, trivial⟩ mixed (f := 156) (fn := Try.f156) (c := f156_c) (by kernel_rfl) (by kernel_rfl) (by kernel_rfl) (by decide) (by kernel_rfl)).congr fun xs => (f156_eq k xs).symm
theorem f156_ent : Ent Try.prog 156 := fun args w => by kernel_rfl
/-! ### slices.Compare[[]int,int]: function 110 -/
noncomputable def f110_c : Code := Try.f110.body.getD .skip
noncomputable abbrev f110_p (n : Nat) : Code := sb f110_c n
abbrev f110_sig : List PT := [(false, Tq1), (false, Tq1)]
abbrev f110_rs : List RT := [.d false (.int .i64)]
abbrev f110_ts : List RV := [.tmp 4]
abbrev f110_S := St → Option (RDL f110_rs)
abbrev f110_L := List (Fr (RDL f110_rs))
def f110_Y : Tys := []
noncomputable def f110_E (k : Nat) : Env := [(156, .c (f156_con k))]
def f110_A : Ann := { loops := [(0, { slots := [(0, .val false (.int .i64)), (1, .val false (.int .i64)), (9, .val false (.int .i64)), (10, .id), (11, .id)] })] }
noncomputable abbrev f110_a (k : Nat) (F : f110_L) : Kont (RDL f110_rs) := ap T f110_Y (f110_E k) f110_A k (Kfin T f110_rs f110_ts) F
def f110_s_l0 (x0 : (List Int)) (x1 : (List Int)) (x10 : Int) (x11 : Int) : St := mkS 36 112 [(0, aV (.int .i64) x0), (1, aV (.int .i64) x1), (9, aV (.int .i64) x0), (10, aI x10), (11, aI x11)] []
abbrev f110_t_l0 := (List Int) → (List Int) → Int → Int → Option (Int × Unit)
abbrev f110_o_l0 (R : f110_S) : f110_t_l0 := (fun x0 x1 x10 x11 => R (f110_s_l0 x0 x1 x10 x11))
noncomputable def f110_Q_l0 (k : Nat) (R_l0 : f110_S) : f110_L := [.c (f110_p 52) 0, .j (fun σ => R_l0 (cut f110_A.loops 0 σ)), .blk 0, .c (f110_p 7) 0]
noncomputable def f110_C_l0 (k : Nat) (n : Nat) (σ : St) : Option (RDL f110_rs) := loopK (fun σ K => den T f110_Y (f110_E k) f110_A k (f110_p 52) 0 σ K) (cut f110_A.loops 0) (f110_a k [.blk 0, .c (f110_p 7) 0]) n σ
noncomputable def f110_F_l0 (k : Nat) (G_l0 : f110_S) : f110_L := .c (f110_p 52) 0 :: .j (fun σ => G_l0 (cut f110_A.loops 0 σ)) :: .blk 0 :: .c (f110_p 7) 0 :: []
theorem f110_f_l0 (k : Nat) (R_l0 : f110_S) : f110_a k (f110_Q_l0 k R_l0) = f110_a k (f110_F_l0 k R_l0) := (ap_cons _ (ap_cons _ (ap_cons _ (ap_cons _ rfl))))
def f110_entry_B (k : Nat) (g_l0 : f110_t_l0) (a0 : (List Int)) (a1 : (List Int)) : Option (Int × Unit) := (g_l0 a0 a1 (a0.length : Int) 0)
def f110_l0_B (k : Nat) (g_l0 : f110_t_l0) (x0 : (List Int)) (x1 : (List Int)) (x10 : Int) (x11 : Int) : Option (Int × Unit) := (if x11 < x10 then (if 0 ≤ x11 then (if x11 < (x0.length : Int) then (if (x1.length : Int) ≤ x11 then some (1, ()) else (if 0 ≤ x11 then (if x11 < (x1.length : Int) then ((f156 k (x0.getD (x11).toNat 0) (x1.getD (x11).toNat 0)).bind fun r1 => (if ¬ (r1.1 = 0) then some (r1.1, ()) else (g_l0 x0 x1 x10 (w64 (x11 + 1))))) else none) else none)) else none) else none) else (if (x0.length : Int) < (x1.length : Int) then some ((-1), ()) else some (0, ())))
theorem f110_l0_P (k : Nat) (G_l0 : f110_S) : f110_o_l0 (fun σ => f110_a k (f110_F_l0 k G_l0) .nx σ) = f110_l0_B k (f110_o_l0 G_l0) := by kernel_rfl
def f110_l0 (k : Nat) : Nat → f110_t_l0
  | 0 => fun _ _ _ _ => none
  | n + 1 => f110_l0_B k (f110_l0 k n)
theorem f110_l0_E (k : Nat) : ∀ n, f110_o_l0 (f110_C_l0 k n) = f110_l0 k n
  | 0 => rfl
  | n + 1 =>
    Eq.trans (congrArg f110_o_l0 (Eq.trans (b := fun σ => f110_a k (f110_Q_l0 k (f110_C_l0 k n)) .nx σ) (by kernel_rfl) (ap_fn (f110_f_l0 k (f110_C_l0 k n))))) ((f110_l0_P k (f110_C_l0 k n)).trans (by rw [f110_l0_E k n] <;> rfl))
theorem f110_entry_P (k : Nat) (G_l0 : f110_S) (xs : DL f110_sig) : f110_a k (.c (f110_p 2) 0 :: .c (f110_p 12) 0 :: .j (fun σ => f110_a k (.j (fun σ => G_l0 (cut f110_A.loops 0 σ)) :: .blk 0 :: .c (f110_p 7) 0 :: []) .nx σ) :: .c (f110_p 7) 0 :: []) .nx (σ0 36 112 f110_sig xs) = f110_entry_B k (f110_o_l0 G_l0) xs.1 xs.2.1 := by kernel_rfl
def f110 (k : Nat) (a0 : (List Int)) (a1 : (List Int)) : Option (Int × Unit) := f110_entry_B k (f110_l0 k k) a0 a1
theorem f110_fe (k : Nat) : f110_a k [.c (f110_p 1) 0] = f110_a k (.c (f110_p 2) 0 :: .c (f110_p 12) 0 :: .j (fun σ => f110_a k (.j (fun σ => (f110_C_l0 k k) (cut f110_A.loops 0 σ)) :: .blk 0 :: .c (f110_p 7) 0 :: []) .nx σ) :: .c (f110_p 7) 0 :: []) := (Eq.trans ap_sq (ap_cons _ (Eq.trans ap_sq (Eq.trans ap_sq (ap_cons _ (Eq.trans (ap_bl 0) (Eq.trans (ap_j (Eq.trans (ap_lp (C := (f110_C_l0 k)) (fun _ _ => rfl)) (ap_cons _ (ap_cons _ (ap_cons _ rfl))))) (ap_cons _ (ap_cons _ rfl)))))))))
theorem f110_eq (k : Nat) (xs : DL f110_sig) : den T f110_Y (f110_E k) f110_A k f110_c 0 (σ0 36 112 f110_sig xs) (Kfin T f110_rs f110_ts) = f110 k xs.1 xs.2.1 :=
  Eq.trans (Eq.trans den_sb (ap_at (f110_fe k) _)) ((f110_entry_P k (f110_C_l0 k k) xs).trans (by rw [f110_l0_E k k] <;> rfl))
noncomputable def f110_con (k : Nat) : Con := ⟨f110_sig, f110_rs, fun xs => f110 k xs.1 xs.2.1⟩
theorem f110_ok (k : Nat) : PureOK Try.prog 110 f110_sig f110_rs (fun xs => f110 k xs.1 xs.2.1) :=
  (pure_of_den (k := k) (A := f110_A) (T := T) (Y := f110_Y) (E := f110_E k) (M := 112) (ts := f110_ts) T_ok ⟨f156_ok k, trivial⟩ ⟨f156_ent, trivial⟩ mixed (f := 110) (fn := Try.f110) (c := f110_c) (by kernel_rfl) (by kernel_rfl) (by kernel_rfl) (by decide) (by kernel_rfl)).congr fun xs => (f110_eq k xs).symm
theorem f110_ent : Ent Try.prog 110 := fun args w => by kernel_rfl
/-! ### terrier/timed.follows: function 136 -/
noncomputable def f136_c : Code := Try.f136.body.getD .skip
noncomputable abbrev f136_p (n : Nat) : Code := sb f136_c n
abbrev f136_sig : List PT := [(true, Tq16), (true, Tq13), (true, Tq13)]
abbrev f136_rs : List RT := [.d false .bool]
abbrev f136_ts : List RV := [.tmp 6]
abbrev f136_S := St → Option (RDL f136_rs)
abbrev f136_L := List (Fr (RDL f136_rs))
def f136_Y : Tys := []
noncomputable def f136_E (k : Nat) : Env := []
def f136_A : Ann := { conds := [(3, { slots := [(4, .id), (5, .id), (7, .id)], keys := [(4, []), (5, [])] })], regs := [(4, { slots := [(6, .bool)] })] }
noncomputable abbrev f136_a (k : Nat) (F : f136_L) : Kont (RDL f136_rs) := ap T f136_Y (f136_E k) f136_A k (Kfin T f136_rs f136_ts) F
def f136_s_c3 (y4_0 : Int) (y4_1 : Int) (y4_2 : Int) (y4_3 : Int) (y4_4 : Int) (y5_0 : Int) (y5_1 : Int) (y5_2 : Int) (y5_3 : Int) (y5_4 : Int) (x7 : Int) : St := mkS 29 96 [(4, aP 4), (5, aP 5), (7, aI x7)] [(4, .box [cI y4_0, cI y4_1, cI y4_2, cI y4_3, cI y4_4]), (5, .box [cI y5_0, cI y5_1, cI y5_2, cI y5_3, cI y5_4])]
abbrev f136_t_c3 := Int → Int → Int → Int → Int → Int → Int → Int → Int → Int → Int → Option (Bool × Unit)
abbrev f136_o_c3 (R : f136_S) : f136_t_c3 := (fun y4_0 y4_1 y4_2 y4_3 y4_4 y5_0 y5_1 y5_2 y5_3 y5_4 x7 => R (f136_s_c3 y4_0 y4_1 y4_2 y4_3 y4_4 y5_0 y5_1 y5_2 y5_3 y5_4 x7))
noncomputable def f136_Q_c3 (k : Nat) : f136_L := [.c (f136_p 15) 0]
noncomputable def f136_C_c3 (k : Nat) : f136_S := fun σ => f136_a k (f136_Q_c3 k) .nx σ
def f136_s_r4 (x6 : Bool) : St := mkS 29 96 [(6, aB x6)] []
abbrev f136_t_r4 := Bool → Option (Bool × Unit)
abbrev f136_o_r4 (R : f136_S) : f136_t_r4 := (fun x6 => R (f136_s_r4 x6))
noncomputable def f136_Q_r4 (k : Nat) : f136_L := [.c (f136_p 31) 0]
noncomputable def f136_C_r4 (k : Nat) : f136_S := fun σ => f136_a k (f136_Q_r4 k) .nx σ
noncomputable def f136_F_r4 (k : Nat) : f136_L := .c (f136_p 31) 0 :: []
theorem f136_f_r4 (k : Nat) : f136_a k (f136_Q_r4 k) = f136_a k (f136_F_r4 k) := (ap_cons _ rfl)
noncomputable def f136_F_c3 (k : Nat) (G_r4 : f136_S) : f136_L := .c (f136_p 30) 0 :: .j G_r4 :: f136_F_r4 k
theorem f136_f_c3 (k : Nat) : f136_a k (f136_Q_c3 k) = f136_a k (f136_F_c3 k (f136_C_r4 k)) := (Eq.trans ap_sq (ap_cons _ (Eq.trans (ap_pass (C := (f136_C_r4 k)) (fun _ => rfl)) (ap_cons _ (f136_f_r4 k)))))
def f136_entry_B (k : Nat) (g_c3 : f136_t_c3) (a0 : (Int × Td18)) (a1 : Td17) (a2 : Td17) : Option (Bool × Unit) := (if a1.2.2.2.2 = a2.2.2.2.2 then (g_c3 a1.1 a1.2.1 a1.2.2.1 a1.2.2.2.1 a1.2.2.2.2 a2.1 a2.2.1 a2.2.2.1 a2.2.2.2.1 a2.2.2.2.2 0) else (g_c3 a1.1 a1.2.1 a1.2.2.1 a1.2.2.2.1 a1.2.2.2.2 a2.1 a2.2.1 a2.2.2.1 a2.2.2.2.1 a2.2.2.2.2 a0.2.1))
def f136_c3_B (k : Nat) (g_r4 : f136_t_r4) (y4_0 : Int) (y4_1 : Int) (y4_2 : Int) (y4_3 : Int) (y4_4 : Int) (y5_0 : Int) (y5_1 : Int) (y5_2 : Int) (y5_3 : Int) (y5_4 : Int) (x7 : Int) : Option (Bool × Unit) := (if y4_1 = y5_0 then (g_r4 (decide (x7 ≤ (w64 (y5_2 - y4_3))))) else (g_r4 false))
def f136_r4_B (k : Nat) (x6 : Bool) : Option (Bool × Unit) := some (decide (x6 = true), ())
theorem f136_r4_P (k : Nat) : f136_o_r4 (fun σ => f136_a k (f136_F_r4 k) .nx σ) = f136_r4_B k := by kernel_rfl
def f136_r4 (k : Nat) : f136_t_r4 := f136_r4_B k
theorem f136_r4_E (k : Nat) : f136_o_r4 (f136_C_r4 k) = f136_r4 k :=
  Eq.trans (congrArg f136_o_r4 (ap_fn (f136_f_r4 k))) ((f136_r4_P k).trans (by rfl))
theorem f136_c3_P (k : Nat) (G_r4 : f136_S) : f136_o_c3 (fun σ => f136_a k (f136_F_c3 k G_r4) .nx σ) = f136_c3_B k (f136_o_r4 G_r4) := by kernel_rfl
def f136_c3 (k : Nat) : f136_t_c3 := f136_c3_B k (f136_r4 k)
theorem f136_c3_E (k : Nat) : f136_o_c3 (f136_C_c3 k) = f136_c3 k :=
  Eq.trans (congrArg f136_o_c3 (ap_fn (f136_f_c3 k))) ((f136_c3_P k (f136_C_r4 k)).trans (by rw [f136_r4_E k] <;> rfl))
theorem f136_entry_P (k : Nat) (G_c3 G_r4 : f136_S) (xs : DL f136_sig) : f136_a k (.c (f136_p 2) 0 :: .c (f136_p 6) 0 :: .c (f136_p 28) 0 :: .c (f136_p 29) 0 :: .j G_c3 :: f136_F_c3 k G_r4) .nx (σ0 29 96 f136_sig xs) = f136_entry_B k (f136_o_c3 G_c3) xs.1 xs.2.1 xs.2.2.1 := by kernel_rfl
def f136 (k : Nat) (a0 : (Int × Td18)) (a1 : Td17) (a2 : Td17) : Option (Bool × Unit) := f136_entry_B k (f136_c3 k) a0 a1 a2
theorem f136_fe (k : Nat) : f136_a k [.c (f136_p 1) 0] = f136_a k (.c (f136_p 2) 0 :: .c (f136_p 6) 0 :: .c (f136_p 28) 0 :: .c (f136_p 29) 0 :: .j (f136_C_c3 k) :: f136_F_c3 k (f136_C_r4 k)) := (Eq.trans ap_sq (ap_cons _ (Eq.trans ap_sq (ap_cons _ (Eq.trans ap_sq (Eq.trans ap_sq (ap_cons _ (ap_cons _ (Eq.trans (ap_pass (C := (f136_C_c3 k)) (fun _ => rfl)) (ap_cons _ (f136_f_c3 k)))))))))))
theorem f136_eq (k : Nat) (xs : DL f136_sig) : den T f136_Y (f136_E k) f136_A k f136_c 0 (σ0 29 96 f136_sig xs) (Kfin T f136_rs f136_ts) = f136 k xs.1 xs.2.1 xs.2.2.1 :=
  Eq.trans (Eq.trans den_sb (ap_at (f136_fe k) _)) ((f136_entry_P k (f136_C_c3 k) (f136_C_r4 k) xs).trans (by rw [f136_c3_E k] <;> rfl))
noncomputable def f136_con (k : Nat) : Con := ⟨f136_sig, f136_rs, fun xs => f136 k xs.1 xs.2.1 xs.2.2.1⟩
theorem f136_ok (k : Nat) : PureOK Try.prog 136 f136_sig f136_rs (fun xs => f136 k xs.1 xs.2.1 xs.2.2.1) :=
  (pure_of_den (k := k) (A := f136_A) (T := T) (Y := f136_Y) (E := f136_E k) (M := 96) (ts := f136_ts) T_ok trivial trivial mixed (f := 136) (fn := Try.f136) (c := f136_c) (by kernel_rfl) (by kernel_rfl) (by kernel_rfl) (by decide) (by kernel_rfl)).congr fun xs => (f136_eq k xs).symm
theorem f136_ent : Ent Try.prog 136 := fun args w => by kernel_rfl
/-! ### terrier/timed.best: function 70 -/
noncomputable def f70_c : Code := Try.f70.body.getD .skip
noncomputable abbrev f70_p (n : Nat) : Code := sb f70_c n
abbrev f70_sig : List PT := [(true, Tq16), (false, (.int .i64)), (false, (.int .i64))]
abbrev f70_rs : List RT := [.new Tq19]
abbrev f70_ts : List RV := [.tmp 6]
abbrev f70_S := St → Option (RDL f70_rs)
abbrev f70_L := List (Fr (RDL f70_rs))
def f70_Y : Tys := [(3, (.int .i64)), (22, Tq19)]
noncomputable def f70_E (k : Nat) : Env := [(97, .c (f97u_con k)), (110, .c (f110_con k)), (136, .c (f136_con k))]
def f70_A : Ann := { loops := [(0, { slots := [(1, .id), (2, .id), (3, .id), (7, .id), (17, .val false Tq13), (18, .id), (19, .id)], keys := [(3, [.id, .id, .val false Tq13]), (15, [])] }), (2, { slots := [(1, .id), (2, .id), (3, .id), (7, .id), (8, .id), (9, .id), (17, .val false Tq13), (18, .id), (19, .id), (39, .id), (40, .id)], keys := [(3, [.id, .id, .val false Tq13]), (9, []), (15, [])] })], regs := [(5, { slots := [(1, .id), (2, .id), (3, .id), (7, .id), (8, .id), (9, .id), (17, .val false Tq13), (18, .id), (19, .id), (33, .bool)], keys := [(3, [.id, .id, .val false Tq13]), (9, []), (15, [])] }), (10, { slots := [(1, .id), (2, .id), (3, .id), (7, .id), (8, .id), (9, .id), (10, .id), (17, .val false Tq13), (18, .id), (19, .id), (39, .id), (40, .id), (58, .bool)], keys := [(3, [.id, .id, .val false Tq13]), (9, []), (15, [])] }), (12, { slots := [(1, .id), (2, .id), (3, .id), (7, .id), (8, .id), (9, .id), (11, .id), (17, .val false Tq13), (18, .id), (19, .id), (39, .id), (40, .id), (100, .bool)], keys := [(3, [.id, .id, .val false Tq13]), (9, []), (15, []), (63, [])] })], blks := [(1, { slots := [(1, .id), (2, .id), (3, .id), (7, .id), (17, .val false Tq13), (18, .id), (19, .id)], keys := [(3, [.id, .id, .val false Tq13]), (15, [])] }), (3, { slots := [(1, .id), (2, .id), (3, .id), (7, .id), (8, .id), (9, .id), (17, .val false Tq13), (18, .id), (19, .id), (39, .id), (40, .id)], keys := [(3, [.id, .id, .val false Tq13]), (9, []), (15, [])] })], conds := [(13, { slots := [(1, .id), (2, .id), (3, .id), (7, .id), (8, .id), (9, .id), (17, .val false Tq13), (18, .id), (19, .id), (39, .id), (40, .id)], keys := [(3, [.id, .id, .val false Tq13]), (9, []), (15, [])] })] }
noncomputable abbrev f70_a (k : Nat) (F : f70_L) : Kont (RDL f70_rs) := ap T f70_Y (f70_E k) f70_A k (Kfin T f70_rs f70_ts) F
def f70_s_l0 (y15 : (List (Option (List Int)))) (y3_0 : Int) (y3_1 : Int) (y3_2 : (List (Int × (Int × (Int × (Int × Int)))))) (x1 : Int) (x18 : Int) (x19 : Int) (x2 : Int) : St := mkS 108 336 [(1, aI x1), (2, aI x2), (3, aP 3), (7, aO 15), (17, aV Tq13 y3_2), (18, aI x18), (19, aI x19)] [(3, .box [cI y3_0, cI y3_1, cV Tq13 y3_2]), (15, .vec Tq19 y15)]
abbrev f70_t_l0 := (List (Option (List Int))) → Int → Int → (List (Int × (Int × (Int × (Int × Int))))) → Int → Int → Int → Int → Option ((List Td20) × Unit)
abbrev f70_o_l0 (R : f70_S) : f70_t_l0 := (fun y15 y3_0 y3_1 y3_2 x1 x18 x19 x2 => R (f70_s_l0 y15 y3_0 y3_1 y3_2 x1 x18 x19 x2))
noncomputable def f70_Q_l0 (k : Nat) (R_l0 : f70_S) : f70_L := [.c (f70_p 116) 0, .j (fun σ => R_l0 (cut f70_A.loops 0 σ)), .blk 0, .c (f70_p 15) 0]
noncomputable def f70_C_l0 (k : Nat) (n : Nat) (σ : St) : Option (RDL f70_rs) := loopK (fun σ K => den T f70_Y (f70_E k) f70_A k (f70_p 116) 0 σ K) (cut f70_A.loops 0) (f70_a k [.blk 0, .c (f70_p 15) 0]) n σ
def f70_s_r5 (y15 : (List (Option (List Int)))) (y3_0 : Int) (y3_1 : Int) (y3_2 : (List (Int × (Int × (Int × (Int × Int)))))) (y9_0 : Int) (y9_1 : Int) (y9_2 : Int) (y9_3 : Int) (y9_4 : Int) (x1 : Int) (x18 : Int) (x19 : Int) (x2 : Int) (x33 : Bool) : St := mkS 108 336 [(1, aI x1), (2, aI x2), (3, aP 3), (7, aO 15), (8, aI x19), (9, aP 9), (17, aV Tq13 y3_2), (18, aI x18), (19, aI x19), (33, aB x33)] [(3, .box [cI y3_0, cI y3_1, cV Tq13 y3_2]), (9, .box [cI y9_0, cI y9_1, cI y9_2, cI y9_3, cI y9_4]), (15, .vec Tq19 y15)]
abbrev f70_t_r5 := (List (Option (List Int))) → Int → Int → (List (Int × (Int × (Int × (Int × Int))))) → Int → Int → Int → Int → Int → Int → Int → Int → Int → Bool → Option ((List Td20) × Unit)
abbrev f70_o_r5 (R : f70_S) : f70_t_r5 := (fun y15 y3_0 y3_1 y3_2 y9_0 y9_1 y9_2 y9_3 y9_4 x1 x18 x19 x2 x33 => R (f70_s_r5 y15 y3_0 y3_1 y3_2 y9_0 y9_1 y9_2 y9_3 y9_4 x1 x18 x19 x2 x33))
noncomputable def f70_Q_r5 (k : Nat) (R_l0 : f70_S) : f70_L := [.c (f70_p 14949) 1, .c (f70_p 7475) 1, .blk 1, .c (f70_p 935) 0, .j (fun σ => R_l0 (cut f70_A.loops 0 σ)), .blk 0, .c (f70_p 15) 0]
noncomputable def f70_C_r5 (k : Nat) (R_l0 : f70_S) : f70_S := fun σ => f70_a k (f70_Q_r5 k R_l0) .nx σ
def f70_s_b1 (y15 : (List (Option (List Int)))) (y3_0 : Int) (y3_1 : Int) (y3_2 : (List (Int × (Int × (Int × (Int × Int)))))) (x1 : Int) (x18 : Int) (x19 : Int) (x2 : Int) : St := mkS 108 336 [(1, aI x1), (2, aI x2), (3, aP 3), (7, aO 15), (17, aV Tq13 y3_2), (18, aI x18), (19, aI x19)] [(3, .box [cI y3_0, cI y3_1, cV Tq13 y3_2]), (15, .vec Tq19 y15)]
abbrev f70_t_b1 := (List (Option (List Int))) → Int → Int → (List (Int × (Int × (Int × (Int × Int))))) → Int → Int → Int → Int → Option ((List Td20) × Unit)
abbrev f70_o_b1 (R : f70_S) : f70_t_b1 := (fun y15 y3_0 y3_1 y3_2 x1 x18 x19 x2 => R (f70_s_b1 y15 y3_0 y3_1 y3_2 x1 x18 x19 x2))
noncomputable def f70_Q_b1 (k : Nat) (R_l0 : f70_S) : f70_L := [.c (f70_p 935) 0, .j (fun σ => R_l0 (cut f70_A.loops 0 σ)), .blk 0, .c (f70_p 15) 0]
noncomputable def f70_C_b1 (k : Nat) (R_l0 : f70_S) : f70_S := fun σ => f70_a k (f70_Q_b1 k R_l0) .nx σ
def f70_s_l2 (y15 : (List (Option (List Int)))) (y3_0 : Int) (y3_1 : Int) (y3_2 : (List (Int × (Int × (Int × (Int × Int)))))) (y9_0 : Int) (y9_1 : Int) (y9_2 : Int) (y9_3 : Int) (y9_4 : Int) (x1 : Int) (x18 : Int) (x19 : Int) (x2 : Int) (x40 : Int) : St := mkS 108 336 [(1, aI x1), (2, aI x2), (3, aP 3), (7, aO 15), (8, aI x19), (9, aP 9), (17, aV Tq13 y3_2), (18, aI x18), (19, aI x19), (39, aI x19), (40, aI x40)] [(3, .box [cI y3_0, cI y3_1, cV Tq13 y3_2]), (9, .box [cI y9_0, cI y9_1, cI y9_2, cI y9_3, cI y9_4]), (15, .vec Tq19 y15)]
abbrev f70_t_l2 := (List (Option (List Int))) → Int → Int → (List (Int × (Int × (Int × (Int × Int))))) → Int → Int → Int → Int → Int → Int → Int → Int → Int → Int → Option ((List Td20) × Unit)
abbrev f70_o_l2 (R : f70_S) : f70_t_l2 := (fun y15 y3_0 y3_1 y3_2 y9_0 y9_1 y9_2 y9_3 y9_4 x1 x18 x19 x2 x40 => R (f70_s_l2 y15 y3_0 y3_1 y3_2 y9_0 y9_1 y9_2 y9_3 y9_4 x1 x18 x19 x2 x40))
noncomputable def f70_Q_l2 (k : Nat) (R_l0 R_l2 : f70_S) : f70_L := [.c (f70_p 59804) 2, .j (fun σ => R_l2 (cut f70_A.loops 2 σ)), .blk 2, .blk 1, .c (f70_p 935) 0, .j (fun σ => R_l0 (cut f70_A.loops 0 σ)), .blk 0, .c (f70_p 15) 0]
noncomputable def f70_C_l2 (k : Nat) (R_l0 : f70_S) (n : Nat) (σ : St) : Option (RDL f70_rs) := loopK (fun σ K => den T f70_Y (f70_E k) f70_A k (f70_p 59804) 2 σ K) (cut f70_A.loops 2) (f70_a k [.blk 2, .blk 1, .c (f70_p 935) 0, .j (fun σ => R_l0 (cut f70_A.loops 0 σ)), .blk 0, .c (f70_p 15) 0]) n σ
def f70_s_r10 (y15 : (List (Option (List Int)))) (y3_0 : Int) (y3_1 : Int) (y3_2 : (List (Int × (Int × (Int × (Int × Int)))))) (y9_0 : Int) (y9_1 : Int) (y9_2 : Int) (y9_3 : Int) (y9_4 : Int) (x1 : Int) (x10 : Int) (x18 : Int) (x19 : Int) (x2 : Int) (x58 : Bool) : St := mkS 108 336 [(1, aI x1), (2, aI x2), (3, aP 3), (7, aO 15), (8, aI x19), (9, aP 9), (10, aI x10), (17, aV Tq13 y3_2), (18, aI x18), (19, aI x19), (39, aI x19), (40, aI x10), (58, aB x58)] [(3, .box [cI y3_0, cI y3_1, cV Tq13 y3_2]), (9, .box [cI y9_0, cI y9_1, cI y9_2, cI y9_3, cI y9_4]), (15, .vec Tq19 y15)]
abbrev f70_t_r10 := (List (Option (List Int))) → Int → Int → (List (Int × (Int × (Int × (Int × Int))))) → Int → Int → Int → Int → Int → Int → Int → Int → Int → Int → Bool → Option ((List Td20) × Unit)
abbrev f70_o_r10 (R : f70_S) : f70_t_r10 := (fun y15 y3_0 y3_1 y3_2 y9_0 y9_1 y9_2 y9_3 y9_4 x1 x10 x18 x19 x2 x58 => R (f70_s_r10 y15 y3_0 y3_1 y3_2 y9_0 y9_1 y9_2 y9_3 y9_4 x1 x10 x18 x19 x2 x58))
noncomputable def f70_Q_r10 (k : Nat) (R_l2 R_l0 : f70_S) : f70_L := [.c (f70_p 7655013) 3, .c (f70_p 3827507) 3, .blk 3, .c (f70_p 478439) 2, .j (fun σ => R_l2 (cut f70_A.loops 2 σ)), .blk 2, .blk 1, .c (f70_p 935) 0, .j (fun σ => R_l0 (cut f70_A.loops 0 σ)), .blk 0, .c (f70_p 15) 0]
noncomputable def f70_C_r10 (k : Nat) (R_l2 R_l0 : f70_S) : f70_S := fun σ => f70_a k (f70_Q_r10 k R_l2 R_l0) .nx σ
def f70_s_b3 (y15 : (List (Option (List Int)))) (y3_0 : Int) (y3_1 : Int) (y3_2 : (List (Int × (Int × (Int × (Int × Int)))))) (y9_0 : Int) (y9_1 : Int) (y9_2 : Int) (y9_3 : Int) (y9_4 : Int) (x1 : Int) (x18 : Int) (x19 : Int) (x2 : Int) (x40 : Int) : St := mkS 108 336 [(1, aI x1), (2, aI x2), (3, aP 3), (7, aO 15), (8, aI x19), (9, aP 9), (17, aV Tq13 y3_2), (18, aI x18), (19, aI x19), (39, aI x19), (40, aI x40)] [(3, .box [cI y3_0, cI y3_1, cV Tq13 y3_2]), (9, .box [cI y9_0, cI y9_1, cI y9_2, cI y9_3, cI y9_4]), (15, .vec Tq19 y15)]
abbrev f70_t_b3 := (List (Option (List Int))) → Int → Int → (List (Int × (Int × (Int × (Int × Int))))) → Int → Int → Int → Int → Int → Int → Int → Int → Int → Int → Option ((List Td20) × Unit)
abbrev f70_o_b3 (R : f70_S) : f70_t_b3 := (fun y15 y3_0 y3_1 y3_2 y9_0 y9_1 y9_2 y9_3 y9_4 x1 x18 x19 x2 x40 => R (f70_s_b3 y15 y3_0 y3_1 y3_2 y9_0 y9_1 y9_2 y9_3 y9_4 x1 x18 x19 x2 x40))
noncomputable def f70_Q_b3 (k : Nat) (R_l2 R_l0 : f70_S) : f70_L := [.c (f70_p 478439) 2, .j (fun σ => R_l2 (cut f70_A.loops 2 σ)), .blk 2, .blk 1, .c (f70_p 935) 0, .j (fun σ => R_l0 (cut f70_A.loops 0 σ)), .blk 0, .c (f70_p 15) 0]
noncomputable def f70_C_b3 (k : Nat) (R_l2 R_l0 : f70_S) : f70_S := fun σ => f70_a k (f70_Q_b3 k R_l2 R_l0) .nx σ
def f70_s_r12 (y15 : (List (Option (List Int)))) (y3_0 : Int) (y3_1 : Int) (y3_2 : (List (Int × (Int × (Int × (Int × Int)))))) (y63 : (List Int)) (y9_0 : Int) (y9_1 : Int) (y9_2 : Int) (y9_3 : Int) (y9_4 : Int) (x1 : Int) (x100 : Bool) (x18 : Int) (x19 : Int) (x2 : Int) (x40 : Int) : St := mkS 108 336 [(1, aI x1), (2, aI x2), (3, aP 3), (7, aO 15), (8, aI x19), (9, aP 9), (11, aO 63), (17, aV Tq13 y3_2), (18, aI x18), (19, aI x19), (39, aI x19), (40, aI x40), (100, aB x100)] [(3, .box [cI y3_0, cI y3_1, cV Tq13 y3_2]), (9, .box [cI y9_0, cI y9_1, cI y9_2, cI y9_3, cI y9_4]), (15, .vec Tq19 y15), (63, .vec (.int .i64) y63)]
abbrev f70_t_r12 := (List (Option (List Int))) → Int → Int → (List (Int × (Int × (Int × (Int × Int))))) → (List Int) → Int → Int → Int → Int → Int → Int → Bool → Int → Int → Int → Int → Option ((List Td20) × Unit)
abbrev f70_o_r12 (R : f70_S) : f70_t_r12 := (fun y15 y3_0 y3_1 y3_2 y63 y9_0 y9_1 y9_2 y9_3 y9_4 x1 x100 x18 x19 x2 x40 => R (f70_s_r12 y15 y3_0 y3_1 y3_2 y63 y9_0 y9_1 y9_2 y9_3 y9_4 x1 x100 x18 x19 x2 x40))
noncomputable def f70_Q_r12 (k : Nat) (R_l2 R_l0 : f70_S) : f70_L := [.c (f70_p 15310031) 3, .blk 3, .c (f70_p 478439) 2, .j (fun σ => R_l2 (cut f70_A.loops 2 σ)), .blk 2, .blk 1, .c (f70_p 935) 0, .j (fun σ => R_l0 (cut f70_A.loops 0 σ)), .blk 0, .c (f70_p 15) 0]
noncomputable def f70_C_r12 (k : Nat) (R_l2 R_l0 : f70_S) : f70_S := fun σ => f70_a k (f70_Q_r12 k R_l2 R_l0) .nx σ
def f70_s_c13 (y15 : (List (Option (List Int)))) (y3_0 : Int) (y3_1 : Int) (y3_2 : (List (Int × (Int × (Int × (Int × Int)))))) (y9_0 : Int) (y9_1 : Int) (y9_2 : Int) (y9_3 : Int) (y9_4 : Int) (x1 : Int) (x18 : Int) (x19 : Int) (x2 : Int) (x40 : Int) : St := mkS 108 336 [(1, aI x1), (2, aI x2), (3, aP 3), (7, aO 15), (8, aI x19), (9, aP 9), (17, aV Tq13 y3_2), (18, aI x18), (19, aI x19), (39, aI x19), (40, aI x40)] [(3, .box [cI y3_0, cI y3_1, cV Tq13 y3_2]), (9, .box [cI y9_0, cI y9_1, cI y9_2, cI y9_3, cI y9_4]), (15, .vec Tq19 y15)]
abbrev f70_t_c13 := (List (Option (List Int))) → Int → Int → (List (Int × (Int × (Int × (Int × Int))))) → Int → Int → Int → Int → Int → Int → Int → Int → Int → Int → Option ((List Td20) × Unit)
abbrev f70_o_c13 (R : f70_S) : f70_t_c13 := (fun y15 y3_0 y3_1 y3_2 y9_0 y9_1 y9_2 y9_3 y9_4 x1 x18 x19 x2 x40 => R (f70_s_c13 y15 y3_0 y3_1 y3_2 y9_0 y9_1 y9_2 y9_3 y9_4 x1 x18 x19 x2 x40))
noncomputable def f70_Q_c13 (k : Nat) (R_l2 R_l0 : f70_S) : f70_L := [.blk 3, .c (f70_p 478439) 2, .j (fun σ => R_l2 (cut f70_A.loops 2 σ)), .blk 2, .blk 1, .c (f70_p 935) 0, .j (fun σ => R_l0 (cut f70_A.loops 0 σ)), .blk 0, .c (f70_p 15) 0]
noncomputable def f70_C_c13 (k : Nat) (R_l2 R_l0 : f70_S) : f70_S := fun σ => f70_a k (f70_Q_c13 k R_l2 R_l0) .nx σ
noncomputable def f70_F_b1 (k : Nat) (G_l0 : f70_S) : f70_L := .c (f70_p 935) 0 :: .j (fun σ => G_l0 (cut f70_A.loops 0 σ)) :: .blk 0 :: .c (f70_p 15) 0 :: []
theorem f70_f_b1 (k : Nat) (R_l0 : f70_S) : f70_a k (f70_Q_b1 k R_l0) = f70_a k (f70_F_b1 k R_l0) := (ap_cons _ (ap_cons _ (ap_cons _ (ap_cons _ rfl))))
noncomputable def f70_F_r5 (k : Nat) (G_l0 G_b1 G_l2 : f70_S) : f70_L := .c (f70_p 14949) 1 :: .c (f70_p 14950) 1 :: .j (fun σ => f70_a k (.j (fun σ => G_l2 (cut f70_A.loops 2 σ)) :: .blk 2 :: .b 1 (fun σ => G_b1 (cut f70_A.blks 1 σ)) :: f70_F_b1 k G_l0) .nx σ) :: .b 1 (fun σ => G_b1 (cut f70_A.blks 1 σ)) :: f70_F_b1 k G_l0
theorem f70_f_r5 (k : Nat) (R_l0 : f70_S) : f70_a k (f70_Q_r5 k R_l0) = f70_a k (f70_F_r5 k R_l0 (f70_C_b1 k R_l0) (f70_C_l2 k R_l0 k)) := (ap_cons _ (Eq.trans ap_sq (ap_cons _ (Eq.trans (ap_bl 2) (Eq.trans (ap_j (Eq.trans (ap_lp (C := (f70_C_l2 k R_l0)) (fun _ _ => rfl)) (ap_cons _ (ap_cons _ (Eq.trans (ap_blkb (C := (f70_C_b1 k R_l0)) (fun _ => rfl)) (ap_cons _ (f70_f_b1 k R_l0))))))) (ap_cons _ (Eq.trans (ap_blkb (C := (f70_C_b1 k R_l0)) (fun _ => rfl)) (ap_cons _ (f70_f_b1 k R_l0)))))))))
noncomputable def f70_F_l0 (k : Nat) (G_l0 G_r5 G_b1 G_l2 : f70_S) : f70_L := .c (f70_p 232) 0 :: .c (f70_p 466) 0 :: .j (fun σ => f70_a k (.c (f70_p 3736) 1 :: .c (f70_p 14948) 1 :: .j G_r5 :: f70_F_r5 k G_l0 G_b1 G_l2) .nx σ) :: f70_F_b1 k G_l0
theorem f70_f_l0 (k : Nat) (R_l0 : f70_S) : f70_a k (f70_Q_l0 k R_l0) = f70_a k (f70_F_l0 k R_l0 (f70_C_r5 k R_l0) (f70_C_b1 k R_l0) (f70_C_l2 k R_l0 k)) := (Eq.trans ap_sq (ap_cons _ (Eq.trans ap_sq (ap_cons _ (Eq.trans ap_sq (Eq.trans (ap_bl 1) (Eq.trans (ap_j (Eq.trans ap_sq (ap_cons _ (Eq.trans ap_sq (Eq.trans ap_sq (ap_cons _ (Eq.trans (ap_pass (C := (f70_C_r5 k R_l0)) (fun _ => rfl)) (ap_cons _ (f70_f_r5 k R_l0))))))))) (ap_cons _ (f70_f_b1 k R_l0)))))))))
noncomputable def f70_F_b3 (k : Nat) (G_l0 G_b1 G_l2 : f70_S) : f70_L := .c (f70_p 478439) 2 :: .j (fun σ => G_l2 (cut f70_A.loops 2 σ)) :: .blk 2 :: .b 1 (fun σ => G_b1 (cut f70_A.blks 1 σ)) :: f70_F_b1 k G_l0
theorem f70_f_b3 (k : Nat) (R_l2 R_l0 : f70_S) : f70_a k (f70_Q_b3 k R_l2 R_l0) = f70_a k (f70_F_b3 k R_l0 (f70_C_b1 k R_l0) R_l2) := (ap_cons _ (ap_cons _ (ap_cons _ (Eq.trans (ap_blkb (C := (f70_C_b1 k R_l0)) (fun _ => rfl)) (ap_cons _ (f70_f_b1 k R_l0))))))
noncomputable def f70_F_c13 (k : Nat) (G_l0 G_b1 G_l2 G_b3 : f70_S) : f70_L := .b 3 (fun σ => G_b3 (cut f70_A.blks 3 σ)) :: f70_F_b3 k G_l0 G_b1 G_l2
theorem f70_f_c13 (k : Nat) (R_l2 R_l0 : f70_S) : f70_a k (f70_Q_c13 k R_l2 R_l0) = f70_a k (f70_F_c13 k R_l0 (f70_C_b1 k R_l0) R_l2 (f70_C_b3 k R_l2 R_l0)) := (Eq.trans (ap_blkb (C := (f70_C_b3 k R_l2 R_l0)) (fun _ => rfl)) (ap_cons _ (f70_f_b3 k R_l2 R_l0)))
noncomputable def f70_F_r12 (k : Nat) (G_l0 G_b1 G_l2 G_b3 G_c13 : f70_S) : f70_L := .c (f70_p 15310031) 3 :: .j G_c13 :: f70_F_c13 k G_l0 G_b1 G_l2 G_b3
theorem f70_f_r12 (k : Nat) (R_l2 R_l0 : f70_S) : f70_a k (f70_Q_r12 k R_l2 R_l0) = f70_a k (f70_F_r12 k R_l0 (f70_C_b1 k R_l0) R_l2 (f70_C_b3 k R_l2 R_l0) (f70_C_c13 k R_l2 R_l0)) := (ap_cons _ (Eq.trans (ap_pass (C := (f70_C_c13 k R_l2 R_l0)) (fun _ => rfl)) (ap_cons _ (f70_f_c13 k R_l2 R_l0))))
noncomputable def f70_F_r10 (k : Nat) (G_l0 G_b1 G_l2 G_b3 G_r12 G_c13 : f70_S) : f70_L := .c (f70_p 7655013) 3 :: .c (f70_p 7655014) 3 :: .c (f70_p 15310030) 3 :: .j G_r12 :: f70_F_r12 k G_l0 G_b1 G_l2 G_b3 G_c13
theorem f70_f_r10 (k : Nat) (R_l2 R_l0 : f70_S) : f70_a k (f70_Q_r10 k R_l2 R_l0) = f70_a k (f70_F_r10 k R_l0 (f70_C_b1 k R_l0) R_l2 (f70_C_b3 k R_l2 R_l0) (f70_C_r12 k R_l2 R_l0) (f70_C_c13 k R_l2 R_l0)) := (ap_cons _ (Eq.trans ap_sq (ap_cons _ (Eq.trans ap_sq (ap_cons _ (Eq.trans (ap_pass (C := (f70_C_r12 k R_l2 R_l0)) (fun _ => rfl)) (ap_cons _ (f70_f_r12 k R_l2 R_l0))))))))
noncomputable def f70_F_l2 (k : Nat) (G_l0 G_b1 G_l2 G_r10 G_b3 G_r12 G_c13 : f70_S) : f70_L := .c (f70_p 119608) 2 :: .c (f70_p 239218) 2 :: .j (fun σ => f70_a k (.c (f70_p 1913752) 3 :: .c (f70_p 7655012) 3 :: .j G_r10 :: f70_F_r10 k G_l0 G_b1 G_l2 G_b3 G_r12 G_c13) .nx σ) :: f70_F_b3 k G_l0 G_b1 G_l2
theorem f70_f_l2 (k : Nat) (R_l0 R_l2 : f70_S) : f70_a k (f70_Q_l2 k R_l0 R_l2) = f70_a k (f70_F_l2 k R_l0 (f70_C_b1 k R_l0) R_l2 (f70_C_r10 k R_l2 R_l0) (f70_C_b3 k R_l2 R_l0) (f70_C_r12 k R_l2 R_l0) (f70_C_c13 k R_l2 R_l0)) := (Eq.trans ap_sq (ap_cons _ (Eq.trans ap_sq (ap_cons _ (Eq.trans ap_sq (Eq.trans (ap_bl 3) (Eq.trans (ap_j (Eq.trans ap_sq (ap_cons _ (Eq.trans ap_sq (Eq.trans ap_sq (ap_cons _ (Eq.trans (ap_pass (C := (f70_C_r10 k R_l2 R_l0)) (fun _ => rfl)) (ap_cons _ (f70_f_r10 k R_l2 R_l0))))))))) (ap_cons _ (f70_f_b3 k R_l2 R_l0)))))))))
def f70_entry_B (k : Nat) (g_l0 : f70_t_l0) (a0 : (Int × Td18)) (a1 : Int) (a2 : Int) : Option ((List Td20) × Unit) := (if 0 ≤ (a0.2.2.length : Int) then (if (a0.2.2.length : Int) ≤ 1073741824 then (g_l0 (List.replicate ((a0.2.2.length : Int)).toNat (none : (Option (List Int)))) a0.1 a0.2.1 a0.2.2 a1 (a0.2.2.length : Int) 0 a2) else none) else none)
def f70_l0_B (k : Nat) (g_r5 : f70_t_r5) (y15 : (List (Option (List Int)))) (y3_0 : Int) (y3_1 : Int) (y3_2 : (List (Int × (Int × (Int × (Int × Int)))))) (x1 : Int) (x18 : Int) (x19 : Int) (x2 : Int) : Option ((List Td20) × Unit) := (if x19 < x18 then (if 0 ≤ x19 then (if x19 < (y3_2.length : Int) then (if ((y3_2.getD (x19).toNat (0, (0, (0, (0, 0))))).1) = x1 then (g_r5 y15 y3_0 y3_1 y3_2 ((y3_2.getD (x19).toNat (0, (0, (0, (0, 0))))).1) (((y3_2.getD (x19).toNat (0, (0, (0, (0, 0))))).2).1) ((((y3_2.getD (x19).toNat (0, (0, (0, (0, 0))))).2).2).1) (((((y3_2.getD (x19).toNat (0, (0, (0, (0, 0))))).2).2).2).1) (((((y3_2.getD (x19).toNat (0, (0, (0, (0, 0))))).2).2).2).2) x1 x18 x19 x2 (decide (x2 ≤ ((((y3_2.getD (x19).toNat (0, (0, (0, (0, 0))))).2).2).1)))) else (g_r5 y15 y3_0 y3_1 y3_2 ((y3_2.getD (x19).toNat (0, (0, (0, (0, 0))))).1) (((y3_2.getD (x19).toNat (0, (0, (0, (0, 0))))).2).1) ((((y3_2.getD (x19).toNat (0, (0, (0, (0, 0))))).2).2).1) (((((y3_2.getD (x19).toNat (0, (0, (0, (0, 0))))).2).2).2).1) (((((y3_2.getD (x19).toNat (0, (0, (0, (0, 0))))).2).2).2).2) x1 x18 x19 x2 false)) else none) else none) else some (y15, ()))
def f70_r5_B (k : Nat) (g_b1 : f70_t_b1) (g_l2 : f70_t_l2) (y15 : (List (Option (List Int)))) (y3_0 : Int) (y3_1 : Int) (y3_2 : (List (Int × (Int × (Int × (Int × Int)))))) (y9_0 : Int) (y9_1 : Int) (y9_2 : Int) (y9_3 : Int) (y9_4 : Int) (x1 : Int) (x18 : Int) (x19 : Int) (x2 : Int) (x33 : Bool) : Option ((List Td20) × Unit) := (if x33 = true then (if 0 ≤ x19 then (if x19 < (y15.length : Int) then (if ([x19]).isEmpty = false then (g_b1 (y15.set ((x19).toNat) (some ([x19]))) y3_0 y3_1 y3_2 x1 x18 x19 x2) else none) else none) else none) else (g_l2 y15 y3_0 y3_1 y3_2 y9_0 y9_1 y9_2 y9_3 y9_4 x1 x18 x19 x2 0))
def f70_b1_B (k : Nat) (g_l0 : f70_t_l0) (y15 : (List (Option (List Int)))) (y3_0 : Int) (y3_1 : Int) (y3_2 : (List (Int × (Int × (Int × (Int × Int)))))) (x1 : Int) (x18 : Int) (x19 : Int) (x2 : Int) : Option ((List Td20) × Unit) := (g_l0 y15 y3_0 y3_1 y3_2 x1 x18 (w64 (x19 + 1)) x2)
def f70_l2_B (k : Nat) (g_b1 : f70_t_b1) (g_r10 : f70_t_r10) (y15 : (List (Option (List Int)))) (y3_0 : Int) (y3_1 : Int) (y3_2 : (List (Int × (Int × (Int × (Int × Int)))))) (y9_0 : Int) (y9_1 : Int) (y9_2 : Int) (y9_3 : Int) (y9_4 : Int) (x1 : Int) (x18 : Int) (x19 : Int) (x2 : Int) (x40 : Int) : Option ((List Td20) × Unit) := (if x40 < x19 then (if 0 ≤ x40 then (if x40 < (y15.length : Int) then (if isNilO (y15.getD ((x40).toNat) none) = true then (g_r10 y15 y3_0 y3_1 y3_2 y9_0 y9_1 y9_2 y9_3 y9_4 x1 x40 x18 x19 x2 true) else (if 0 ≤ x40 then (if x40 < (y3_2.length : Int) then ((f136 k (y3_0, (y3_1, y3_2)) ((y3_2.getD (x40).toNat (0, (0, (0, (0, 0))))).1, (((y3_2.getD (x40).toNat (0, (0, (0, (0, 0))))).2).1, ((((y3_2.getD (x40).toNat (0, (0, (0, (0, 0))))).2).2).1, (((((y3_2.getD (x40).toNat (0, (0, (0, (0, 0))))).2).2).2).1, ((((y3_2.getD (x40).toNat (0, (0, (0, (0, 0))))).2).2).2).2)))) (y9_0, (y9_1, (y9_2, (y9_3, y9_4))))).bind fun r1 => (g_r10 y15 y3_0 y3_1 y3_2 y9_0 y9_1 y9_2 y9_3 y9_4 x1 x40 x18 x19 x2 (decide (¬ (r1.1 = true))))) else none) else none)) else none) else none) else (g_b1 y15 y3_0 y3_1 y3_2 x1 x18 x19 x2))
def f70_r10_B (k : Nat) (g_b3 : f70_t_b3) (g_r12 : f70_t_r12) (y15 : (List (Option (List Int)))) (y3_0 : Int) (y3_1 : Int) (y3_2 : (List (Int × (Int × (Int × (Int × Int)))))) (y9_0 : Int) (y9_1 : Int) (y9_2 : Int) (y9_3 : Int) (y9_4 : Int) (x1 : Int) (x10 : Int) (x18 : Int) (x19 : Int) (x2 : Int) (x58 : Bool) : Option ((List Td20) × Unit) := (if x58 = true then (g_b3 y15 y3_0 y3_1 y3_2 y9_0 y9_1 y9_2 y9_3 y9_4 x1 x18 x19 x2 x10) else (if 0 ≤ x10 then (if x10 < (y15.length : Int) then ((f97u k (slL true (y15.getD ((x10).toNat) none))).bind fun r1 => (if (r1.1.length + 1) * 8 ≤ 140737488355328 then (if 0 ≤ x19 then (if x19 < (y15.length : Int) then (if isNilO (y15.getD ((x19).toNat) none) = true then (g_r12 y15 y3_0 y3_1 y3_2 (r1.1 ++ [x19]) y9_0 y9_1 y9_2 y9_3 y9_4 x1 true x18 x19 x2 x10) else (if 0 ≤ x19 then (if x19 < (y15.length : Int) then (if ((r1.1 ++ [x19]).length : Int) < ((slL true (y15.getD ((x19).toNat) none)).length : Int) then (g_r12 y15 y3_0 y3_1 y3_2 (r1.1 ++ [x19]) y9_0 y9_1 y9_2 y9_3 y9_4 x1 true x18 x19 x2 x10) else (if 0 ≤ x19 then (if x19 < (y15.length : Int) then (if ((r1.1 ++ [x19]).length : Int) = ((slL true (y15.getD ((x19).toNat) none)).length : Int) then (if 0 ≤ x19 then (if x19 < (y15.length : Int) then ((f110 k (r1.1 ++ [x19]) (slL true (y15.getD ((x19).toNat) none))).bind fun r2 => (g_r12 y15 y3_0 y3_1 y3_2 (r1.1 ++ [x19]) y9_0 y9_1 y9_2 y9_3 y9_4 x1 (decide (r2.1 < 0)) x18 x19 x2 x10)) else none) else none) else (g_r12 y15 y3_0 y3_1 y3_2 (r1.1 ++ [x19]) y9_0 y9_1 y9_2 y9_3 y9_4 x1 false x18 x19 x2 x10)) else none) else none)) else none) else none)) else none) else none) else none)) else none) else none))
def f70_b3_B (k : Nat) (g_l2 : f70_t_l2) (y15 : (List (Option (List Int)))) (y3_0 : Int) (y3_1 : Int) (y3_2 : (List (Int × (Int × (Int × (Int × Int)))))) (y9_0 : Int) (y9_1 : Int) (y9_2 : Int) (y9_3 : Int) (y9_4 : Int) (x1 : Int) (x18 : Int) (x19 : Int) (x2 : Int) (x40 : Int) : Option ((List Td20) × Unit) := (g_l2 y15 y3_0 y3_1 y3_2 y9_0 y9_1 y9_2 y9_3 y9_4 x1 x18 x19 x2 (w64 (x40 + 1)))
def f70_r12_B (k : Nat) (g_c13 : f70_t_c13) (y15 : (List (Option (List Int)))) (y3_0 : Int) (y3_1 : Int) (y3_2 : (List (Int × (Int × (Int × (Int × Int)))))) (y63 : (List Int)) (y9_0 : Int) (y9_1 : Int) (y9_2 : Int) (y9_3 : Int) (y9_4 : Int) (x1 : Int) (x100 : Bool) (x18 : Int) (x19 : Int) (x2 : Int) (x40 : Int) : Option ((List Td20) × Unit) := (if x100 = true then (if 0 ≤ x19 then (if x19 < (y15.length : Int) then (if y63.isEmpty = false then (g_c13 (y15.set ((x19).toNat) (some y63)) y3_0 y3_1 y3_2 y9_0 y9_1 y9_2 y9_3 y9_4 x1 x18 x19 x2 x40) else none) else none) else none) else (g_c13 y15 y3_0 y3_1 y3_2 y9_0 y9_1 y9_2 y9_3 y9_4 x1 x18 x19 x2 x40))
def f70_c13_B (k : Nat) (g_b3 : f70_t_b3) (y15 : (List (Option (List Int)))) (y3_0 : Int) (y3_1 : Int) (y3_2 : (List (Int × (Int × (Int × (Int × Int)))))) (y9_0 : Int) (y9_1 : Int) (y9_2 : Int) (y9_3 : Int) (y9_4 : Int) (x1 : Int) (x18 : Int) (x19 : Int) (x2 : Int) (x40 : Int) : Option ((List Td20) × Unit) := (g_b3 y15 y3_0 y3_1 y3_2 y9_0 y9_1 y9_2 y9_3 y9_4 x1 x18 x19 x2 x40)
theorem f70_b1_P (k : Nat) (G_l0 : f70_S) : f70_o_b1 (fun σ => f70_a k (f70_F_b1 k G_l0) .nx σ) = f70_b1_B k (f70_o_l0 G_l0) := by kernel_rfl
def f70_b1 (k : Nat) (r_l0 : f70_t_l0) : f70_t_b1 := f70_b1_B k r_l0
theorem f70_b1_E (k : Nat) (R_l0 : f70_S) : f70_o_b1 (f70_C_b1 k R_l0) = f70_b1 k (f70_o_l0 R_l0) :=
  Eq.trans (congrArg f70_o_b1 (ap_fn (f70_f_b1 k R_l0))) ((f70_b1_P k R_l0).trans (by rfl))
theorem f70_b3_P (k : Nat) (G_l0 G_b1 G_l2 : f70_S) : f70_o_b3 (fun σ => f70_a k (f70_F_b3 k G_l0 G_b1 G_l2) .nx σ) = f70_b3_B k (f70_o_l2 G_l2) := by kernel_rfl
def f70_b3 (k : Nat) (r_l2 : f70_t_l2) (r_l0 : f70_t_l0) : f70_t_b3 := f70_b3_B k r_l2
theorem f70_b3_E (k : Nat) (R_l2 R_l0 : f70_S) : f70_o_b3 (f70_C_b3 k R_l2 R_l0) = f70_b3 k (f70_o_l2 R_l2) (f70_o_l0 R_l0) :=
  Eq.trans (congrArg f70_o_b3 (ap_fn (f70_f_b3 k R_l2 R_l0))) ((f70_b3_P k R_l0 (f70_C_b1 k R_l0) R_l2).trans (by rfl))
theorem f70_c13_P (k : Nat) (G_l0 G_b1 G_l2 G_b3 : f70_S) : f70_o_c13 (fun σ => f70_a k (f70_F_c13 k G_l0 G_b1 G_l2 G_b3) .nx σ) = f70_c13_B k (f70_o_b3 G_b3) := by kernel_rfl
def f70_c13 (k : Nat) (r_l2 : f70_t_l2) (r_l0 : f70_t_l0) : f70_t_c13 := f70_c13_B k (f70_b3 k r_l2 r_l0)
theorem f70_c13_E (k : Nat) (R_l2 R_l0 : f70_S) : f70_o_c13 (f70_C_c13 k R_l2 R_l0) = f70_c13 k (f70_o_l2 R_l2) (f70_o_l0 R_l0) :=
  Eq.trans (congrArg f70_o_c13 (ap_fn (f70_f_c13 k R_l2 R_l0))) ((f70_c13_P k R_l0 (f70_C_b1 k R_l0) R_l2 (f70_C_b3 k R_l2 R_l0)).trans (by rw [f70_b3_E k R_l2 R_l0] <;> rfl))
theorem f70_r12_P (k : Nat) (G_l0 G_b1 G_l2 G_b3 G_c13 : f70_S) : f70_o_r12 (fun σ => f70_a k (f70_F_r12 k G_l0 G_b1 G_l2 G_b3 G_c13) .nx σ) = f70_r12_B k (f70_o_c13 G_c13) := by kernel_rfl
def f70_r12 (k : Nat) (r_l2 : f70_t_l2) (r_l0 : f70_t_l0) : f70_t_r12 := f70_r12_B k (f70_c13 k r_l2 r_l0)
theorem f70_r12_E (k : Nat) (R_l2 R_l0 : f70_S) : f70_o_r12 (f70_C_r12 k R_l2 R_l0) = f70_r12 k (f70_o_l2 R_l2) (f70_o_l0 R_l0) :=
  Eq.trans (congrArg f70_o_r12 (ap_fn (f70_f_r12 k R_l2 R_l0))) ((f70_r12_P k R_l0 (f70_C_b1 k R_l0) R_l2 (f70_C_b3 k R_l2 R_l0) (f70_C_c13 k R_l2 R_l0)).trans (by rw [f70_c13_E k R_l2 R_l0] <;> rfl))
theorem f70_r10_P (k : Nat) (G_l0 G_b1 G_l2 G_b3 G_r12 G_c13 : f70_S) : f70_o_r10 (fun σ => f70_a k (f70_F_r10 k G_l0 G_b1 G_l2 G_b3 G_r12 G_c13) .nx σ) = f70_r10_B k (f70_o_b3 G_b3) (f70_o_r12 G_r12) := by kernel_rfl
def f70_r10 (k : Nat) (r_l2 : f70_t_l2) (r_l0 : f70_t_l0) : f70_t_r10 := f70_r10_B k (f70_b3 k r_l2 r_l0) (f70_r12 k r_l2 r_l0)
theorem f70_r10_E (k : Nat) (R_l2 R_l0 : f70_S) : f70_o_r10 (f70_C_r10 k R_l2 R_l0) = f70_r10 k (f70_o_l2 R_l2) (f70_o_l0 R_l0) :=
  Eq.trans (congrArg f70_o_r10 (ap_fn (f70_f_r10 k R_l2 R_l0))) ((f70_r10_P k R_l0 (f70_C_b1 k R_l0) R_l2 (f70_C_b3 k R_l2 R_l0) (f70_C_r12 k R_l2 R_l0) (f70_C_c13 k R_l2 R_l0)).trans (by rw [f70_b3_E k R_l2 R_l0, f70_r12_E k R_l2 R_l0] <;> rfl))
theorem f70_l2_P (k : Nat) (G_l0 G_b1 G_l2 G_r10 G_b3 G_r12 G_c13 : f70_S) : f70_o_l2 (fun σ => f70_a k (f70_F_l2 k G_l0 G_b1 G_l2 G_r10 G_b3 G_r12 G_c13) .nx σ) = f70_l2_B k (f70_o_b1 G_b1) (f70_o_r10 G_r10) := by kernel_rfl
def f70_l2 (k : Nat) (r_l0 : f70_t_l0) : Nat → f70_t_l2
  | 0 => fun _ _ _ _ _ _ _ _ _ _ _ _ _ _ => none
  | n + 1 => f70_l2_B k (f70_b1 k r_l0) (f70_r10 k (f70_l2 k r_l0 n) r_l0)
theorem f70_l2_E (k : Nat) (R_l0 : f70_S) : ∀ n, f70_o_l2 (f70_C_l2 k R_l0 n) = f70_l2 k (f70_o_l0 R_l0) n
  | 0 => rfl
  | n + 1 =>
    Eq.trans (congrArg f70_o_l2 (Eq.trans (b := fun σ => f70_a k (f70_Q_l2 k R_l0 (f70_C_l2 k R_l0 n)) .nx σ) (by kernel_rfl) (ap_fn (f70_f_l2 k R_l0 (f70_C_l2 k R_l0 n))))) ((f70_l2_P k R_l0 (f70_C_b1 k R_l0) (f70_C_l2 k R_l0 n) (f70_C_r10 k (f70_C_l2 k R_l0 n) R_l0) (f70_C_b3 k (f70_C_l2 k R_l0 n) R_l0) (f70_C_r12 k (f70_C_l2 k R_l0 n) R_l0) (f70_C_c13 k (f70_C_l2 k R_l0 n) R_l0)).trans (by rw [f70_b1_E k R_l0, f70_r10_E k (f70_C_l2 k R_l0 n) R_l0, f70_l2_E k R_l0 n] <;> rfl))
theorem f70_r5_P (k : Nat) (G_l0 G_b1 G_l2 : f70_S) : f70_o_r5 (fun σ => f70_a k (f70_F_r5 k G_l0 G_b1 G_l2) .nx σ) = f70_r5_B k (f70_o_b1 G_b1) (f70_o_l2 G_l2) := by kernel_rfl
def f70_r5 (k : Nat) (r_l0 : f70_t_l0) : f70_t_r5 := f70_r5_B k (f70_b1 k r_l0) (f70_l2 k r_l0 k)
theorem f70_r5_E (k : Nat) (R_l0 : f70_S) : f70_o_r5 (f70_C_r5 k R_l0) = f70_r5 k (f70_o_l0 R_l0) :=
  Eq.trans (congrArg f70_o_r5 (ap_fn (f70_f_r5 k R_l0))) ((f70_r5_P k R_l0 (f70_C_b1 k R_l0) (f70_C_l2 k R_l0 k)).trans (by rw [f70_b1_E k R_l0, f70_l2_E k R_l0 k] <;> rfl))
theorem f70_l0_P (k : Nat) (G_l0 G_r5 G_b1 G_l2 : f70_S) : f70_o_l0 (fun σ => f70_a k (f70_F_l0 k G_l0 G_r5 G_b1 G_l2) .nx σ) = f70_l0_B k (f70_o_r5 G_r5) := by kernel_rfl
def f70_l0 (k : Nat) : Nat → f70_t_l0
  | 0 => fun _ _ _ _ _ _ _ _ => none
  | n + 1 => f70_l0_B k (f70_r5 k (f70_l0 k n))
theorem f70_l0_E (k : Nat) : ∀ n, f70_o_l0 (f70_C_l0 k n) = f70_l0 k n
  | 0 => rfl
  | n + 1 =>
    Eq.trans (congrArg f70_o_l0 (Eq.trans (b := fun σ => f70_a k (f70_Q_l0 k (f70_C_l0 k n)) .nx σ) (by kernel_rfl) (ap_fn (f70_f_l0 k (f70_C_l0 k n))))) ((f70_l0_P k (f70_C_l0 k n) (f70_C_r5 k (f70_C_l0 k n)) (f70_C_b1 k (f70_C_l0 k n)) (f70_C_l2 k (f70_C_l0 k n) k)).trans (by rw [f70_r5_E k (f70_C_l0 k n), f70_l0_E k n] <;> rfl))
theorem f70_entry_P (k : Nat) (G_l0 : f70_S) (xs : DL f70_sig) : f70_a k (.c (f70_p 2) 0 :: .c (f70_p 6) 0 :: .c (f70_p 28) 0 :: .j (fun σ => f70_a k (.j (fun σ => G_l0 (cut f70_A.loops 0 σ)) :: .blk 0 :: .c (f70_p 15) 0 :: []) .nx σ) :: .c (f70_p 15) 0 :: []) .nx (σ0 108 336 f70_sig xs) = f70_entry_B k (f70_o_l0 G_l0) xs.1 xs.2.1 xs.2.2.1 := by kernel_rfl
def f70 (k : Nat) (a0 : (Int × Td18)) (a1 : Int) (a2 : Int) : Option ((List Td20) × Unit) := f70_entry_B k (f70_l0 k k) a0 a1 a2
theorem f70_fe (k : Nat) : f70_a k [.c (f70_p 1) 0] = f70_a k (.c (f70_p 2) 0 :: .c (f70_p 6) 0 :: .c (f70_p 28) 0 :: .j (fun σ => f70_a k (.j (fun σ => (f70_C_l0 k k) (cut f70_A.loops 0 σ)) :: .blk 0 :: .c (f70_p 15) 0 :: []) .nx σ) :: .c (f70_p 15) 0 :: []) := (Eq.trans ap_sq (ap_cons _ (Eq.trans ap_sq (ap_cons _ (Eq.trans ap_sq (Eq.trans ap_sq (ap_cons _ (Eq.trans (ap_bl 0) (Eq.trans (ap_j (Eq.trans (ap_lp (C := (f70_C_l0 k)) (fun _ _ => rfl)) (ap_cons _ (ap_cons _ (ap_cons _ rfl))))) (ap_cons _ (ap_cons _ rfl)))))))))))
theorem f70_eq (k : Nat) (xs : DL f70_sig) : den T f70_Y (f70_E k) f70_A k f70_c 0 (σ0 108 336 f70_sig xs) (Kfin T f70_rs f70_ts) = f70 k xs.1 xs.2.1 xs.2.2.1 :=
  Eq.trans (Eq.trans den_sb (ap_at (f70_fe k) _)) ((f70_entry_P k (f70_C_l0 k k) xs).trans (by rw [f70_l0_E k k] <;> rfl))
noncomputable def f70_con (k : Nat) : Con := ⟨f70_sig, f70_rs, fun xs => f70 k xs.1 xs.2.1 xs.2.2.1⟩
theorem f70_ok (k : Nat) : PureOK Try.prog 70 f70_sig f70_rs (fun xs => f70 k xs.1 xs.2.1 xs.2.2.1) :=
  (pure_of_den (k := k) (A := f70_A) (T := T) (Y := f70_Y) (E := f70_E k) (M := 336) (ts := f70_ts) T_ok ⟨f97u_ok k, f110_ok k, f136_ok k, trivial⟩ ⟨f97u_ent, f110_ent, f136_ent, trivial⟩ mixed (f := 70) (fn := Try.f70) (c := f70_c) (by kernel_rfl) (by kernel_rfl) (by kernel_rfl) (by decide) (by kernel_rfl)).congr fun xs => (f70_eq k xs).symm
theorem f70_ent : Ent Try.prog 70 := fun args w => by kernel_rfl
/-! ### terrier/timed.All: function 16 -/
noncomputable def f16_c : Code := Try.f16.body.getD .skip
noncomputable abbrev f16_p (n : Nat) : Code := sb f16_c n
abbrev f16_sig : List PT := [(true, Tq16), (false, (.int .i64)), (false, (.int .i64))]
abbrev f16_rs : List RT := [.new (.int .i64), .d false (.int .i64)]
abbrev f16_ts : List RV := [.tmp 6, .tmp 7]
abbrev f16_S := St → Option (RDL f16_rs)
abbrev f16_L := List (Fr (RDL f16_rs))
def f16_Y : Tys := [(3, (.int .i64))]
noncomputable def f16_E (k : Nat) : Env := [(68, .c (f68_con k)), (69, .c (f69_con k)), (70, .c (f70_con k))]
def f16_A : Ann := { regs := [(4, { slots := [(1, .id), (2, .id), (3, .id), (25, .bool)], keys := [(3, [.id, .id, .val false Tq13])] }), (11, { slots := [(1, .id), (2, .id), (3, .id), (9, .id), (12, .id), (33, .id), (34, .id), (35, .id), (64, .bool)], keys := [(3, [.id, .id, .val false Tq13]), (12, []), (29, []), (33, [])] })], loops := [(0, { slots := [(1, .id), (2, .id), (3, .id), (9, .id), (33, .id), (34, .id), (35, .id)], keys := [(3, [.id, .id, .val false Tq13]), (29, []), (33, [])] })], conds := [(12, { slots := [(1, .id), (2, .id), (3, .id), (9, .id), (33, .id), (34, .id), (35, .id)], keys := [(3, [.id, .id, .val false Tq13]), (29, []), (33, [])] })] }
noncomputable abbrev f16_a (k : Nat) (F : f16_L) : Kont (RDL f16_rs) := ap T f16_Y (f16_E k) f16_A k (Kfin T f16_rs f16_ts) F
def f16_s_r4 (y3_0 : Int) (y3_1 : Int) (y3_2 : (List (Int × (Int × (Int × (Int × Int)))))) (x1 : Int) (x2 : Int) (x25 : Bool) : St := mkS 77 240 [(1, aI x1), (2, aI x2), (3, aP 3), (25, aB x25)] [(3, .box [cI y3_0, cI y3_1, cV Tq13 y3_2])]
abbrev f16_t_r4 := Int → Int → (List (Int × (Int × (Int × (Int × Int))))) → Int → Int → Bool → Option ((List Int) × Int × Unit)
abbrev f16_o_r4 (R : f16_S) : f16_t_r4 := (fun y3_0 y3_1 y3_2 x1 x2 x25 => R (f16_s_r4 y3_0 y3_1 y3_2 x1 x2 x25))
noncomputable def f16_Q_r4 (k : Nat) : f16_L := [.c (f16_p 29) 0, .c (f16_p 15) 0]
noncomputable def f16_C_r4 (k : Nat) : f16_S := fun σ => f16_a k (f16_Q_r4 k) .nx σ
def f16_s_l0 (y29 : (List Int)) (y3_0 : Int) (y3_1 : Int) (y3_2 : (List (Int × (Int × (Int × (Int × Int)))))) (y33 : (List (Option (List Int)))) (x1 : Int) (x2 : Int) (x34 : Int) (x35 : Int) : St := mkS 77 240 [(1, aI x1), (2, aI x2), (3, aP 3), (9, aO 29), (33, aO 33), (34, aI x34), (35, aI x35)] [(3, .box [cI y3_0, cI y3_1, cV Tq13 y3_2]), (29, .vec (.int .i64) y29), (33, .vec Tq19 y33)]
abbrev f16_t_l0 := (List Int) → Int → Int → (List (Int × (Int × (Int × (Int × Int))))) → (List (Option (List Int))) → Int → Int → Int → Int → Option ((List Int) × Int × Unit)
abbrev f16_o_l0 (R : f16_S) : f16_t_l0 := (fun y29 y3_0 y3_1 y3_2 y33 x1 x2 x34 x35 => R (f16_s_l0 y29 y3_0 y3_1 y3_2 y33 x1 x2 x34 x35))
noncomputable def f16_Q_l0 (k : Nat) (R_l0 : f16_S) : f16_L := [.c (f16_p 500) 0, .j (fun σ => R_l0 (cut f16_A.loops 0 σ)), .blk 0, .c (f16_p 63) 0]
noncomputable def f16_C_l0 (k : Nat) (n : Nat) (σ : St) : Option (RDL f16_rs) := loopK (fun σ K => den T f16_Y (f16_E k) f16_A k (f16_p 500) 0 σ K) (cut f16_A.loops 0) (f16_a k [.blk 0, .c (f16_p 63) 0]) n σ
def f16_s_r11 (y12_0 : Int) (y12_1 : Int) (y12_2 : Int) (y12_3 : Int) (y12_4 : Int) (y29 : (List Int)) (y3_0 : Int) (y3_1 : Int) (y3_2 : (List (Int × (Int × (Int × (Int × Int)))))) (y33 : (List (Option (List Int)))) (x1 : Int) (x2 : Int) (x34 : Int) (x35 : Int) (x64 : Bool) : St := mkS 77 240 [(1, aI x1), (2, aI x2), (3, aP 3), (9, aO 29), (12, aP 12), (33, aO 33), (34, aI x34), (35, aI x35), (64, aB x64)] [(3, .box [cI y3_0, cI y3_1, cV Tq13 y3_2]), (12, .box [cI y12_0, cI y12_1, cI y12_2, cI y12_3, cI y12_4]), (29, .vec (.int .i64) y29), (33, .vec Tq19 y33)]
abbrev f16_t_r11 := Int → Int → Int → Int → Int → (List Int) → Int → Int → (List (Int × (Int × (Int × (Int × Int))))) → (List (Option (List Int))) → Int → Int → Int → Int → Bool → Option ((List Int) × Int × Unit)
abbrev f16_o_r11 (R : f16_S) : f16_t_r11 := (fun y12_0 y12_1 y12_2 y12_3 y12_4 y29 y3_0 y3_1 y3_2 y33 x1 x2 x34 x35 x64 => R (f16_s_r11 y12_0 y12_1 y12_2 y12_3 y12_4 y29 y3_0 y3_1 y3_2 y33 x1 x2 x34 x35 x64))
noncomputable def f16_Q_r11 (k : Nat) (R_l0 : f16_S) : f16_L := [.c (f16_p 64103) 1, .blk 1, .c (f16_p 4007) 0, .j (fun σ => R_l0 (cut f16_A.loops 0 σ)), .blk 0, .c (f16_p 63) 0]
noncomputable def f16_C_r11 (k : Nat) (R_l0 : f16_S) : f16_S := fun σ => f16_a k (f16_Q_r11 k R_l0) .nx σ
def f16_s_c12 (y29 : (List Int)) (y3_0 : Int) (y3_1 : Int) (y3_2 : (List (Int × (Int × (Int × (Int × Int)))))) (y33 : (List (Option (List Int)))) (x1 : Int) (x2 : Int) (x34 : Int) (x35 : Int) : St := mkS 77 240 [(1, aI x1), (2, aI x2), (3, aP 3), (9, aO 29), (33, aO 33), (34, aI x34), (35, aI x35)] [(3, .box [cI y3_0, cI y3_1, cV Tq13 y3_2]), (29, .vec (.int .i64) y29), (33, .vec Tq19 y33)]
abbrev f16_t_c12 := (List Int) → Int → Int → (List (Int × (Int × (Int × (Int × Int))))) → (List (Option (List Int))) → Int → Int → Int → Int → Option ((List Int) × Int × Unit)
abbrev f16_o_c12 (R : f16_S) : f16_t_c12 := (fun y29 y3_0 y3_1 y3_2 y33 x1 x2 x34 x35 => R (f16_s_c12 y29 y3_0 y3_1 y3_2 y33 x1 x2 x34 x35))
noncomputable def f16_Q_c12 (k : Nat) (R_l0 : f16_S) : f16_L := [.blk 1, .c (f16_p 4007) 0, .j (fun σ => R_l0 (cut f16_A.loops 0 σ)), .blk 0, .c (f16_p 63) 0]
noncomputable def f16_C_c12 (k : Nat) (R_l0 : f16_S) : f16_S := fun σ => f16_a k (f16_Q_c12 k R_l0) .nx σ
noncomputable def f16_F_r4 (k : Nat) (G_l0 : f16_S) : f16_L := .c (f16_p 29) 0 :: .c (f16_p 30) 0 :: .c (f16_p 124) 0 :: .j (fun σ => f16_a k (.j (fun σ => G_l0 (cut f16_A.loops 0 σ)) :: .blk 0 :: .c (f16_p 63) 0 :: []) .nx σ) :: .c (f16_p 63) 0 :: []
theorem f16_f_r4 (k : Nat) : f16_a k (f16_Q_r4 k) = f16_a k (f16_F_r4 k (f16_C_l0 k k)) := (ap_cons _ (Eq.trans ap_sq (ap_cons _ (Eq.trans ap_sq (Eq.trans ap_sq (ap_cons _ (Eq.trans (ap_bl 0) (Eq.trans (ap_j (Eq.trans (ap_lp (C := (f16_C_l0 k)) (fun _ _ => rfl)) (ap_cons _ (ap_cons _ (ap_cons _ rfl))))) (ap_cons _ (ap_cons _ rfl))))))))))
noncomputable def f16_F_c12 (k : Nat) (G_l0 : f16_S) : f16_L := .blk 1 :: .c (f16_p 4007) 0 :: .j (fun σ => G_l0 (cut f16_A.loops 0 σ)) :: .blk 0 :: .c (f16_p 63) 0 :: []
theorem f16_f_c12 (k : Nat) (R_l0 : f16_S) : f16_a k (f16_Q_c12 k R_l0) = f16_a k (f16_F_c12 k R_l0) := (ap_cons _ (ap_cons _ (ap_cons _ (ap_cons _ (ap_cons _ rfl)))))
noncomputable def f16_F_r11 (k : Nat) (G_l0 G_c12 : f16_S) : f16_L := .c (f16_p 64103) 1 :: .j G_c12 :: f16_F_c12 k G_l0
theorem f16_f_r11 (k : Nat) (R_l0 : f16_S) : f16_a k (f16_Q_r11 k R_l0) = f16_a k (f16_F_r11 k R_l0 (f16_C_c12 k R_l0)) := (ap_cons _ (Eq.trans (ap_pass (C := (f16_C_c12 k R_l0)) (fun _ => rfl)) (ap_cons _ (f16_f_c12 k R_l0))))
noncomputable def f16_F_l0 (k : Nat) (G_l0 G_r11 G_c12 : f16_S) : f16_L := .c (f16_p 1000) 0 :: .c (f16_p 2002) 0 :: .j (fun σ => f16_a k (.c (f16_p 16024) 1 :: .c (f16_p 32050) 1 :: .c (f16_p 64102) 1 :: .j G_r11 :: f16_F_r11 k G_l0 G_c12) .nx σ) :: .c (f16_p 4007) 0 :: .j (fun σ => G_l0 (cut f16_A.loops 0 σ)) :: .blk 0 :: .c (f16_p 63) 0 :: []
theorem f16_f_l0 (k : Nat) (R_l0 : f16_S) : f16_a k (f16_Q_l0 k R_l0) = f16_a k (f16_F_l0 k R_l0 (f16_C_r11 k R_l0) (f16_C_c12 k R_l0)) := (Eq.trans ap_sq (ap_cons _ (Eq.trans ap_sq (ap_cons _ (Eq.trans ap_sq (Eq.trans (ap_bl 1) (Eq.trans (ap_j (Eq.trans ap_sq (ap_cons _ (Eq.trans ap_sq (ap_cons _ (Eq.trans ap_sq (ap_cons _ (Eq.trans (ap_pass (C := (f16_C_r11 k R_l0)) (fun _ => rfl)) (ap_cons _ (f16_f_r11 k R_l0)))))))))) (ap_cons _ (ap_cons _ (ap_cons _ (ap_cons _ (ap_cons _ rfl))))))))))))
def f16_entry_B (k : Nat) (g_r4 : f16_t_r4) (a0 : (Int × Td18)) (a1 : Int) (a2 : Int) : Option ((List Int) × Int × Unit) := ((f68 k (a0.1, (a0.2.1, a0.2.2)) ([a1])).bind fun r1 => (if ¬ (r1.1 = 0) then some ([], r1.1, ()) else (if a2 < 0 then (g_r4 a0.1 a0.2.1 a0.2.2 a1 a2 true) else (g_r4 a0.1 a0.2.1 a0.2.2 a1 a2 (decide (1073741824 < a2))))))
def f16_r4_B (k : Nat) (g_l0 : f16_t_l0) (y3_0 : Int) (y3_1 : Int) (y3_2 : (List (Int × (Int × (Int × (Int × Int)))))) (x1 : Int) (x2 : Int) (x25 : Bool) : Option ((List Int) × Int × Unit) := (if x25 = true then some ([], 1, ()) else ((f69 k ([(-1)]) y3_0).bind fun r1 => ((f70 k (y3_0, (y3_1, y3_2)) x1 x2).bind fun r2 => (g_l0 r1.1 y3_0 y3_1 y3_2 r2.1 x1 x2 (r2.1.length : Int) 0))))
def f16_l0_B (k : Nat) (g_r11 : f16_t_r11) (y29 : (List Int)) (y3_0 : Int) (y3_1 : Int) (y3_2 : (List (Int × (Int × (Int × (Int × Int)))))) (y33 : (List (Option (List Int)))) (x1 : Int) (x2 : Int) (x34 : Int) (x35 : Int) : Option ((List Int) × Int × Unit) := (if x35 < x34 then (if 0 ≤ x35 then (if x35 < (y33.length : Int) then (if 0 ≤ x35 then (if x35 < (y3_2.length : Int) then (if ¬ (isNilO (y33.getD ((x35).toNat) none) = true) then (if 0 ≤ (((y3_2.getD (x35).toNat (0, (0, (0, (0, 0))))).2).1) then (if (((y3_2.getD (x35).toNat (0, (0, (0, (0, 0))))).2).1) < (y29.length : Int) then (if (y29.getD ((((y3_2.getD (x35).toNat (0, (0, (0, (0, 0))))).2).1).toNat) 0) < 0 then (g_r11 ((y3_2.getD (x35).toNat (0, (0, (0, (0, 0))))).1) (((y3_2.getD (x35).toNat (0, (0, (0, (0, 0))))).2).1) ((((y3_2.getD (x35).toNat (0, (0, (0, (0, 0))))).2).2).1) (((((y3_2.getD (x35).toNat (0, (0, (0, (0, 0))))).2).2).2).1) (((((y3_2.getD (x35).toNat (0, (0, (0, (0, 0))))).2).2).2).2) y29 y3_0 y3_1 y3_2 y33 x1 x2 x34 x35 true) else (if 0 ≤ (((y3_2.getD (x35).toNat (0, (0, (0, (0, 0))))).2).1) then (if (((y3_2.getD (x35).toNat (0, (0, (0, (0, 0))))).2).1) < (y29.length : Int) then (g_r11 ((y3_2.getD (x35).toNat (0, (0, (0, (0, 0))))).1) (((y3_2.getD (x35).toNat (0, (0, (0, (0, 0))))).2).1) ((((y3_2.getD (x35).toNat (0, (0, (0, (0, 0))))).2).2).1) (((((y3_2.getD (x35).toNat (0, (0, (0, (0, 0))))).2).2).2).1) (((((y3_2.getD (x35).toNat (0, (0, (0, (0, 0))))).2).2).2).2) y29 y3_0 y3_1 y3_2 y33 x1 x2 x34 x35 (decide ((((((y3_2.getD (x35).toNat (0, (0, (0, (0, 0))))).2).2).2).1) < (y29.getD ((((y3_2.getD (x35).toNat (0, (0, (0, (0, 0))))).2).1).toNat) 0)))) else none) else none)) else none) else none) else (g_r11 ((y3_2.getD (x35).toNat (0, (0, (0, (0, 0))))).1) (((y3_2.getD (x35).toNat (0, (0, (0, (0, 0))))).2).1) ((((y3_2.getD (x35).toNat (0, (0, (0, (0, 0))))).2).2).1) (((((y3_2.getD (x35).toNat (0, (0, (0, (0, 0))))).2).2).2).1) (((((y3_2.getD (x35).toNat (0, (0, (0, (0, 0))))).2).2).2).2) y29 y3_0 y3_1 y3_2 y33 x1 x2 x34 x35 false)) else none) else none) else none) else none) else (if 0 ≤ x1 then (if x1 < (y29.length : Int) then some ((y29.set ((x1).toNat) x2), 0, ()) else none) else none))
def f16_r11_B (k : Nat) (g_c12 : f16_t_c12) (y12_0 : Int) (y12_1 : Int) (y12_2 : Int) (y12_3 : Int) (y12_4 : Int) (y29 : (List Int)) (y3_0 : Int) (y3_1 : Int) (y3_2 : (List (Int × (Int × (Int × (Int × Int)))))) (y33 : (List (Option (List Int)))) (x1 : Int) (x2 : Int) (x34 : Int) (x35 : Int) (x64 : Bool) : Option ((List Int) × Int × Unit) := (if x64 = true then (if 0 ≤ y12_1 then (if y12_1 < (y29.length : Int) then (g_c12 (y29.set ((y12_1).toNat) y12_3) y3_0 y3_1 y3_2 y33 x1 x2 x34 x35) else none) else none) else (g_c12 y29 y3_0 y3_1 y3_2 y33 x1 x2 x34 x35))
def f16_c12_B (k : Nat) (g_l0 : f16_t_l0) (y29 : (List Int)) (y3_0 : Int) (y3_1 : Int) (y3_2 : (List (Int × (Int × (Int × (Int × Int)))))) (y33 : (List (Option (List Int)))) (x1 : Int) (x2 : Int) (x34 : Int) (x35 : Int) : Option ((List Int) × Int × Unit) := (g_l0 y29 y3_0 y3_1 y3_2 y33 x1 x2 x34 (w64 (x35 + 1)))
theorem f16_c12_P (k : Nat) (G_l0 : f16_S) : f16_o_c12 (fun σ => f16_a k (f16_F_c12 k G_l0) .nx σ) = f16_c12_B k (f16_o_l0 G_l0) := by kernel_rfl
def f16_c12 (k : Nat) (r_l0 : f16_t_l0) : f16_t_c12 := f16_c12_B k r_l0
theorem f16_c12_E (k : Nat) (R_l0 : f16_S) : f16_o_c12 (f16_C_c12 k R_l0) = f16_c12 k (f16_o_l0 R_l0) :=
  Eq.trans (congrArg f16_o_c12 (ap_fn (f16_f_c12 k R_l0))) ((f16_c12_P k R_l0).trans (by rfl))
theorem f16_r11_P (k : Nat) (G_l0 G_c12 : f16_S) : f16_o_r11 (fun σ => f16_a k (f16_F_r11 k G_l0 G_c12) .nx σ) = f16_r11_B k (f16_o_c12 G_c12) := by kernel_rfl
def f16_r11 (k : Nat) (r_l0 : f16_t_l0) : f16_t_r11 := f16_r11_B k (f16_c12 k r_l0)
theorem f16_r11_E (k : Nat) (R_l0 : f16_S) : f16_o_r11 (f16_C_r11 k R_l0) = f16_r11 k (f16_o_l0 R_l0) :=
  Eq.trans (congrArg f16_o_r11 (ap_fn (f16_f_r11 k R_l0))) ((f16_r11_P k R_l0 (f16_C_c12 k R_l0)).trans (by rw [f16_c12_E k R_l0] <;> rfl))
theorem f16_l0_P (k : Nat) (G_l0 G_r11 G_c12 : f16_S) : f16_o_l0 (fun σ => f16_a k (f16_F_l0 k G_l0 G_r11 G_c12) .nx σ) = f16_l0_B k (f16_o_r11 G_r11) := by kernel_rfl
def f16_l0 (k : Nat) : Nat → f16_t_l0
  | 0 => fun _ _ _ _ _ _ _ _ _ => none
  | n + 1 => f16_l0_B k (f16_r11 k (f16_l0 k n))
theorem f16_l0_E (k : Nat) : ∀ n, f16_o_l0 (f16_C_l0 k n) = f16_l0 k n
  | 0 => rfl
  | n + 1 =>
    Eq.trans (congrArg f16_o_l0 (Eq.trans (b := fun σ => f16_a k (f16_Q_l0 k (f16_C_l0 k n)) .nx σ) (by kernel_rfl) (ap_fn (f16_f_l0 k (f16_C_l0 k n))))) ((f16_l0_P k (f16_C_l0 k n) (f16_C_r11 k (f16_C_l0 k n)) (f16_C_c12 k (f16_C_l0 k n))).trans (by rw [f16_r11_E k (f16_C_l0 k n), f16_l0_E k n] <;> rfl))
theorem f16_r4_P (k : Nat) (G_l0 : f16_S) : f16_o_r4 (fun σ => f16_a k (f16_F_r4 k G_l0) .nx σ) = f16_r4_B k (f16_o_l0 G_l0) := by kernel_rfl
def f16_r4 (k : Nat) : f16_t_r4 := f16_r4_B k (f16_l0 k k)
theorem f16_r4_E (k : Nat) : f16_o_r4 (f16_C_r4 k) = f16_r4 k :=
  Eq.trans (congrArg f16_o_r4 (ap_fn (f16_f_r4 k))) ((f16_r4_P k (f16_C_l0 k k)).trans (by rw [f16_l0_E k k] <;> rfl))
theorem f16_entry_P (k : Nat) (G_r4 G_l0 : f16_S) (xs : DL f16_sig) : f16_a k (.c (f16_p 2) 0 :: .c (f16_p 6) 0 :: .c (f16_p 28) 0 :: .j G_r4 :: f16_F_r4 k G_l0) .nx (σ0 77 240 f16_sig xs) = f16_entry_B k (f16_o_r4 G_r4) xs.1 xs.2.1 xs.2.2.1 := by kernel_rfl
def f16 (k : Nat) (a0 : (Int × Td18)) (a1 : Int) (a2 : Int) : Option ((List Int) × Int × Unit) := f16_entry_B k (f16_r4 k) a0 a1 a2
theorem f16_fe (k : Nat) : f16_a k [.c (f16_p 1) 0] = f16_a k (.c (f16_p 2) 0 :: .c (f16_p 6) 0 :: .c (f16_p 28) 0 :: .j (f16_C_r4 k) :: f16_F_r4 k (f16_C_l0 k k)) := (Eq.trans ap_sq (ap_cons _ (Eq.trans ap_sq (ap_cons _ (Eq.trans ap_sq (Eq.trans ap_sq (ap_cons _ (Eq.trans (ap_pass (C := (f16_C_r4 k)) (fun _ => rfl)) (ap_cons _ (f16_f_r4 k))))))))))
theorem f16_eq (k : Nat) (xs : DL f16_sig) : den T f16_Y (f16_E k) f16_A k f16_c 0 (σ0 77 240 f16_sig xs) (Kfin T f16_rs f16_ts) = f16 k xs.1 xs.2.1 xs.2.2.1 :=
  Eq.trans (Eq.trans den_sb (ap_at (f16_fe k) _)) ((f16_entry_P k (f16_C_r4 k) (f16_C_l0 k k) xs).trans (by rw [f16_r4_E k] <;> rfl))
noncomputable def f16_con (k : Nat) : Con := ⟨f16_sig, f16_rs, fun xs => f16 k xs.1 xs.2.1 xs.2.2.1⟩
theorem f16_ok (k : Nat) : PureOK Try.prog 16 f16_sig f16_rs (fun xs => f16 k xs.1 xs.2.1 xs.2.2.1) :=
  (pure_of_den (k := k) (A := f16_A) (T := T) (Y := f16_Y) (E := f16_E k) (M := 240) (ts := f16_ts) T_ok ⟨f68_ok k, f69_ok k, f70_ok k, trivial⟩ ⟨f68_ent, f69_ent, f70_ent, trivial⟩ mixed (f := 16) (fn := Try.f16) (c := f16_c) (by kernel_rfl) (by kernel_rfl) (by kernel_rfl) (by decide) (by kernel_rfl)).congr fun xs => (f16_eq k xs).symm
theorem f16_ent : Ent Try.prog 16 := fun args w => by kernel_rfl
/-! ### terrier/net.edge: function 91 -/
noncomputable def f91_c : Code := Try.f91.body.getD .skip
noncomputable abbrev f91_p (n : Nat) : Code := sb f91_c n
abbrev f91_sig : List PT := [(true, Tq9), (false, (.int .i64))]
abbrev f91_rs : List RT := [.d false .bool]
abbrev f91_ts : List RV := [.tmp 4]
abbrev f91_S := St → Option (RDL f91_rs)
abbrev f91_L := List (Fr (RDL f91_rs))
def f91_Y : Tys := []
noncomputable def f91_E (k : Nat) : Env := []
def f91_A : Ann := { regs := [(1, { slots := [(4, .bool)] })] }
noncomputable abbrev f91_a (k : Nat) (F : f91_L) : Kont (RDL f91_rs) := ap T f91_Y (f91_E k) f91_A k (Kfin T f91_rs f91_ts) F
def f91_s_r1 (x4 : Bool) : St := mkS 14 48 [(4, aB x4)] []
abbrev f91_t_r1 := Bool → Option (Bool × Unit)
abbrev f91_o_r1 (R : f91_S) : f91_t_r1 := (fun x4 => R (f91_s_r1 x4))
noncomputable def f91_Q_r1 (k : Nat) : f91_L := [.c (f91_p 7) 0]
noncomputable def f91_C_r1 (k : Nat) : f91_S := fun σ => f91_a k (f91_Q_r1 k) .nx σ
noncomputable def f91_F_r1 (k : Nat) : f91_L := .c (f91_p 7) 0 :: []
theorem f91_f_r1 (k : Nat) : f91_a k (f91_Q_r1 k) = f91_a k (f91_F_r1 k) := (ap_cons _ rfl)
def f91_entry_B (k : Nat) (g_r1 : f91_t_r1) (a0 : Td12) (a1 : Int) : Option (Bool × Unit) := (if 0 ≤ a1 then (g_r1 (decide (a1 < (a0.2.1.length : Int)))) else (g_r1 false))
def f91_r1_B (k : Nat) (x4 : Bool) : Option (Bool × Unit) := some (decide (x4 = true), ())
theorem f91_r1_P (k : Nat) : f91_o_r1 (fun σ => f91_a k (f91_F_r1 k) .nx σ) = f91_r1_B k := by kernel_rfl
def f91_r1 (k : Nat) : f91_t_r1 := f91_r1_B k
theorem f91_r1_E (k : Nat) : f91_o_r1 (f91_C_r1 k) = f91_r1 k :=
  Eq.trans (congrArg f91_o_r1 (ap_fn (f91_f_r1 k))) ((f91_r1_P k).trans (by rfl))
theorem f91_entry_P (k : Nat) (G_r1 : f91_S) (xs : DL f91_sig) : f91_a k (.c (f91_p 2) 0 :: .c (f91_p 6) 0 :: .j G_r1 :: f91_F_r1 k) .nx (σ0 14 48 f91_sig xs) = f91_entry_B k (f91_o_r1 G_r1) xs.1 xs.2.1 := by kernel_rfl
def f91 (k : Nat) (a0 : Td12) (a1 : Int) : Option (Bool × Unit) := f91_entry_B k (f91_r1 k) a0 a1
theorem f91_fe (k : Nat) : f91_a k [.c (f91_p 1) 0] = f91_a k (.c (f91_p 2) 0 :: .c (f91_p 6) 0 :: .j (f91_C_r1 k) :: f91_F_r1 k) := (Eq.trans ap_sq (ap_cons _ (Eq.trans ap_sq (ap_cons _ (Eq.trans (ap_pass (C := (f91_C_r1 k)) (fun _ => rfl)) (ap_cons _ (f91_f_r1 k)))))))
theorem f91_eq (k : Nat) (xs : DL f91_sig) : den T f91_Y (f91_E k) f91_A k f91_c 0 (σ0 14 48 f91_sig xs) (Kfin T f91_rs f91_ts) = f91 k xs.1 xs.2.1 :=
  Eq.trans (Eq.trans den_sb (ap_at (f91_fe k) _)) ((f91_entry_P k (f91_C_r1 k) xs).trans (by rw [f91_r1_E k] <;> rfl))
noncomputable def f91_con (k : Nat) : Con := ⟨f91_sig, f91_rs, fun xs => f91 k xs.1 xs.2.1⟩
theorem f91_ok (k : Nat) : PureOK Try.prog 91 f91_sig f91_rs (fun xs => f91 k xs.1 xs.2.1) :=
  (pure_of_den (k := k) (A := f91_A) (T := T) (Y := f91_Y) (E := f91_E k) (M := 48) (ts := f91_ts) T_ok trivial trivial mixed (f := 91) (fn := Try.f91) (c := f91_c) (by kernel_rfl) (by kernel_rfl) (by kernel_rfl) (by decide) (by kernel_rfl)).congr fun xs => (f91_eq k xs).symm
theorem f91_ent : Ent Try.prog 91 := fun args w => by kernel_rfl
/-! ### terrier/point.limit: function 159 -/
noncomputable def f159_c : Code := Try.f159.body.getD .skip
noncomputable abbrev f159_p (n : Nat) : Code := sb f159_c n
abbrev f159_sig : List PT := [(false, (.int .i64)), (false, (.int .i64))]
abbrev f159_rs : List RT := [.d false (.int .i64)]
abbrev f159_ts : List RV := [.tmp 4]
abbrev f159_S := St → Option (RDL f159_rs)
abbrev f159_L := List (Fr (RDL f159_rs))
def f159_Y : Tys := []
noncomputable def f159_E (k : Nat) : Env := []
def f159_A : Ann := {}
noncomputable abbrev f159_a (k : Nat) (F : f159_L) : Kont (RDL f159_rs) := ap T f159_Y (f159_E k) f159_A k (Kfin T f159_rs f159_ts) F
def f159_entry_B (k : Nat) (a0 : Int) (a1 : Int) : Option (Int × Unit) := some ((mx2 true (w64 (0 - a1)) (mx2 false a0 a1)), ())
theorem f159_entry_P (k : Nat) (xs : DL f159_sig) : f159_a k (.c (f159_p 1) 0 :: []) .nx (σ0 11 48 f159_sig xs) = f159_entry_B k xs.1 xs.2.1 := by kernel_rfl
def f159 (k : Nat) (a0 : Int) (a1 : Int) : Option (Int × Unit) := f159_entry_B k a0 a1
theorem f159_eq (k : Nat) (xs : DL f159_sig) : den T f159_Y (f159_E k) f159_A k f159_c 0 (σ0 11 48 f159_sig xs) (Kfin T f159_rs f159_ts) = f159 k xs.1 xs.2.1 :=
  Eq.trans (Eq.trans den_sb (ap_at (ap_cons _ rfl) _)) ((f159_entry_P k xs).trans (by rfl))
noncomputable def f159_con (k : Nat) : Con := ⟨f159_sig, f159_rs, fun xs => f159 k xs.1 xs.2.1⟩
theorem f159_ok (k : Nat) : PureOK Try.prog 159 f159_sig f159_rs (fun xs => f159 k xs.1 xs.2.1) :=
  (pure_of_den (k := k) (A := f159_A) (T := T) (Y := f159_Y) (E := f159_E k) (M := 48) (ts := f159_ts) T_ok trivial trivial mixed (f := 159) (fn := Try.f159) (c := f159_c) (by kernel_rfl) (by kernel_rfl) (by kernel_rfl) (by decide) (by kernel_rfl)).congr fun xs => (f159_eq k xs).symm
theorem f159_ent : Ent Try.prog 159 := fun args w => by kernel_rfl
/-! ### terrier/point.Clamp: function 118 -/
noncomputable def f118_c : Code := Try.f118.body.getD .skip
noncomputable abbrev f118_p (n : Nat) : Code := sb f118_c n
abbrev f118_sig : List PT := [(true, Tq2)]
abbrev f118_rs : List RT := [.d true Tq2]
abbrev f118_ts : List RV := [.cell 2 108]
abbrev f118_S := St → Option (RDL f118_rs)
abbrev f118_L := List (Fr (RDL f118_rs))
def f118_Y : Tys := []
noncomputable def f118_E (k : Nat) : Env := [(159, .c (f159_con k))]
def f118_A : Ann := {}
noncomputable abbrev f118_a (k : Nat) (F : f118_L) : Kont (RDL f118_rs) := ap T f118_Y (f118_E k) f118_A k (Kfin T f118_rs f118_ts) F
def f118_entry_B (k : Nat) (a0 : (Int × Int)) : Option ((Int × Int) × Unit) := ((f159 k a0.1 1048576).bind fun r1 => ((f159 k a0.2 1048576).bind fun r2 => some ((r1.1, r2.1), ())))
theorem f118_entry_P (k : Nat) (xs : DL f118_sig) : f118_a k (.c (f118_p 1) 0 :: []) .nx (σ0 10 32 f118_sig xs) = f118_entry_B k xs.1 := by kernel_rfl
def f118 (k : Nat) (a0 : (Int × Int)) : Option ((Int × Int) × Unit) := f118_entry_B k a0
theorem f118_eq (k : Nat) (xs : DL f118_sig) : den T f118_Y (f118_E k) f118_A k f118_c 0 (σ0 10 32 f118_sig xs) (Kfin T f118_rs f118_ts) = f118 k xs.1 :=
  Eq.trans (Eq.trans den_sb (ap_at (ap_cons _ rfl) _)) ((f118_entry_P k xs).trans (by rfl))
noncomputable def f118_con (k : Nat) : Con := ⟨f118_sig, f118_rs, fun xs => f118 k xs.1⟩
theorem f118_ok (k : Nat) : PureOK Try.prog 118 f118_sig f118_rs (fun xs => f118 k xs.1) :=
  (pure_of_den (k := k) (A := f118_A) (T := T) (Y := f118_Y) (E := f118_E k) (M := 32) (ts := f118_ts) T_ok ⟨f159_ok k, trivial⟩ ⟨f159_ent, trivial⟩ mixed (f := 118) (fn := Try.f118) (c := f118_c) (by kernel_rfl) (by kernel_rfl) (by kernel_rfl) (by decide) (by kernel_rfl)).congr fun xs => (f118_eq k xs).symm
theorem f118_ent : Ent Try.prog 118 := fun args w => by kernel_rfl
/-! ### terrier/point.Ok: function 137 -/
noncomputable def f137_c : Code := Try.f137.body.getD .skip
noncomputable abbrev f137_p (n : Nat) : Code := sb f137_c n
abbrev f137_sig : List PT := [(true, Tq2)]
abbrev f137_rs : List RT := [.d false .bool]
abbrev f137_ts : List RV := [.tmp 2]
abbrev f137_S := St → Option (RDL f137_rs)
abbrev f137_L := List (Fr (RDL f137_rs))
def f137_Y : Tys := []
noncomputable def f137_E (k : Nat) : Env := [(118, .c (f118_con k))]
def f137_A : Ann := {}
noncomputable abbrev f137_a (k : Nat) (F : f137_L) : Kont (RDL f137_rs) := ap T f137_Y (f137_E k) f137_A k (Kfin T f137_rs f137_ts) F
def f137_entry_B (k : Nat) (a0 : (Int × Int)) : Option (Bool × Unit) := ((f118 k (a0.1, a0.2)).bind fun r1 => some (decide ((a0.1 = r1.1.1) ∧ (a0.2 = r1.1.2)), ()))
theorem f137_entry_P (k : Nat) (xs : DL f137_sig) : f137_a k (.c (f137_p 1) 0 :: []) .nx (σ0 7 32 f137_sig xs) = f137_entry_B k xs.1 := by kernel_rfl
def f137 (k : Nat) (a0 : (Int × Int)) : Option (Bool × Unit) := f137_entry_B k a0
theorem f137_eq (k : Nat) (xs : DL f137_sig) : den T f137_Y (f137_E k) f137_A k f137_c 0 (σ0 7 32 f137_sig xs) (Kfin T f137_rs f137_ts) = f137 k xs.1 :=
  Eq.trans (Eq.trans den_sb (ap_at (ap_cons _ rfl) _)) ((f137_entry_P k xs).trans (by rfl))
noncomputable def f137_con (k : Nat) : Con := ⟨f137_sig, f137_rs, fun xs => f137 k xs.1⟩
theorem f137_ok (k : Nat) : PureOK Try.prog 137 f137_sig f137_rs (fun xs => f137 k xs.1) :=
  (pure_of_den (k := k) (A := f137_A) (T := T) (Y := f137_Y) (E := f137_E k) (M := 32) (ts := f137_ts) T_ok ⟨f118_ok k, trivial⟩ ⟨f118_ent, trivial⟩ mixed (f := 137) (fn := Try.f137) (c := f137_c) (by kernel_rfl) (by kernel_rfl) (by kernel_rfl) (by decide) (by kernel_rfl)).congr fun xs => (f137_eq k xs).symm
theorem f137_ent : Ent Try.prog 137 := fun args w => by kernel_rfl
/-! ### terrier/net.node: function 138 -/
noncomputable def f138_c : Code := Try.f138.body.getD .skip
noncomputable abbrev f138_p (n : Nat) : Code := sb f138_c n
abbrev f138_sig : List PT := [(true, Tq9), (false, (.int .i64))]
abbrev f138_rs : List RT := [.d false .bool]
abbrev f138_ts : List RV := [.tmp 4]
abbrev f138_S := St → Option (RDL f138_rs)
abbrev f138_L := List (Fr (RDL f138_rs))
def f138_Y : Tys := []
noncomputable def f138_E (k : Nat) : Env := []
def f138_A : Ann := { regs := [(1, { slots := [(4, .bool)] })] }
noncomputable abbrev f138_a (k : Nat) (F : f138_L) : Kont (RDL f138_rs) := ap T f138_Y (f138_E k) f138_A k (Kfin T f138_rs f138_ts) F
def f138_s_r1 (x4 : Bool) : St := mkS 14 48 [(4, aB x4)] []
abbrev f138_t_r1 := Bool → Option (Bool × Unit)
abbrev f138_o_r1 (R : f138_S) : f138_t_r1 := (fun x4 => R (f138_s_r1 x4))
noncomputable def f138_Q_r1 (k : Nat) : f138_L := [.c (f138_p 7) 0]
noncomputable def f138_C_r1 (k : Nat) : f138_S := fun σ => f138_a k (f138_Q_r1 k) .nx σ
noncomputable def f138_F_r1 (k : Nat) : f138_L := .c (f138_p 7) 0 :: []
theorem f138_f_r1 (k : Nat) : f138_a k (f138_Q_r1 k) = f138_a k (f138_F_r1 k) := (ap_cons _ rfl)
def f138_entry_B (k : Nat) (g_r1 : f138_t_r1) (a0 : Td12) (a1 : Int) : Option (Bool × Unit) := (if 0 ≤ a1 then (g_r1 (decide (a1 < (a0.1.length : Int)))) else (g_r1 false))
def f138_r1_B (k : Nat) (x4 : Bool) : Option (Bool × Unit) := some (decide (x4 = true), ())
theorem f138_r1_P (k : Nat) : f138_o_r1 (fun σ => f138_a k (f138_F_r1 k) .nx σ) = f138_r1_B k := by kernel_rfl
def f138_r1 (k : Nat) : f138_t_r1 := f138_r1_B k
theorem f138_r1_E (k : Nat) : f138_o_r1 (f138_C_r1 k) = f138_r1 k :=
  Eq.trans (congrArg f138_o_r1 (ap_fn (f138_f_r1 k))) ((f138_r1_P k).trans (by rfl))
theorem f138_entry_P (k : Nat) (G_r1 : f138_S) (xs : DL f138_sig) : f138_a k (.c (f138_p 2) 0 :: .c (f138_p 6) 0 :: .j G_r1 :: f138_F_r1 k) .nx (σ0 14 48 f138_sig xs) = f138_entry_B k (f138_o_r1 G_r1) xs.1 xs.2.1 := by kernel_rfl
def f138 (k : Nat) (a0 : Td12) (a1 : Int) : Option (Bool × Unit) := f138_entry_B k (f138_r1 k) a0 a1
theorem f138_fe (k : Nat) : f138_a k [.c (f138_p 1) 0] = f138_a k (.c (f138_p 2) 0 :: .c (f138_p 6) 0 :: .j (f138_C_r1 k) :: f138_F_r1 k) := (Eq.trans ap_sq (ap_cons _ (Eq.trans ap_sq (ap_cons _ (Eq.trans (ap_pass (C := (f138_C_r1 k)) (fun _ => rfl)) (ap_cons _ (f138_f_r1 k)))))))
theorem f138_eq (k : Nat) (xs : DL f138_sig) : den T f138_Y (f138_E k) f138_A k f138_c 0 (σ0 14 48 f138_sig xs) (Kfin T f138_rs f138_ts) = f138 k xs.1 xs.2.1 :=
  Eq.trans (Eq.trans den_sb (ap_at (f138_fe k) _)) ((f138_entry_P k (f138_C_r1 k) xs).trans (by rw [f138_r1_E k] <;> rfl))
noncomputable def f138_con (k : Nat) : Con := ⟨f138_sig, f138_rs, fun xs => f138 k xs.1 xs.2.1⟩
theorem f138_ok (k : Nat) : PureOK Try.prog 138 f138_sig f138_rs (fun xs => f138 k xs.1 xs.2.1) :=
  (pure_of_den (k := k) (A := f138_A) (T := T) (Y := f138_Y) (E := f138_E k) (M := 48) (ts := f138_ts) T_ok trivial trivial mixed (f := 138) (fn := Try.f138) (c := f138_c) (by kernel_rfl) (by kernel_rfl) (by kernel_rfl) (by decide) (by kernel_rfl)).congr fun xs => (f138_eq k xs).symm
theorem f138_ent : Ent Try.prog 138 := fun args w => by kernel_rfl
/-! ### terrier/net.Check: function 71 -/
noncomputable def f71_c : Code := Try.f71.body.getD .skip
noncomputable abbrev f71_p (n : Nat) : Code := sb f71_c n
abbrev f71_sig : List PT := [(true, Tq9)]
abbrev f71_rs : List RT := [.d false (.int .i64)]
abbrev f71_ts : List RV := [.tmp 2]
abbrev f71_S := St → Option (RDL f71_rs)
abbrev f71_L := List (Fr (RDL f71_rs))
def f71_Y : Tys := []
noncomputable def f71_E (k : Nat) : Env := [(91, .c (f91_con k)), (105, .c (f105_con k)), (126, .c (f126_con k)), (137, .c (f137_con k)), (138, .c (f138_con k))]
def f71_A : Ann := { regs := [(1, { slots := [(1, .id), (24, .bool)], keys := [(1, [.val false Tq2, .val false Tq6, .val false Tq2])] }), (14, { slots := [(1, .id), (6, .id), (44, .val false Tq6), (45, .id), (46, .id), (71, .bool)], keys := [(1, [.val false Tq2, .val false Tq6, .val false Tq2]), (6, [])] }), (22, { slots := [(1, .id), (7, .id), (8, .id), (79, .val false Tq2), (80, .id), (81, .id), (97, .bool)], keys := [(1, [.val false Tq2, .val false Tq6, .val false Tq2]), (8, [])] })], loops := [(0, { slots := [(1, .id), (26, .val false Tq2), (27, .id), (28, .id)], keys := [(1, [.val false Tq2, .val false Tq6, .val false Tq2])] }), (2, { slots := [(1, .id), (44, .val false Tq6), (45, .id), (46, .id)], keys := [(1, [.val false Tq2, .val false Tq6, .val false Tq2])] }), (4, { slots := [(1, .id), (79, .val false Tq2), (80, .id), (81, .id)], keys := [(1, [.val false Tq2, .val false Tq6, .val false Tq2])] })] }
noncomputable abbrev f71_a (k : Nat) (F : f71_L) : Kont (RDL f71_rs) := ap T f71_Y (f71_E k) f71_A k (Kfin T f71_rs f71_ts) F
def f71_s_r1 (y1_0 : (List (Int × Int))) (y1_1 : (List (Int × (Int × (Int × Int))))) (y1_2 : (List (Int × Int))) (x24 : Bool) : St := mkS 120 368 [(1, aP 1), (24, aB x24)] [(1, .box [cV Tq2 y1_0, cV Tq6 y1_1, cV Tq2 y1_2])]
abbrev f71_t_r1 := (List (Int × Int)) → (List (Int × (Int × (Int × Int)))) → (List (Int × Int)) → Bool → Option (Int × Unit)
abbrev f71_o_r1 (R : f71_S) : f71_t_r1 := (fun y1_0 y1_1 y1_2 x24 => R (f71_s_r1 y1_0 y1_1 y1_2 x24))
noncomputable def f71_Q_r1 (k : Nat) : f71_L := [.c (f71_p 13) 0, .c (f71_p 7) 0]
noncomputable def f71_C_r1 (k : Nat) : f71_S := fun σ => f71_a k (f71_Q_r1 k) .nx σ
def f71_s_l0 (y1_0 : (List (Int × Int))) (y1_1 : (List (Int × (Int × (Int × Int))))) (y1_2 : (List (Int × Int))) (x27 : Int) (x28 : Int) : St := mkS 120 368 [(1, aP 1), (26, aV Tq2 y1_0), (27, aI x27), (28, aI x28)] [(1, .box [cV Tq2 y1_0, cV Tq6 y1_1, cV Tq2 y1_2])]
abbrev f71_t_l0 := (List (Int × Int)) → (List (Int × (Int × (Int × Int)))) → (List (Int × Int)) → Int → Int → Option (Int × Unit)
abbrev f71_o_l0 (R : f71_S) : f71_t_l0 := (fun y1_0 y1_1 y1_2 x27 x28 => R (f71_s_l0 y1_0 y1_1 y1_2 x27 x28))
noncomputable def f71_Q_l0 (k : Nat) (R_l0 : f71_S) : f71_L := [.c (f71_p 116) 0, .j (fun σ => R_l0 (cut f71_A.loops 0 σ)), .blk 0, .c (f71_p 15) 0]
noncomputable def f71_C_l0 (k : Nat) (n : Nat) (σ : St) : Option (RDL f71_rs) := loopK (fun σ K => den T f71_Y (f71_E k) f71_A k (f71_p 116) 0 σ K) (cut f71_A.loops 0) (f71_a k [.blk 0, .c (f71_p 15) 0]) n σ
def f71_s_l2 (y1_0 : (List (Int × Int))) (y1_1 : (List (Int × (Int × (Int × Int))))) (y1_2 : (List (Int × Int))) (x45 : Int) (x46 : Int) : St := mkS 120 368 [(1, aP 1), (44, aV Tq6 y1_1), (45, aI x45), (46, aI x46)] [(1, .box [cV Tq2 y1_0, cV Tq6 y1_1, cV Tq2 y1_2])]
abbrev f71_t_l2 := (List (Int × Int)) → (List (Int × (Int × (Int × Int)))) → (List (Int × Int)) → Int → Int → Option (Int × Unit)
abbrev f71_o_l2 (R : f71_S) : f71_t_l2 := (fun y1_0 y1_1 y1_2 x45 x46 => R (f71_s_l2 y1_0 y1_1 y1_2 x45 x46))
noncomputable def f71_Q_l2 (k : Nat) (R_l2 : f71_S) : f71_L := [.c (f71_p 244) 2, .j (fun σ => R_l2 (cut f71_A.loops 2 σ)), .blk 2, .c (f71_p 31) 0]
noncomputable def f71_C_l2 (k : Nat) (n : Nat) (σ : St) : Option (RDL f71_rs) := loopK (fun σ K => den T f71_Y (f71_E k) f71_A k (f71_p 244) 2 σ K) (cut f71_A.loops 2) (f71_a k [.blk 2, .c (f71_p 31) 0]) n σ
def f71_s_r14 (y1_0 : (List (Int × Int))) (y1_1 : (List (Int × (Int × (Int × Int))))) (y1_2 : (List (Int × Int))) (y6_0 : Int) (y6_1 : Int) (y6_2 : Int) (y6_3 : Int) (x45 : Int) (x46 : Int) (x71 : Bool) : St := mkS 120 368 [(1, aP 1), (6, aP 6), (44, aV Tq6 y1_1), (45, aI x45), (46, aI x46), (71, aB x71)] [(1, .box [cV Tq2 y1_0, cV Tq6 y1_1, cV Tq2 y1_2]), (6, .box [cI y6_0, cI y6_1, cI y6_2, cI y6_3])]
abbrev f71_t_r14 := (List (Int × Int)) → (List (Int × (Int × (Int × Int)))) → (List (Int × Int)) → Int → Int → Int → Int → Int → Int → Bool → Option (Int × Unit)
abbrev f71_o_r14 (R : f71_S) : f71_t_r14 := (fun y1_0 y1_1 y1_2 y6_0 y6_1 y6_2 y6_3 x45 x46 x71 => R (f71_s_r14 y1_0 y1_1 y1_2 y6_0 y6_1 y6_2 y6_3 x45 x46 x71))
noncomputable def f71_Q_r14 (k : Nat) (R_l2 : f71_S) : f71_L := [.c (f71_p 31333) 3, .c (f71_p 15667) 3, .blk 3, .c (f71_p 1959) 2, .j (fun σ => R_l2 (cut f71_A.loops 2 σ)), .blk 2, .c (f71_p 31) 0]
noncomputable def f71_C_r14 (k : Nat) (R_l2 : f71_S) : f71_S := fun σ => f71_a k (f71_Q_r14 k R_l2) .nx σ
def f71_s_l4 (y1_0 : (List (Int × Int))) (y1_1 : (List (Int × (Int × (Int × Int))))) (y1_2 : (List (Int × Int))) (x80 : Int) (x81 : Int) : St := mkS 120 368 [(1, aP 1), (79, aV Tq2 y1_2), (80, aI x80), (81, aI x81)] [(1, .box [cV Tq2 y1_0, cV Tq6 y1_1, cV Tq2 y1_2])]
abbrev f71_t_l4 := (List (Int × Int)) → (List (Int × (Int × (Int × Int)))) → (List (Int × Int)) → Int → Int → Option (Int × Unit)
abbrev f71_o_l4 (R : f71_S) : f71_t_l4 := (fun y1_0 y1_1 y1_2 x80 x81 => R (f71_s_l4 y1_0 y1_1 y1_2 x80 x81))
noncomputable def f71_Q_l4 (k : Nat) (R_l4 : f71_S) : f71_L := [.c (f71_p 500) 4, .j (fun σ => R_l4 (cut f71_A.loops 4 σ)), .blk 4, .c (f71_p 63) 0]
noncomputable def f71_C_l4 (k : Nat) (n : Nat) (σ : St) : Option (RDL f71_rs) := loopK (fun σ K => den T f71_Y (f71_E k) f71_A k (f71_p 500) 4 σ K) (cut f71_A.loops 4) (f71_a k [.blk 4, .c (f71_p 63) 0]) n σ
def f71_s_r22 (y1_0 : (List (Int × Int))) (y1_1 : (List (Int × (Int × (Int × Int))))) (y1_2 : (List (Int × Int))) (y8_0 : Int) (y8_1 : Int) (x7 : Int) (x80 : Int) (x97 : Bool) : St := mkS 120 368 [(1, aP 1), (7, aI x7), (8, aP 8), (79, aV Tq2 y1_2), (80, aI x80), (81, aI x7), (97, aB x97)] [(1, .box [cV Tq2 y1_0, cV Tq6 y1_1, cV Tq2 y1_2]), (8, .box [cI y8_0, cI y8_1])]
abbrev f71_t_r22 := (List (Int × Int)) → (List (Int × (Int × (Int × Int)))) → (List (Int × Int)) → Int → Int → Int → Int → Bool → Option (Int × Unit)
abbrev f71_o_r22 (R : f71_S) : f71_t_r22 := (fun y1_0 y1_1 y1_2 y8_0 y8_1 x7 x80 x97 => R (f71_s_r22 y1_0 y1_1 y1_2 y8_0 y8_1 x7 x80 x97))
noncomputable def f71_Q_r22 (k : Nat) (R_l4 : f71_S) : f71_L := [.c (f71_p 64101) 5, .c (f71_p 32051) 5, .blk 5, .c (f71_p 4007) 4, .j (fun σ => R_l4 (cut f71_A.loops 4 σ)), .blk 4, .c (f71_p 63) 0]
noncomputable def f71_C_r22 (k : Nat) (R_l4 : f71_S) : f71_S := fun σ => f71_a k (f71_Q_r22 k R_l4) .nx σ
noncomputable def f71_F_r1 (k : Nat) (G_l0 G_l2 G_l4 : f71_S) : f71_L := .c (f71_p 13) 0 :: .c (f71_p 28) 0 :: .j (fun σ => f71_a k (.j (fun σ => G_l0 (cut f71_A.loops 0 σ)) :: .blk 0 :: .c (f71_p 60) 0 :: .j (fun σ => f71_a k (.j (fun σ => G_l2 (cut f71_A.loops 2 σ)) :: .blk 2 :: .c (f71_p 124) 0 :: .j (fun σ => f71_a k (.j (fun σ => G_l4 (cut f71_A.loops 4 σ)) :: .blk 4 :: .c (f71_p 63) 0 :: []) .nx σ) :: .c (f71_p 63) 0 :: []) .nx σ) :: .c (f71_p 124) 0 :: .j (fun σ => f71_a k (.j (fun σ => G_l4 (cut f71_A.loops 4 σ)) :: .blk 4 :: .c (f71_p 63) 0 :: []) .nx σ) :: .c (f71_p 63) 0 :: []) .nx σ) :: .c (f71_p 60) 0 :: .j (fun σ => f71_a k (.j (fun σ => G_l2 (cut f71_A.loops 2 σ)) :: .blk 2 :: .c (f71_p 124) 0 :: .j (fun σ => f71_a k (.j (fun σ => G_l4 (cut f71_A.loops 4 σ)) :: .blk 4 :: .c (f71_p 63) 0 :: []) .nx σ) :: .c (f71_p 63) 0 :: []) .nx σ) :: .c (f71_p 124) 0 :: .j (fun σ => f71_a k (.j (fun σ => G_l4 (cut f71_A.loops 4 σ)) :: .blk 4 :: .c (f71_p 63) 0 :: []) .nx σ) :: .c (f71_p 63) 0 :: []
theorem f71_f_r1 (k : Nat) : f71_a k (f71_Q_r1 k) = f71_a k (f71_F_r1 k (f71_C_l0 k k) (f71_C_l2 k k) (f71_C_l4 k k)) := (ap_cons _ (Eq.trans ap_sq (Eq.trans ap_sq (ap_cons _ (Eq.trans (ap_bl 0) (Eq.trans (ap_j (Eq.trans (ap_lp (C := (f71_C_l0 k)) (fun _ _ => rfl)) (ap_cons _ (ap_cons _ (Eq.trans ap_sq (Eq.trans ap_sq (ap_cons _ (Eq.trans (ap_bl 2) (Eq.trans (ap_j (Eq.trans (ap_lp (C := (f71_C_l2 k)) (fun _ _ => rfl)) (ap_cons _ (ap_cons _ (Eq.trans ap_sq (Eq.trans ap_sq (ap_cons _ (Eq.trans (ap_bl 4) (Eq.trans (ap_j (Eq.trans (ap_lp (C := (f71_C_l4 k)) (fun _ _ => rfl)) (ap_cons _ (ap_cons _ (ap_cons _ rfl))))) (ap_cons _ (ap_cons _ rfl))))))))))) (ap_cons _ (Eq.trans ap_sq (Eq.trans ap_sq (ap_cons _ (Eq.trans (ap_bl 4) (Eq.trans (ap_j (Eq.trans (ap_lp (C := (f71_C_l4 k)) (fun _ _ => rfl)) (ap_cons _ (ap_cons _ (ap_cons _ rfl))))) (ap_cons _ (ap_cons _ rfl))))))))))))))))) (ap_cons _ (Eq.trans ap_sq (Eq.trans ap_sq (ap_cons _ (Eq.trans (ap_bl 2) (Eq.trans (ap_j (Eq.trans (ap_lp (C := (f71_C_l2 k)) (fun _ _ => rfl)) (ap_cons _ (ap_cons _ (Eq.trans ap_sq (Eq.trans ap_sq (ap_cons _ (Eq.trans (ap_bl 4) (Eq.trans (ap_j (Eq.trans (ap_lp (C := (f71_C_l4 k)) (fun _ _ => rfl)) (ap_cons _ (ap_cons _ (ap_cons _ rfl))))) (ap_cons _ (ap_cons _ rfl))))))))))) (ap_cons _ (Eq.trans ap_sq (Eq.trans ap_sq (ap_cons _ (Eq.trans (ap_bl 4) (Eq.trans (ap_j (Eq.trans (ap_lp (C := (f71_C_l4 k)) (fun _ _ => rfl)) (ap_cons _ (ap_cons _ (ap_cons _ rfl))))) (ap_cons _ (ap_cons _ rfl))))))))))))))))))))
noncomputable def f71_F_l0 (k : Nat) (G_l0 G_l2 G_l4 : f71_S) : f71_L := .c (f71_p 116) 0 :: .j (fun σ => G_l0 (cut f71_A.loops 0 σ)) :: .blk 0 :: .c (f71_p 60) 0 :: .j (fun σ => f71_a k (.j (fun σ => G_l2 (cut f71_A.loops 2 σ)) :: .blk 2 :: .c (f71_p 124) 0 :: .j (fun σ => f71_a k (.j (fun σ => G_l4 (cut f71_A.loops 4 σ)) :: .blk 4 :: .c (f71_p 63) 0 :: []) .nx σ) :: .c (f71_p 63) 0 :: []) .nx σ) :: .c (f71_p 124) 0 :: .j (fun σ => f71_a k (.j (fun σ => G_l4 (cut f71_A.loops 4 σ)) :: .blk 4 :: .c (f71_p 63) 0 :: []) .nx σ) :: .c (f71_p 63) 0 :: []
theorem f71_f_l0 (k : Nat) (R_l0 : f71_S) : f71_a k (f71_Q_l0 k R_l0) = f71_a k (f71_F_l0 k R_l0 (f71_C_l2 k k) (f71_C_l4 k k)) := (ap_cons _ (ap_cons _ (ap_cons _ (Eq.trans ap_sq (Eq.trans ap_sq (ap_cons _ (Eq.trans (ap_bl 2) (Eq.trans (ap_j (Eq.trans (ap_lp (C := (f71_C_l2 k)) (fun _ _ => rfl)) (ap_cons _ (ap_cons _ (Eq.trans ap_sq (Eq.trans ap_sq (ap_cons _ (Eq.trans (ap_bl 4) (Eq.trans (ap_j (Eq.trans (ap_lp (C := (f71_C_l4 k)) (fun _ _ => rfl)) (ap_cons _ (ap_cons _ (ap_cons _ rfl))))) (ap_cons _ (ap_cons _ rfl))))))))))) (ap_cons _ (Eq.trans ap_sq (Eq.trans ap_sq (ap_cons _ (Eq.trans (ap_bl 4) (Eq.trans (ap_j (Eq.trans (ap_lp (C := (f71_C_l4 k)) (fun _ _ => rfl)) (ap_cons _ (ap_cons _ (ap_cons _ rfl))))) (ap_cons _ (ap_cons _ rfl))))))))))))))))
noncomputable def f71_F_r14 (k : Nat) (G_l2 G_l4 : f71_S) : f71_L := .c (f71_p 31333) 3 :: .c (f71_p 15667) 3 :: .blk 3 :: .c (f71_p 1959) 2 :: .j (fun σ => G_l2 (cut f71_A.loops 2 σ)) :: .blk 2 :: .c (f71_p 124) 0 :: .j (fun σ => f71_a k (.j (fun σ => G_l4 (cut f71_A.loops 4 σ)) :: .blk 4 :: .c (f71_p 63) 0 :: []) .nx σ) :: .c (f71_p 63) 0 :: []
theorem f71_f_r14 (k : Nat) (R_l2 : f71_S) : f71_a k (f71_Q_r14 k R_l2) = f71_a k (f71_F_r14 k R_l2 (f71_C_l4 k k)) := (ap_cons _ (ap_cons _ (ap_cons _ (ap_cons _ (ap_cons _ (ap_cons _ (Eq.trans ap_sq (Eq.trans ap_sq (ap_cons _ (Eq.trans (ap_bl 4) (Eq.trans (ap_j (Eq.trans (ap_lp (C := (f71_C_l4 k)) (fun _ _ => rfl)) (ap_cons _ (ap_cons _ (ap_cons _ rfl))))) (ap_cons _ (ap_cons _ rfl)))))))))))))
noncomputable def f71_F_l2 (k : Nat) (G_l2 G_r14 G_l4 : f71_S) : f71_L := .c (f71_p 488) 2 :: .c (f71_p 978) 2 :: .j (fun σ => f71_a k (.c (f71_p 7832) 3 :: .c (f71_p 31332) 3 :: .j G_r14 :: f71_F_r14 k G_l2 G_l4) .nx σ) :: .c (f71_p 1959) 2 :: .j (fun σ => G_l2 (cut f71_A.loops 2 σ)) :: .blk 2 :: .c (f71_p 124) 0 :: .j (fun σ => f71_a k (.j (fun σ => G_l4 (cut f71_A.loops 4 σ)) :: .blk 4 :: .c (f71_p 63) 0 :: []) .nx σ) :: .c (f71_p 63) 0 :: []
theorem f71_f_l2 (k : Nat) (R_l2 : f71_S) : f71_a k (f71_Q_l2 k R_l2) = f71_a k (f71_F_l2 k R_l2 (f71_C_r14 k R_l2) (f71_C_l4 k k)) := (Eq.trans ap_sq (ap_cons _ (Eq.trans ap_sq (ap_cons _ (Eq.trans ap_sq (Eq.trans (ap_bl 3) (Eq.trans (ap_j (Eq.trans ap_sq (ap_cons _ (Eq.trans ap_sq (Eq.trans ap_sq (ap_cons _ (Eq.trans (ap_pass (C := (f71_C_r14 k R_l2)) (fun _ => rfl)) (ap_cons _ (f71_f_r14 k R_l2))))))))) (ap_cons _ (ap_cons _ (ap_cons _ (ap_cons _ (Eq.trans ap_sq (Eq.trans ap_sq (ap_cons _ (Eq.trans (ap_bl 4) (Eq.trans (ap_j (Eq.trans (ap_lp (C := (f71_C_l4 k)) (fun _ _ => rfl)) (ap_cons _ (ap_cons _ (ap_cons _ rfl))))) (ap_cons _ (ap_cons _ rfl))))))))))))))))))
noncomputable def f71_F_r22 (k : Nat) (G_l4 : f71_S) : f71_L := .c (f71_p 64101) 5 :: .c (f71_p 32051) 5 :: .blk 5 :: .c (f71_p 4007) 4 :: .j (fun σ => G_l4 (cut f71_A.loops 4 σ)) :: .blk 4 :: .c (f71_p 63) 0 :: []
theorem f71_f_r22 (k : Nat) (R_l4 : f71_S) : f71_a k (f71_Q_r22 k R_l4) = f71_a k (f71_F_r22 k R_l4) := (ap_cons _ (ap_cons _ (ap_cons _ (ap_cons _ (ap_cons _ (ap_cons _ (ap_cons _ rfl)))))))
noncomputable def f71_F_l4 (k : Nat) (G_l4 G_r22 : f71_S) : f71_L := .c (f71_p 1000) 4 :: .c (f71_p 2002) 4 :: .j (fun σ => f71_a k (.c (f71_p 16024) 5 :: .c (f71_p 64100) 5 :: .j G_r22 :: f71_F_r22 k G_l4) .nx σ) :: .c (f71_p 4007) 4 :: .j (fun σ => G_l4 (cut f71_A.loops 4 σ)) :: .blk 4 :: .c (f71_p 63) 0 :: []
theorem f71_f_l4 (k : Nat) (R_l4 : f71_S) : f71_a k (f71_Q_l4 k R_l4) = f71_a k (f71_F_l4 k R_l4 (f71_C_r22 k R_l4)) := (Eq.trans ap_sq (ap_cons _ (Eq.trans ap_sq (ap_cons _ (Eq.trans ap_sq (Eq.trans (ap_bl 5) (Eq.trans (ap_j (Eq.trans ap_sq (ap_cons _ (Eq.trans ap_sq (Eq.trans ap_sq (ap_cons _ (Eq.trans (ap_pass (C := (f71_C_r22 k R_l4)) (fun _ => rfl)) (ap_cons _ (f71_f_r22 k R_l4))))))))) (ap_cons _ (ap_cons _ (ap_cons _ (ap_cons _ (ap_cons _ rfl))))))))))))
def f71_entry_B (k : Nat) (g_r1 : f71_t_r1) (a0 : Td12) : Option (Int × Unit) := (if 200 < (a0.1.length : Int) then (g_r1 a0.1 a0.2.1 a0.2.2 true) else (if 600 < (a0.2.1.length : Int) then (g_r1 a0.1 a0.2.1 a0.2.2 true) else (g_r1 a0.1 a0.2.1 a0.2.2 (decide (600 < (a0.2.2.length : Int))))))
def f71_r1_B (k : Nat) (g_l0 : f71_t_l0) (y1_0 : (List (Int × Int))) (y1_1 : (List (Int × (Int × (Int × Int))))) (y1_2 : (List (Int × Int))) (x24 : Bool) : Option (Int × Unit) := (if x24 = true then some (2, ()) else (g_l0 y1_0 y1_1 y1_2 (y1_0.length : Int) 0))
def f71_l0_B (k : Nat) (g_l0 : f71_t_l0) (g_l2 : f71_t_l2) (y1_0 : (List (Int × Int))) (y1_1 : (List (Int × (Int × (Int × Int))))) (y1_2 : (List (Int × Int))) (x27 : Int) (x28 : Int) : Option (Int × Unit) := (if x28 < x27 then (if 0 ≤ x28 then (if x28 < (y1_0.length : Int) then ((f137 k ((y1_0.getD (x28).toNat (0, 0)).1, (y1_0.getD (x28).toNat (0, 0)).2)).bind fun r1 => (if ¬ (r1.1 = true) then some (1, ()) else (if 0 ≤ x28 then (if x28 ≤ (y1_0.length : Int) then ((f126 k (y1_0.take (x28).toNat) ((y1_0.getD (x28).toNat (0, 0)).1, (y1_0.getD (x28).toNat (0, 0)).2)).bind fun r2 => (if r2.1 = true then some (5, ()) else (g_l0 y1_0 y1_1 y1_2 x27 (w64 (x28 + 1))))) else none) else none))) else none) else none) else (g_l2 y1_0 y1_1 y1_2 (y1_1.length : Int) 0))
def f71_l2_B (k : Nat) (g_r14 : f71_t_r14) (g_l4 : f71_t_l4) (y1_0 : (List (Int × Int))) (y1_1 : (List (Int × (Int × (Int × Int))))) (y1_2 : (List (Int × Int))) (x45 : Int) (x46 : Int) : Option (Int × Unit) := (if x46 < x45 then (if 0 ≤ x46 then (if x46 < (y1_1.length : Int) then ((f138 k (y1_0, (y1_1, y1_2)) ((y1_1.getD (x46).toNat (0, (0, (0, 0)))).1)).bind fun r1 => (if ¬ (r1.1 = true) then (g_r14 y1_0 y1_1 y1_2 ((y1_1.getD (x46).toNat (0, (0, (0, 0)))).1) (((y1_1.getD (x46).toNat (0, (0, (0, 0)))).2).1) ((((y1_1.getD (x46).toNat (0, (0, (0, 0)))).2).2).1) ((((y1_1.getD (x46).toNat (0, (0, (0, 0)))).2).2).2) x45 x46 true) else ((f138 k (y1_0, (y1_1, y1_2)) (((y1_1.getD (x46).toNat (0, (0, (0, 0)))).2).1)).bind fun r2 => (if ¬ (r2.1 = true) then (g_r14 y1_0 y1_1 y1_2 ((y1_1.getD (x46).toNat (0, (0, (0, 0)))).1) (((y1_1.getD (x46).toNat (0, (0, (0, 0)))).2).1) ((((y1_1.getD (x46).toNat (0, (0, (0, 0)))).2).2).1) ((((y1_1.getD (x46).toNat (0, (0, (0, 0)))).2).2).2) x45 x46 true) else (if ((((y1_1.getD (x46).toNat (0, (0, (0, 0)))).2).2).1) < 0 then (g_r14 y1_0 y1_1 y1_2 ((y1_1.getD (x46).toNat (0, (0, (0, 0)))).1) (((y1_1.getD (x46).toNat (0, (0, (0, 0)))).2).1) ((((y1_1.getD (x46).toNat (0, (0, (0, 0)))).2).2).1) ((((y1_1.getD (x46).toNat (0, (0, (0, 0)))).2).2).2) x45 x46 true) else (g_r14 y1_0 y1_1 y1_2 ((y1_1.getD (x46).toNat (0, (0, (0, 0)))).1) (((y1_1.getD (x46).toNat (0, (0, (0, 0)))).2).1) ((((y1_1.getD (x46).toNat (0, (0, (0, 0)))).2).2).1) ((((y1_1.getD (x46).toNat (0, (0, (0, 0)))).2).2).2) x45 x46 (decide (1099511627776 < ((((y1_1.getD (x46).toNat (0, (0, (0, 0)))).2).2).1))))))))) else none) else none) else (g_l4 y1_0 y1_1 y1_2 (y1_2.length : Int) 0))
def f71_r14_B (k : Nat) (g_l2 : f71_t_l2) (y1_0 : (List (Int × Int))) (y1_1 : (List (Int × (Int × (Int × Int))))) (y1_2 : (List (Int × Int))) (y6_0 : Int) (y6_1 : Int) (y6_2 : Int) (y6_3 : Int) (x45 : Int) (x46 : Int) (x71 : Bool) : Option (Int × Unit) := (if x71 = true then some (1, ()) else (if y6_0 = y6_1 then some (11, ()) else (g_l2 y1_0 y1_1 y1_2 x45 (w64 (x46 + 1)))))
def f71_l4_B (k : Nat) (g_r22 : f71_t_r22) (y1_0 : (List (Int × Int))) (y1_1 : (List (Int × (Int × (Int × Int))))) (y1_2 : (List (Int × Int))) (x80 : Int) (x81 : Int) : Option (Int × Unit) := (if x81 < x80 then (if 0 ≤ x81 then (if x81 < (y1_2.length : Int) then ((f91 k (y1_0, (y1_1, y1_2)) ((y1_2.getD (x81).toNat (0, 0)).1)).bind fun r1 => (if ¬ (r1.1 = true) then (g_r22 y1_0 y1_1 y1_2 ((y1_2.getD (x81).toNat (0, 0)).1) ((y1_2.getD (x81).toNat (0, 0)).2) x81 x80 true) else ((f91 k (y1_0, (y1_1, y1_2)) ((y1_2.getD (x81).toNat (0, 0)).2)).bind fun r2 => (g_r22 y1_0 y1_1 y1_2 ((y1_2.getD (x81).toNat (0, 0)).1) ((y1_2.getD (x81).toNat (0, 0)).2) x81 x80 (decide (¬ (r2.1 = true))))))) else none) else none) else some (0, ()))
def f71_r22_B (k : Nat) (g_l4 : f71_t_l4) (y1_0 : (List (Int × Int))) (y1_1 : (List (Int × (Int × (Int × Int))))) (y1_2 : (List (Int × Int))) (y8_0 : Int) (y8_1 : Int) (x7 : Int) (x80 : Int) (x97 : Bool) : Option (Int × Unit) := (if x97 = true then some (1, ()) else (if 0 ≤ y8_0 then (if y8_0 < (y1_1.length : Int) then (if 0 ≤ y8_1 then (if y8_1 < (y1_1.length : Int) then (if ¬ ((((y1_1.getD (y8_0).toNat (0, (0, (0, 0)))).2).1) = ((y1_1.getD (y8_1).toNat (0, (0, (0, 0)))).1)) then some (9, ()) else (if 0 ≤ x7 then (if x7 ≤ (y1_2.length : Int) then ((f105 k (y1_2.take (x7).toNat) (y8_0, y8_1)).bind fun r1 => (if r1.1 = true then some (5, ()) else (g_l4 y1_0 y1_1 y1_2 x80 (w64 (x7 + 1))))) else none) else none)) else none) else none) else none) else none))
theorem f71_r14_P (k : Nat) (G_l2 G_l4 : f71_S) : f71_o_r14 (fun σ => f71_a k (f71_F_r14 k G_l2 G_l4) .nx σ) = f71_r14_B k (f71_o_l2 G_l2) := by kernel_rfl
def f71_r14 (k : Nat) (r_l2 : f71_t_l2) : f71_t_r14 := f71_r14_B k r_l2
theorem f71_r14_E (k : Nat) (R_l2 : f71_S) : f71_o_r14 (f71_C_r14 k R_l2) = f71_r14 k (f71_o_l2 R_l2) :=
  Eq.trans (congrArg f71_o_r14 (ap_fn (f71_f_r14 k R_l2))) ((f71_r14_P k R_l2 (f71_C_l4 k k)).trans (by rfl))
theorem f71_r22_P (k : Nat) (G_l4 : f71_S) : f71_o_r22 (fun σ => f71_a k (f71_F_r22 k G_l4) .nx σ) = f71_r22_B k (f71_o_l4 G_l4) := by kernel_rfl
def f71_r22 (k : Nat) (r_l4 : f71_t_l4) : f71_t_r22 := f71_r22_B k r_l4
theorem f71_r22_E (k : Nat) (R_l4 : f71_S) : f71_o_r22 (f71_C_r22 k R_l4) = f71_r22 k (f71_o_l4 R_l4) :=
  Eq.trans (congrArg f71_o_r22 (ap_fn (f71_f_r22 k R_l4))) ((f71_r22_P k R_l4).trans (by rfl))
theorem f71_l4_P (k : Nat) (G_l4 G_r22 : f71_S) : f71_o_l4 (fun σ => f71_a k (f71_F_l4 k G_l4 G_r22) .nx σ) = f71_l4_B k (f71_o_r22 G_r22) := by kernel_rfl
def f71_l4 (k : Nat) : Nat → f71_t_l4
  | 0 => fun _ _ _ _ _ => none
  | n + 1 => f71_l4_B k (f71_r22 k (f71_l4 k n))
theorem f71_l4_E (k : Nat) : ∀ n, f71_o_l4 (f71_C_l4 k n) = f71_l4 k n
  | 0 => rfl
  | n + 1 =>
    Eq.trans (congrArg f71_o_l4 (Eq.trans (b := fun σ => f71_a k (f71_Q_l4 k (f71_C_l4 k n)) .nx σ) (by kernel_rfl) (ap_fn (f71_f_l4 k (f71_C_l4 k n))))) ((f71_l4_P k (f71_C_l4 k n) (f71_C_r22 k (f71_C_l4 k n))).trans (by rw [f71_r22_E k (f71_C_l4 k n), f71_l4_E k n] <;> rfl))
theorem f71_l2_P (k : Nat) (G_l2 G_r14 G_l4 : f71_S) : f71_o_l2 (fun σ => f71_a k (f71_F_l2 k G_l2 G_r14 G_l4) .nx σ) = f71_l2_B k (f71_o_r14 G_r14) (f71_o_l4 G_l4) := by kernel_rfl
def f71_l2 (k : Nat) : Nat → f71_t_l2
  | 0 => fun _ _ _ _ _ => none
  | n + 1 => f71_l2_B k (f71_r14 k (f71_l2 k n)) (f71_l4 k k)
theorem f71_l2_E (k : Nat) : ∀ n, f71_o_l2 (f71_C_l2 k n) = f71_l2 k n
  | 0 => rfl
  | n + 1 =>
    Eq.trans (congrArg f71_o_l2 (Eq.trans (b := fun σ => f71_a k (f71_Q_l2 k (f71_C_l2 k n)) .nx σ) (by kernel_rfl) (ap_fn (f71_f_l2 k (f71_C_l2 k n))))) ((f71_l2_P k (f71_C_l2 k n) (f71_C_r14 k (f71_C_l2 k n)) (f71_C_l4 k k)).trans (by rw [f71_r14_E k (f71_C_l2 k n), f71_l4_E k k, f71_l2_E k n] <;> rfl))
theorem f71_l0_P (k : Nat) (G_l0 G_l2 G_l4 : f71_S) : f71_o_l0 (fun σ => f71_a k (f71_F_l0 k G_l0 G_l2 G_l4) .nx σ) = f71_l0_B k (f71_o_l0 G_l0) (f71_o_l2 G_l2) := by kernel_rfl
def f71_l0 (k : Nat) : Nat → f71_t_l0
  | 0 => fun _ _ _ _ _ => none
  | n + 1 => f71_l0_B k (f71_l0 k n) (f71_l2 k k)
theorem f71_l0_E (k : Nat) : ∀ n, f71_o_l0 (f71_C_l0 k n) = f71_l0 k n
  | 0 => rfl
  | n + 1 =>
    Eq.trans (congrArg f71_o_l0 (Eq.trans (b := fun σ => f71_a k (f71_Q_l0 k (f71_C_l0 k n)) .nx σ) (by kernel_rfl) (ap_fn (f71_f_l0 k (f71_C_l0 k n))))) ((f71_l0_P k (f71_C_l0 k n) (f71_C_l2 k k) (f71_C_l4 k k)).trans (by rw [f71_l2_E k k, f71_l0_E k n] <;> rfl))
theorem f71_r1_P (k : Nat) (G_l0 G_l2 G_l4 : f71_S) : f71_o_r1 (fun σ => f71_a k (f71_F_r1 k G_l0 G_l2 G_l4) .nx σ) = f71_r1_B k (f71_o_l0 G_l0) := by kernel_rfl
def f71_r1 (k : Nat) : f71_t_r1 := f71_r1_B k (f71_l0 k k)
theorem f71_r1_E (k : Nat) : f71_o_r1 (f71_C_r1 k) = f71_r1 k :=
  Eq.trans (congrArg f71_o_r1 (ap_fn (f71_f_r1 k))) ((f71_r1_P k (f71_C_l0 k k) (f71_C_l2 k k) (f71_C_l4 k k)).trans (by rw [f71_l0_E k k] <;> rfl))
theorem f71_entry_P (k : Nat) (G_r1 G_l0 G_l2 G_l4 : f71_S) (xs : DL f71_sig) : f71_a k (.c (f71_p 2) 0 :: .c (f71_p 12) 0 :: .j G_r1 :: f71_F_r1 k G_l0 G_l2 G_l4) .nx (σ0 120 368 f71_sig xs) = f71_entry_B k (f71_o_r1 G_r1) xs.1 := by kernel_rfl
def f71 (k : Nat) (a0 : Td12) : Option (Int × Unit) := f71_entry_B k (f71_r1 k) a0
theorem f71_fe (k : Nat) : f71_a k [.c (f71_p 1) 0] = f71_a k (.c (f71_p 2) 0 :: .c (f71_p 12) 0 :: .j (f71_C_r1 k) :: f71_F_r1 k (f71_C_l0 k k) (f71_C_l2 k k) (f71_C_l4 k k)) := (Eq.trans ap_sq (ap_cons _ (Eq.trans ap_sq (Eq.trans ap_sq (ap_cons _ (Eq.trans (ap_pass (C := (f71_C_r1 k)) (fun _ => rfl)) (ap_cons _ (f71_f_r1 k))))))))
theorem f71_eq (k : Nat) (xs : DL f71_sig) : den T f71_Y (f71_E k) f71_A k f71_c 0 (σ0 120 368 f71_sig xs) (Kfin T f71_rs f71_ts) = f71 k xs.1 :=
  Eq.trans (Eq.trans den_sb (ap_at (f71_fe k) _)) ((f71_entry_P k (f71_C_r1 k) (f71_C_l0 k k) (f71_C_l2 k k) (f71_C_l4 k k) xs).trans (by rw [f71_r1_E k] <;> rfl))
noncomputable def f71_con (k : Nat) : Con := ⟨f71_sig, f71_rs, fun xs => f71 k xs.1⟩
theorem f71_ok (k : Nat) : PureOK Try.prog 71 f71_sig f71_rs (fun xs => f71 k xs.1) :=
  (pure_of_den (k := k) (A := f71_A) (T := T) (Y := f71_Y) (E := f71_E k) (M := 368) (ts := f71_ts) T_ok ⟨f91_ok k, f105_ok k, f126_ok k, f137_ok k, f138_ok k, trivial⟩ ⟨f91_ent, f105_ent, f126_ent, f137_ent, f138_ent, trivial⟩ mixed (f := 71) (fn := Try.f71) (c := f71_c) (by kernel_rfl) (by kernel_rfl) (by kernel_rfl) (by decide) (by kernel_rfl)).congr fun xs => (f71_eq k xs).symm
theorem f71_ent : Ent Try.prog 71 := fun args w => by kernel_rfl
/-! ### terrier/cost.Check: function 72 -/
noncomputable def f72_c : Code := Try.f72.body.getD .skip
noncomputable abbrev f72_p (n : Nat) : Code := sb f72_c n
abbrev f72_sig : List PT := [(false, Tq3)]
abbrev f72_rs : List RT := [.d false (.int .i64)]
abbrev f72_ts : List RV := [.tmp 2]
abbrev f72_S := St → Option (RDL f72_rs)
abbrev f72_L := List (Fr (RDL f72_rs))
def f72_Y : Tys := []
noncomputable def f72_E (k : Nat) : Env := []
def f72_A : Ann := { loops := [(0, { slots := [(0, .val false Tq2), (11, .val false Tq2), (12, .id), (13, .id)] })], regs := [(8, { slots := [(0, .val false Tq2), (3, .id), (4, .id), (11, .val false Tq2), (12, .id), (13, .id), (35, .bool)], keys := [(4, [])] }), (10, { slots := [(0, .val false Tq2), (3, .id), (4, .id), (11, .val false Tq2), (12, .id), (13, .id), (48, .bool)], keys := [(4, [])] }), (12, { slots := [(0, .val false Tq2), (11, .val false Tq2), (12, .id), (13, .id), (71, .bool)] })] }
noncomputable abbrev f72_a (k : Nat) (F : f72_L) : Kont (RDL f72_rs) := ap T f72_Y (f72_E k) f72_A k (Kfin T f72_rs f72_ts) F
def f72_s_l0 (x0 : (List (Int × Int))) (x12 : Int) (x13 : Int) : St := mkS 73 224 [(0, aV Tq2 x0), (11, aV Tq2 x0), (12, aI x12), (13, aI x13)] []
abbrev f72_t_l0 := (List (Int × Int)) → Int → Int → Option (Int × Unit)
abbrev f72_o_l0 (R : f72_S) : f72_t_l0 := (fun x0 x12 x13 => R (f72_s_l0 x0 x12 x13))
noncomputable def f72_Q_l0 (k : Nat) (R_l0 : f72_S) : f72_L := [.c (f72_p 244) 0, .j (fun σ => R_l0 (cut f72_A.loops 0 σ)), .blk 0, .c (f72_p 31) 0]
noncomputable def f72_C_l0 (k : Nat) (n : Nat) (σ : St) : Option (RDL f72_rs) := loopK (fun σ K => den T f72_Y (f72_E k) f72_A k (f72_p 244) 0 σ K) (cut f72_A.loops 0) (f72_a k [.blk 0, .c (f72_p 31) 0]) n σ
def f72_s_r8 (y4_0 : Int) (y4_1 : Int) (x0 : (List (Int × Int))) (x12 : Int) (x13 : Int) (x35 : Bool) : St := mkS 73 224 [(0, aV Tq2 x0), (3, aI x13), (4, aP 4), (11, aV Tq2 x0), (12, aI x12), (13, aI x13), (35, aB x35)] [(4, .box [cI y4_0, cI y4_1])]
abbrev f72_t_r8 := Int → Int → (List (Int × Int)) → Int → Int → Bool → Option (Int × Unit)
abbrev f72_o_r8 (R : f72_S) : f72_t_r8 := (fun y4_0 y4_1 x0 x12 x13 x35 => R (f72_s_r8 y4_0 y4_1 x0 x12 x13 x35))
noncomputable def f72_Q_r8 (k : Nat) (R_l0 : f72_S) : f72_L := [.c (f72_p 31333) 1, .c (f72_p 15667) 1, .blk 1, .c (f72_p 1959) 0, .j (fun σ => R_l0 (cut f72_A.loops 0 σ)), .blk 0, .c (f72_p 31) 0]
noncomputable def f72_C_r8 (k : Nat) (R_l0 : f72_S) : f72_S := fun σ => f72_a k (f72_Q_r8 k R_l0) .nx σ
def f72_s_r10 (y4_0 : Int) (y4_1 : Int) (x0 : (List (Int × Int))) (x12 : Int) (x13 : Int) (x48 : Bool) : St := mkS 73 224 [(0, aV Tq2 x0), (3, aI x13), (4, aP 4), (11, aV Tq2 x0), (12, aI x12), (13, aI x13), (48, aB x48)] [(4, .box [cI y4_0, cI y4_1])]
abbrev f72_t_r10 := Int → Int → (List (Int × Int)) → Int → Int → Bool → Option (Int × Unit)
abbrev f72_o_r10 (R : f72_S) : f72_t_r10 := (fun y4_0 y4_1 x0 x12 x13 x48 => R (f72_s_r10 y4_0 y4_1 x0 x12 x13 x48))
noncomputable def f72_Q_r10 (k : Nat) (R_l0 : f72_S) : f72_L := [.c (f72_p 62669) 1, .c (f72_p 31335) 1, .blk 1, .c (f72_p 1959) 0, .j (fun σ => R_l0 (cut f72_A.loops 0 σ)), .blk 0, .c (f72_p 31) 0]
noncomputable def f72_C_r10 (k : Nat) (R_l0 : f72_S) : f72_S := fun σ => f72_a k (f72_Q_r10 k R_l0) .nx σ
def f72_s_r12 (x0 : (List (Int × Int))) (x12 : Int) (x13 : Int) (x71 : Bool) : St := mkS 73 224 [(0, aV Tq2 x0), (11, aV Tq2 x0), (12, aI x12), (13, aI x13), (71, aB x71)] []
abbrev f72_t_r12 := (List (Int × Int)) → Int → Int → Bool → Option (Int × Unit)
abbrev f72_o_r12 (R : f72_S) : f72_t_r12 := (fun x0 x12 x13 x71 => R (f72_s_r12 x0 x12 x13 x71))
noncomputable def f72_Q_r12 (k : Nat) (R_l0 : f72_S) : f72_L := [.c (f72_p 62671) 1, .blk 1, .c (f72_p 1959) 0, .j (fun σ => R_l0 (cut f72_A.loops 0 σ)), .blk 0, .c (f72_p 31) 0]
noncomputable def f72_C_r12 (k : Nat) (R_l0 : f72_S) : f72_S := fun σ => f72_a k (f72_Q_r12 k R_l0) .nx σ
noncomputable def f72_F_r12 (k : Nat) (G_l0 : f72_S) : f72_L := .c (f72_p 62671) 1 :: .blk 1 :: .c (f72_p 1959) 0 :: .j (fun σ => G_l0 (cut f72_A.loops 0 σ)) :: .blk 0 :: .c (f72_p 31) 0 :: []
theorem f72_f_r12 (k : Nat) (R_l0 : f72_S) : f72_a k (f72_Q_r12 k R_l0) = f72_a k (f72_F_r12 k R_l0) := (ap_cons _ (ap_cons _ (ap_cons _ (ap_cons _ (ap_cons _ (ap_cons _ rfl))))))
noncomputable def f72_F_r10 (k : Nat) (G_l0 G_r12 : f72_S) : f72_L := .c (f72_p 62669) 1 :: .c (f72_p 62670) 1 :: .j G_r12 :: f72_F_r12 k G_l0
theorem f72_f_r10 (k : Nat) (R_l0 : f72_S) : f72_a k (f72_Q_r10 k R_l0) = f72_a k (f72_F_r10 k R_l0 (f72_C_r12 k R_l0)) := (ap_cons _ (Eq.trans ap_sq (ap_cons _ (Eq.trans (ap_pass (C := (f72_C_r12 k R_l0)) (fun _ => rfl)) (ap_cons _ (f72_f_r12 k R_l0))))))
noncomputable def f72_F_r8 (k : Nat) (G_l0 G_r10 G_r12 : f72_S) : f72_L := .c (f72_p 31333) 1 :: .c (f72_p 62668) 1 :: .j G_r10 :: f72_F_r10 k G_l0 G_r12
theorem f72_f_r8 (k : Nat) (R_l0 : f72_S) : f72_a k (f72_Q_r8 k R_l0) = f72_a k (f72_F_r8 k R_l0 (f72_C_r10 k R_l0) (f72_C_r12 k R_l0)) := (ap_cons _ (Eq.trans ap_sq (Eq.trans ap_sq (ap_cons _ (Eq.trans (ap_pass (C := (f72_C_r10 k R_l0)) (fun _ => rfl)) (ap_cons _ (f72_f_r10 k R_l0)))))))
noncomputable def f72_F_l0 (k : Nat) (G_l0 G_r8 G_r10 G_r12 : f72_S) : f72_L := .c (f72_p 488) 0 :: .c (f72_p 978) 0 :: .j (fun σ => f72_a k (.c (f72_p 7832) 1 :: .c (f72_p 31332) 1 :: .j G_r8 :: f72_F_r8 k G_l0 G_r10 G_r12) .nx σ) :: .c (f72_p 1959) 0 :: .j (fun σ => G_l0 (cut f72_A.loops 0 σ)) :: .blk 0 :: .c (f72_p 31) 0 :: []
theorem f72_f_l0 (k : Nat) (R_l0 : f72_S) : f72_a k (f72_Q_l0 k R_l0) = f72_a k (f72_F_l0 k R_l0 (f72_C_r8 k R_l0) (f72_C_r10 k R_l0) (f72_C_r12 k R_l0)) := (Eq.trans ap_sq (ap_cons _ (Eq.trans ap_sq (ap_cons _ (Eq.trans ap_sq (Eq.trans (ap_bl 1) (Eq.trans (ap_j (Eq.trans ap_sq (ap_cons _ (Eq.trans ap_sq (Eq.trans ap_sq (ap_cons _ (Eq.trans (ap_pass (C := (f72_C_r8 k R_l0)) (fun _ => rfl)) (ap_cons _ (f72_f_r8 k R_l0))))))))) (ap_cons _ (ap_cons _ (ap_cons _ (ap_cons _ (ap_cons _ rfl))))))))))))
def f72_entry_B (k : Nat) (g_l0 : f72_t_l0) (a0 : Td4) : Option (Int × Unit) := (if 24 < (a0.length : Int) then some (2, ()) else (if (a0.length : Int) = 0 then some (14, ()) else (g_l0 a0 (a0.length : Int) 0)))
def f72_l0_B (k : Nat) (g_r8 : f72_t_r8) (x0 : (List (Int × Int))) (x12 : Int) (x13 : Int) : Option (Int × Unit) := (if x13 < x12 then (if 0 ≤ x13 then (if x13 < (x0.length : Int) then (if ((x0.getD (x13).toNat (0, 0)).1) < 0 then (g_r8 ((x0.getD (x13).toNat (0, 0)).1) ((x0.getD (x13).toNat (0, 0)).2) x0 x12 x13 true) else (if 1073741824 < ((x0.getD (x13).toNat (0, 0)).1) then (g_r8 ((x0.getD (x13).toNat (0, 0)).1) ((x0.getD (x13).toNat (0, 0)).2) x0 x12 x13 true) else (if ((x0.getD (x13).toNat (0, 0)).2) < 0 then (g_r8 ((x0.getD (x13).toNat (0, 0)).1) ((x0.getD (x13).toNat (0, 0)).2) x0 x12 x13 true) else (g_r8 ((x0.getD (x13).toNat (0, 0)).1) ((x0.getD (x13).toNat (0, 0)).2) x0 x12 x13 (decide (1073741824 < ((x0.getD (x13).toNat (0, 0)).2))))))) else none) else none) else some (0, ()))
def f72_r8_B (k : Nat) (g_r10 : f72_t_r10) (y4_0 : Int) (y4_1 : Int) (x0 : (List (Int × Int))) (x12 : Int) (x13 : Int) (x35 : Bool) : Option (Int × Unit) := (if x35 = true then some (1, ()) else (if 0 < x13 then (if 0 ≤ (w64 (x13 - 1)) then (if (w64 (x13 - 1)) < (x0.length : Int) then (g_r10 y4_0 y4_1 x0 x12 x13 (decide (y4_0 ≤ ((x0.getD (w64 (x13 - 1)).toNat (0, 0)).1)))) else none) else none) else (g_r10 y4_0 y4_1 x0 x12 x13 false)))
def f72_r10_B (k : Nat) (g_r12 : f72_t_r12) (y4_0 : Int) (y4_1 : Int) (x0 : (List (Int × Int))) (x12 : Int) (x13 : Int) (x48 : Bool) : Option (Int × Unit) := (if x48 = true then some (9, ()) else (if 0 < x13 then (if 0 ≤ (w64 (x13 - 1)) then (if (w64 (x13 - 1)) < (x0.length : Int) then (if 0 ≤ (w64 (x13 - 1)) then (if (w64 (x13 - 1)) < (x0.length : Int) then (g_r12 x0 x12 x13 (decide ((w64 (y4_0 + y4_1)) < (w64 (((x0.getD (w64 (x13 - 1)).toNat (0, 0)).1) + ((x0.getD (w64 (x13 - 1)).toNat (0, 0)).2)))))) else none) else none) else none) else none) else (g_r12 x0 x12 x13 false)))
def f72_r12_B (k : Nat) (g_l0 : f72_t_l0) (x0 : (List (Int × Int))) (x12 : Int) (x13 : Int) (x71 : Bool) : Option (Int × Unit) := (if x71 = true then some (19, ()) else (g_l0 x0 x12 (w64 (x13 + 1))))
theorem f72_r12_P (k : Nat) (G_l0 : f72_S) : f72_o_r12 (fun σ => f72_a k (f72_F_r12 k G_l0) .nx σ) = f72_r12_B k (f72_o_l0 G_l0) := by kernel_rfl
def f72_r12 (k : Nat) (r_l0 : f72_t_l0) : f72_t_r12 := f72_r12_B k r_l0
theorem f72_r12_E (k : Nat) (R_l0 : f72_S) : f72_o_r12 (f72_C_r12 k R_l0) = f72_r12 k (f72_o_l0 R_l0) :=
  Eq.trans (congrArg f72_o_r12 (ap_fn (f72_f_r12 k R_l0))) ((f72_r12_P k R_l0).trans (by rfl))
theorem f72_r10_P (k : Nat) (G_l0 G_r12 : f72_S) : f72_o_r10 (fun σ => f72_a k (f72_F_r10 k G_l0 G_r12) .nx σ) = f72_r10_B k (f72_o_r12 G_r12) := by kernel_rfl
def f72_r10 (k : Nat) (r_l0 : f72_t_l0) : f72_t_r10 := f72_r10_B k (f72_r12 k r_l0)
theorem f72_r10_E (k : Nat) (R_l0 : f72_S) : f72_o_r10 (f72_C_r10 k R_l0) = f72_r10 k (f72_o_l0 R_l0) :=
  Eq.trans (congrArg f72_o_r10 (ap_fn (f72_f_r10 k R_l0))) ((f72_r10_P k R_l0 (f72_C_r12 k R_l0)).trans (by rw [f72_r12_E k R_l0] <;> rfl))
theorem f72_r8_P (k : Nat) (G_l0 G_r10 G_r12 : f72_S) : f72_o_r8 (fun σ => f72_a k (f72_F_r8 k G_l0 G_r10 G_r12) .nx σ) = f72_r8_B k (f72_o_r10 G_r10) := by kernel_rfl
def f72_r8 (k : Nat) (r_l0 : f72_t_l0) : f72_t_r8 := f72_r8_B k (f72_r10 k r_l0)
theorem f72_r8_E (k : Nat) (R_l0 : f72_S) : f72_o_r8 (f72_C_r8 k R_l0) = f72_r8 k (f72_o_l0 R_l0) :=
  Eq.trans (congrArg f72_o_r8 (ap_fn (f72_f_r8 k R_l0))) ((f72_r8_P k R_l0 (f72_C_r10 k R_l0) (f72_C_r12 k R_l0)).trans (by rw [f72_r10_E k R_l0] <;> rfl))
theorem f72_l0_P (k : Nat) (G_l0 G_r8 G_r10 G_r12 : f72_S) : f72_o_l0 (fun σ => f72_a k (f72_F_l0 k G_l0 G_r8 G_r10 G_r12) .nx σ) = f72_l0_B k (f72_o_r8 G_r8) := by kernel_rfl
def f72_l0 (k : Nat) : Nat → f72_t_l0
  | 0 => fun _ _ _ => none
  | n + 1 => f72_l0_B k (f72_r8 k (f72_l0 k n))
theorem f72_l0_E (k : Nat) : ∀ n, f72_o_l0 (f72_C_l0 k n) = f72_l0 k n
  | 0 => rfl
  | n + 1 =>
    Eq.trans (congrArg f72_o_l0 (Eq.trans (b := fun σ => f72_a k (f72_Q_l0 k (f72_C_l0 k n)) .nx σ) (by kernel_rfl) (ap_fn (f72_f_l0 k (f72_C_l0 k n))))) ((f72_l0_P k (f72_C_l0 k n) (f72_C_r8 k (f72_C_l0 k n)) (f72_C_r10 k (f72_C_l0 k n)) (f72_C_r12 k (f72_C_l0 k n))).trans (by rw [f72_r8_E k (f72_C_l0 k n), f72_l0_E k n] <;> rfl))
theorem f72_entry_P (k : Nat) (G_l0 : f72_S) (xs : DL f72_sig) : f72_a k (.c (f72_p 2) 0 :: .c (f72_p 6) 0 :: .c (f72_p 14) 0 :: .c (f72_p 60) 0 :: .j (fun σ => f72_a k (.j (fun σ => G_l0 (cut f72_A.loops 0 σ)) :: .blk 0 :: .c (f72_p 31) 0 :: []) .nx σ) :: .c (f72_p 31) 0 :: []) .nx (σ0 73 224 f72_sig xs) = f72_entry_B k (f72_o_l0 G_l0) xs.1 := by kernel_rfl
def f72 (k : Nat) (a0 : Td4) : Option (Int × Unit) := f72_entry_B k (f72_l0 k k) a0
theorem f72_fe (k : Nat) : f72_a k [.c (f72_p 1) 0] = f72_a k (.c (f72_p 2) 0 :: .c (f72_p 6) 0 :: .c (f72_p 14) 0 :: .c (f72_p 60) 0 :: .j (fun σ => f72_a k (.j (fun σ => (f72_C_l0 k k) (cut f72_A.loops 0 σ)) :: .blk 0 :: .c (f72_p 31) 0 :: []) .nx σ) :: .c (f72_p 31) 0 :: []) := (Eq.trans ap_sq (ap_cons _ (Eq.trans ap_sq (ap_cons _ (Eq.trans ap_sq (ap_cons _ (Eq.trans ap_sq (Eq.trans ap_sq (ap_cons _ (Eq.trans (ap_bl 0) (Eq.trans (ap_j (Eq.trans (ap_lp (C := (f72_C_l0 k)) (fun _ _ => rfl)) (ap_cons _ (ap_cons _ (ap_cons _ rfl))))) (ap_cons _ (ap_cons _ rfl)))))))))))))
theorem f72_eq (k : Nat) (xs : DL f72_sig) : den T f72_Y (f72_E k) f72_A k f72_c 0 (σ0 73 224 f72_sig xs) (Kfin T f72_rs f72_ts) = f72 k xs.1 :=
  Eq.trans (Eq.trans den_sb (ap_at (f72_fe k) _)) ((f72_entry_P k (f72_C_l0 k k) xs).trans (by rw [f72_l0_E k k] <;> rfl))
noncomputable def f72_con (k : Nat) : Con := ⟨f72_sig, f72_rs, fun xs => f72 k xs.1⟩
theorem f72_ok (k : Nat) : PureOK Try.prog 72 f72_sig f72_rs (fun xs => f72 k xs.1) :=
  (pure_of_den (k := k) (A := f72_A) (T := T) (Y := f72_Y) (E := f72_E k) (M := 224) (ts := f72_ts) T_ok trivial trivial mixed (f := 72) (fn := Try.f72) (c := f72_c) (by kernel_rfl) (by kernel_rfl) (by kernel_rfl) (by decide) (by kernel_rfl)).congr fun xs => (f72_eq k xs).symm
theorem f72_ent : Ent Try.prog 72 := fun args w => by kernel_rfl
/-! ### terrier/net.Out: function 73 -/
noncomputable def f73_c : Code := Try.f73.body.getD .skip
noncomputable abbrev f73_p (n : Nat) : Code := sb f73_c n
abbrev f73_sig : List PT := [(true, Tq9), (false, (.int .i64))]
abbrev f73_rs : List RT := [.new (.int .i64)]
abbrev f73_ts : List RV := [.tmp 4]
abbrev f73_S := St → Option (RDL f73_rs)
abbrev f73_L := List (Fr (RDL f73_rs))
def f73_Y : Tys := [(3, (.int .i64))]
noncomputable def f73_E (k : Nat) : Env := []
def f73_A : Ann := { loops := [(0, { mat := [(5, 23, (.int .i64))], slots := [(1, .id), (5, .id), (9, .val false Tq6), (10, .id), (11, .id)], keys := [(23, [])] })], conds := [(6, { mat := [(5, 23, (.int .i64))], slots := [(1, .id), (5, .id), (9, .val false Tq6), (10, .id), (11, .id)], keys := [(23, [])] })] }
noncomputable abbrev f73_a (k : Nat) (F : f73_L) : Kont (RDL f73_rs) := ap T f73_Y (f73_E k) f73_A k (Kfin T f73_rs f73_ts) F
def f73_s_l0 (y23 : (List Int)) (x1 : Int) (x10 : Int) (x11 : Int) (x9 : (List (Int × (Int × (Int × Int))))) : St := mkS 26 80 [(1, aI x1), (5, aO 23), (9, aV Tq6 x9), (10, aI x10), (11, aI x11)] [(23, .vec (.int .i64) y23)]
abbrev f73_t_l0 := (List Int) → Int → Int → Int → (List (Int × (Int × (Int × Int)))) → Option ((List Int) × Unit)
abbrev f73_o_l0 (R : f73_S) : f73_t_l0 := (fun y23 x1 x10 x11 x9 => R (f73_s_l0 y23 x1 x10 x11 x9))
noncomputable def f73_Q_l0 (k : Nat) (R_l0 : f73_S) : f73_L := [.c (f73_p 116) 0, .j (fun σ => R_l0 (cut f73_A.loops 0 σ)), .blk 0, .c (f73_p 15) 0]
noncomputable def f73_C_l0 (k : Nat) (n : Nat) (σ : St) : Option (RDL f73_rs) := loopK (fun σ K => den T f73_Y (f73_E k) f73_A k (f73_p 116) 0 σ K) (cut f73_A.loops 0) (f73_a k [.blk 0, .c (f73_p 15) 0]) n σ
def f73_s_c6 (y23 : (List Int)) (x1 : Int) (x10 : Int) (x11 : Int) (x9 : (List (Int × (Int × (Int × Int))))) : St := mkS 26 80 [(1, aI x1), (5, aO 23), (9, aV Tq6 x9), (10, aI x10), (11, aI x11)] [(23, .vec (.int .i64) y23)]
abbrev f73_t_c6 := (List Int) → Int → Int → Int → (List (Int × (Int × (Int × Int)))) → Option ((List Int) × Unit)
abbrev f73_o_c6 (R : f73_S) : f73_t_c6 := (fun y23 x1 x10 x11 x9 => R (f73_s_c6 y23 x1 x10 x11 x9))
noncomputable def f73_Q_c6 (k : Nat) (R_l0 : f73_S) : f73_L := [.blk 1, .c (f73_p 935) 0, .j (fun σ => R_l0 (cut f73_A.loops 0 σ)), .blk 0, .c (f73_p 15) 0]
noncomputable def f73_C_c6 (k : Nat) (R_l0 : f73_S) : f73_S := fun σ => f73_a k (f73_Q_c6 k R_l0) .nx σ
noncomputable def f73_F_c6 (k : Nat) (G_l0 : f73_S) : f73_L := .blk 1 :: .c (f73_p 935) 0 :: .j (fun σ => G_l0 (cut f73_A.loops 0 σ)) :: .blk 0 :: .c (f73_p 15) 0 :: []
theorem f73_f_c6 (k : Nat) (R_l0 : f73_S) : f73_a k (f73_Q_c6 k R_l0) = f73_a k (f73_F_c6 k R_l0) := (ap_cons _ (ap_cons _ (ap_cons _ (ap_cons _ (ap_cons _ rfl)))))
noncomputable def f73_F_l0 (k : Nat) (G_l0 G_c6 : f73_S) : f73_L := .c (f73_p 232) 0 :: .c (f73_p 466) 0 :: .j (fun σ => f73_a k (.c (f73_p 3736) 1 :: .c (f73_p 7474) 1 :: .c (f73_p 7475) 1 :: .j G_c6 :: f73_F_c6 k G_l0) .nx σ) :: .c (f73_p 935) 0 :: .j (fun σ => G_l0 (cut f73_A.loops 0 σ)) :: .blk 0 :: .c (f73_p 15) 0 :: []
theorem f73_f_l0 (k : Nat) (R_l0 : f73_S) : f73_a k (f73_Q_l0 k R_l0) = f73_a k (f73_F_l0 k R_l0 (f73_C_c6 k R_l0)) := (Eq.trans ap_sq (ap_cons _ (Eq.trans ap_sq (ap_cons _ (Eq.trans ap_sq (Eq.trans (ap_bl 1) (Eq.trans (ap_j (Eq.trans ap_sq (ap_cons _ (Eq.trans ap_sq (ap_cons _ (ap_cons _ (Eq.trans (ap_pass (C := (f73_C_c6 k R_l0)) (fun _ => rfl)) (ap_cons _ (f73_f_c6 k R_l0))))))))) (ap_cons _ (ap_cons _ (ap_cons _ (ap_cons _ (ap_cons _ rfl))))))))))))
def f73_entry_B (k : Nat) (g_l0 : f73_t_l0) (a0 : Td12) (a1 : Int) : Option ((List Int) × Unit) := (g_l0 ([] : List Int) a1 (a0.2.1.length : Int) 0 a0.2.1)
def f73_l0_B (k : Nat) (g_c6 : f73_t_c6) (y23 : (List Int)) (x1 : Int) (x10 : Int) (x11 : Int) (x9 : (List (Int × (Int × (Int × Int))))) : Option ((List Int) × Unit) := (if x11 < x10 then (if 0 ≤ x11 then (if x11 < (x9.length : Int) then (if ((x9.getD (x11).toNat (0, (0, (0, 0)))).1) = x1 then (if (y23.length + 1) * 8 ≤ 140737488355328 then (g_c6 (y23 ++ [x11]) x1 x10 x11 x9) else none) else (g_c6 y23 x1 x10 x11 x9)) else none) else none) else some (y23, ()))
def f73_c6_B (k : Nat) (g_l0 : f73_t_l0) (y23 : (List Int)) (x1 : Int) (x10 : Int) (x11 : Int) (x9 : (List (Int × (Int × (Int × Int))))) : Option ((List Int) × Unit) := (g_l0 y23 x1 x10 (w64 (x11 + 1)) x9)
theorem f73_c6_P (k : Nat) (G_l0 : f73_S) : f73_o_c6 (fun σ => f73_a k (f73_F_c6 k G_l0) .nx σ) = f73_c6_B k (f73_o_l0 G_l0) := by kernel_rfl
def f73_c6 (k : Nat) (r_l0 : f73_t_l0) : f73_t_c6 := f73_c6_B k r_l0
theorem f73_c6_E (k : Nat) (R_l0 : f73_S) : f73_o_c6 (f73_C_c6 k R_l0) = f73_c6 k (f73_o_l0 R_l0) :=
  Eq.trans (congrArg f73_o_c6 (ap_fn (f73_f_c6 k R_l0))) ((f73_c6_P k R_l0).trans (by rfl))
theorem f73_l0_P (k : Nat) (G_l0 G_c6 : f73_S) : f73_o_l0 (fun σ => f73_a k (f73_F_l0 k G_l0 G_c6) .nx σ) = f73_l0_B k (f73_o_c6 G_c6) := by kernel_rfl
def f73_l0 (k : Nat) : Nat → f73_t_l0
  | 0 => fun _ _ _ _ _ => none
  | n + 1 => f73_l0_B k (f73_c6 k (f73_l0 k n))
theorem f73_l0_E (k : Nat) : ∀ n, f73_o_l0 (f73_C_l0 k n) = f73_l0 k n
  | 0 => rfl
  | n + 1 =>
    Eq.trans (congrArg f73_o_l0 (Eq.trans (b := fun σ => f73_a k (f73_Q_l0 k (f73_C_l0 k n)) .nx σ) (by kernel_rfl) (ap_fn (f73_f_l0 k (f73_C_l0 k n))))) ((f73_l0_P k (f73_C_l0 k n) (f73_C_c6 k (f73_C_l0 k n))).trans (by rw [f73_c6_E k (f73_C_l0 k n), f73_l0_E k n] <;> rfl))
theorem f73_entry_P (k : Nat) (G_l0 : f73_S) (xs : DL f73_sig) : f73_a k (.c (f73_p 2) 0 :: .c (f73_p 6) 0 :: .c (f73_p 28) 0 :: .j (fun σ => f73_a k (.j (fun σ => G_l0 (cut f73_A.loops 0 σ)) :: .blk 0 :: .c (f73_p 15) 0 :: []) .nx σ) :: .c (f73_p 15) 0 :: []) .nx (σ0 26 80 f73_sig xs) = f73_entry_B k (f73_o_l0 G_l0) xs.1 xs.2.1 := by kernel_rfl
def f73 (k : Nat) (a0 : Td12) (a1 : Int) : Option ((List Int) × Unit) := f73_entry_B k (f73_l0 k k) a0 a1
theorem f73_fe (k : Nat) : f73_a k [.c (f73_p 1) 0] = f73_a k (.c (f73_p 2) 0 :: .c (f73_p 6) 0 :: .c (f73_p 28) 0 :: .j (fun σ => f73_a k (.j (fun σ => (f73_C_l0 k k) (cut f73_A.loops 0 σ)) :: .blk 0 :: .c (f73_p 15) 0 :: []) .nx σ) :: .c (f73_p 15) 0 :: []) := (Eq.trans ap_sq (ap_cons _ (Eq.trans ap_sq (ap_cons _ (Eq.trans ap_sq (Eq.trans ap_sq (ap_cons _ (Eq.trans (ap_bl 0) (Eq.trans (ap_j (Eq.trans (ap_lp (C := (f73_C_l0 k)) (fun _ _ => rfl)) (ap_cons _ (ap_cons _ (ap_cons _ rfl))))) (ap_cons _ (ap_cons _ rfl)))))))))))
theorem f73_eq (k : Nat) (xs : DL f73_sig) : den T f73_Y (f73_E k) f73_A k f73_c 0 (σ0 26 80 f73_sig xs) (Kfin T f73_rs f73_ts) = f73 k xs.1 xs.2.1 :=
  Eq.trans (Eq.trans den_sb (ap_at (f73_fe k) _)) ((f73_entry_P k (f73_C_l0 k k) xs).trans (by rw [f73_l0_E k k] <;> rfl))
noncomputable def f73_con (k : Nat) : Con := ⟨f73_sig, f73_rs, fun xs => f73 k xs.1 xs.2.1⟩
theorem f73_ok (k : Nat) : PureOK Try.prog 73 f73_sig f73_rs (fun xs => f73 k xs.1 xs.2.1) :=
  (pure_of_den (k := k) (A := f73_A) (T := T) (Y := f73_Y) (E := f73_E k) (M := 80) (ts := f73_ts) T_ok trivial trivial mixed (f := 73) (fn := Try.f73) (c := f73_c) (by kernel_rfl) (by kernel_rfl) (by kernel_rfl) (by decide) (by kernel_rfl)).congr fun xs => (f73_eq k xs).symm
theorem f73_ent : Ent Try.prog 73 := fun args w => by kernel_rfl
/-! ### terrier/cost.down: function 217 -/
noncomputable def f217_c : Code := Try.f217.body.getD .skip
noncomputable abbrev f217_p (n : Nat) : Code := sb f217_c n
abbrev f217_sig : List PT := [(false, (.int .i64)), (false, (.int .i64))]
abbrev f217_rs : List RT := [.d false (.int .i64)]
abbrev f217_ts : List RV := [.tmp 4]
abbrev f217_S := St → Option (RDL f217_rs)
abbrev f217_L := List (Fr (RDL f217_rs))
def f217_Y : Tys := []
noncomputable def f217_E (k : Nat) : Env := []
def f217_A : Ann := { conds := [(3, { slots := [(5, .id)] })] }
noncomputable abbrev f217_a (k : Nat) (F : f217_L) : Kont (RDL f217_rs) := ap T f217_Y (f217_E k) f217_A k (Kfin T f217_rs f217_ts) F
def f217_s_c3 (x5 : Int) : St := mkS 16 48 [(5, aI x5)] []
abbrev f217_t_c3 := Int → Option (Int × Unit)
abbrev f217_o_c3 (R : f217_S) : f217_t_c3 := (fun x5 => R (f217_s_c3 x5))
noncomputable def f217_Q_c3 (k : Nat) : f217_L := [.c (f217_p 15) 0]
noncomputable def f217_C_c3 (k : Nat) : f217_S := fun σ => f217_a k (f217_Q_c3 k) .nx σ
noncomputable def f217_F_c3 (k : Nat) : f217_L := .c (f217_p 15) 0 :: []
theorem f217_f_c3 (k : Nat) : f217_a k (f217_Q_c3 k) = f217_a k (f217_F_c3 k) := (ap_cons _ rfl)
def f217_entry_B (k : Nat) (g_c3 : f217_t_c3) (a0 : Int) (a1 : Int) : Option (Int × Unit) := (if ¬ a1 = 0 then (if ¬ a1 = 0 then (if (a0.tmod a1) < 0 then (g_c3 (w64 ((w64 (a0.tdiv a1)) - 1))) else (g_c3 (w64 (a0.tdiv a1)))) else none) else none)
def f217_c3_B (k : Nat) (x5 : Int) : Option (Int × Unit) := some (x5, ())
theorem f217_c3_P (k : Nat) : f217_o_c3 (fun σ => f217_a k (f217_F_c3 k) .nx σ) = f217_c3_B k := by kernel_rfl
def f217_c3 (k : Nat) : f217_t_c3 := f217_c3_B k
theorem f217_c3_E (k : Nat) : f217_o_c3 (f217_C_c3 k) = f217_c3 k :=
  Eq.trans (congrArg f217_o_c3 (ap_fn (f217_f_c3 k))) ((f217_c3_P k).trans (by rfl))
theorem f217_entry_P (k : Nat) (G_c3 : f217_S) (xs : DL f217_sig) : f217_a k (.c (f217_p 2) 0 :: .c (f217_p 6) 0 :: .c (f217_p 28) 0 :: .c (f217_p 29) 0 :: .j G_c3 :: f217_F_c3 k) .nx (σ0 16 48 f217_sig xs) = f217_entry_B k (f217_o_c3 G_c3) xs.1 xs.2.1 := by kernel_rfl
def f217 (k : Nat) (a0 : Int) (a1 : Int) : Option (Int × Unit) := f217_entry_B k (f217_c3 k) a0 a1
theorem f217_fe (k : Nat) : f217_a k [.c (f217_p 1) 0] = f217_a k (.c (f217_p 2) 0 :: .c (f217_p 6) 0 :: .c (f217_p 28) 0 :: .c (f217_p 29) 0 :: .j (f217_C_c3 k) :: f217_F_c3 k) := (Eq.trans ap_sq (ap_cons _ (Eq.trans ap_sq (ap_cons _ (Eq.trans ap_sq (Eq.trans ap_sq (ap_cons _ (ap_cons _ (Eq.trans (ap_pass (C := (f217_C_c3 k)) (fun _ => rfl)) (ap_cons _ (f217_f_c3 k)))))))))))
theorem f217_eq (k : Nat) (xs : DL f217_sig) : den T f217_Y (f217_E k) f217_A k f217_c 0 (σ0 16 48 f217_sig xs) (Kfin T f217_rs f217_ts) = f217 k xs.1 xs.2.1 :=
  Eq.trans (Eq.trans den_sb (ap_at (f217_fe k) _)) ((f217_entry_P k (f217_C_c3 k) xs).trans (by rw [f217_c3_E k] <;> rfl))
noncomputable def f217_con (k : Nat) : Con := ⟨f217_sig, f217_rs, fun xs => f217 k xs.1 xs.2.1⟩
theorem f217_ok (k : Nat) : PureOK Try.prog 217 f217_sig f217_rs (fun xs => f217 k xs.1 xs.2.1) :=
  (pure_of_den (k := k) (A := f217_A) (T := T) (Y := f217_Y) (E := f217_E k) (M := 48) (ts := f217_ts) T_ok trivial trivial mixed (f := 217) (fn := Try.f217) (c := f217_c) (by kernel_rfl) (by kernel_rfl) (by kernel_rfl) (by decide) (by kernel_rfl)).congr fun xs => (f217_eq k xs).symm
theorem f217_ent : Ent Try.prog 217 := fun args w => by kernel_rfl
end Go.Proofs.Ythfjdcdbimjkjaa.Rw
