/- What the functions that the law IsoGrows reaches come to, part 1. No condition. -/
import Derived.Test.YtoebjlimpnmaoaaRxEv
import Derived.Test.YtoebjlimpnmaoaaProg
import Derived.Test.YtoebjlimpnmaoaaRxSh
import Derived.Test.YtoebjlimpnmaoaaRxSl
namespace Go.Proofs.Ytoebjlimpnmaoaa.Rw
open Go.Rx Go.Proofs
set_option linter.unusedVariables false
set_option maxRecDepth 100000
def T : Tab := [(3, ⟨.int .i64, 1, 8, some (false, [cI 0]), false⟩),
  (4, ⟨.bool, 1, 1, some (false, [.lit false]), false⟩),
  (5, ⟨.int .u8, 1, 1, some (false, [.int .u8 0]), false⟩),
  (9, ⟨.str, 1, 16, some (false, [.str ByteArray.empty]), false⟩),
  (22, ⟨.slice 3, 1, 24, some (false, [.nil]), false⟩),
  (23, ⟨.slice 36, 1, 24, some (false, [.nil]), false⟩),
  (24, ⟨.slice 39, 1, 24, some (false, [.nil]), false⟩),
  (25, ⟨.slice 42, 1, 24, some (false, [.nil]), false⟩),
  (27, ⟨.struct [(0, 23), (1, 24), (2, 25)], 3, 72, some (true, [.nil, .nil, .nil]), true⟩),
  (29, ⟨.int .i64, 1, 8, some (false, [cI 0]), false⟩),
  (36, ⟨.struct [(0, 3), (1, 3)], 2, 16, some (true, [cI 0, cI 0]), true⟩),
  (39, ⟨.struct [(0, 3), (1, 3), (2, 3), (3, 3)], 4, 32, some (true, [cI 0, cI 0, cI 0, cI 0]), true⟩),
  (42, ⟨.struct [(0, 3), (1, 3)], 2, 16, some (true, [cI 0, cI 0]), true⟩),
  (68, ⟨.slice 72, 1, 24, some (false, [.nil]), false⟩),
  (72, ⟨.struct [(0, 3), (1, 3)], 2, 16, some (true, [cI 0, cI 0]), true⟩),
  (76, ⟨.struct [(0, 22)], 1, 24, some (true, [.nil]), true⟩),
  (103, ⟨.slice 108, 1, 24, some (false, [.nil]), false⟩),
  (104, ⟨.slice 22, 1, 24, some (false, [.nil]), false⟩),
  (106, ⟨.struct [(0, 27), (3, 103), (4, 104)], 5, 120, some (true, [.nil, .nil, .nil, .nil, .nil]), true⟩),
  (108, ⟨.struct [(0, 3), (1, 3), (2, 3), (3, 4), (4, 4)], 5, 32, some (true, [cI 0, cI 0, cI 0, .lit false, .lit false]), true⟩),
  (117, ⟨.int .u64, 1, 8, some (false, [.int .u64 0]), false⟩),
  (132, ⟨.int .i64, 1, 8, some (false, [cI 0]), false⟩),
  (141, ⟨.int .u64, 1, 8, some (false, [.int .u64 0]), false⟩)]
theorem T_ok : TabOK Try.prog T := ⟨by kernel_rfl, by kernel_rfl, by kernel_rfl, by kernel_rfl, by kernel_rfl, by kernel_rfl, by kernel_rfl, by kernel_rfl, by kernel_rfl, by kernel_rfl, by kernel_rfl, by kernel_rfl, by kernel_rfl, by kernel_rfl, by kernel_rfl, by kernel_rfl, by kernel_rfl, by kernel_rfl, by kernel_rfl, by kernel_rfl, by kernel_rfl, by kernel_rfl, by kernel_rfl, trivial⟩
theorem mixed : Try.prog.follows .mixedOrders = true := by kernel_rfl
abbrev Ts0 : ByteArray := ⟨[0, 1, 2, 2, 3, 3, 3, 3, 4, 4, 4, 4, 4, 4, 4, 4, 5, 5, 5, 5, 5, 5, 5, 5, 5, 5, 5, 5, 5, 5, 5, 5, 6, 6, 6, 6, 6, 6, 6, 6, 6, 6, 6, 6, 6, 6, 6, 6, 6, 6, 6, 6, 6, 6, 6, 6, 6, 6, 6, 6, 6, 6, 6, 6, 7, 7, 7, 7, 7, 7, 7, 7, 7, 7, 7, 7, 7, 7, 7, 7, 7, 7, 7, 7, 7, 7, 7, 7, 7, 7, 7, 7, 7, 7, 7, 7, 7, 7, 7, 7, 7, 7, 7, 7, 7, 7, 7, 7, 7, 7, 7, 7, 7, 7, 7, 7, 7, 7, 7, 7, 7, 7, 7, 7, 7, 7, 7, 7, 8, 8, 8, 8, 8, 8, 8, 8, 8, 8, 8, 8, 8, 8, 8, 8, 8, 8, 8, 8, 8, 8, 8, 8, 8, 8, 8, 8, 8, 8, 8, 8, 8, 8, 8, 8, 8, 8, 8, 8, 8, 8, 8, 8, 8, 8, 8, 8, 8, 8, 8, 8, 8, 8, 8, 8, 8, 8, 8, 8, 8, 8, 8, 8, 8, 8, 8, 8, 8, 8, 8, 8, 8, 8, 8, 8, 8, 8, 8, 8, 8, 8, 8, 8, 8, 8, 8, 8, 8, 8, 8, 8, 8, 8, 8, 8, 8, 8, 8, 8, 8, 8, 8, 8, 8, 8, 8, 8, 8, 8, 8, 8, 8, 8, 8, 8, 8, 8, 8, 8, 8, 8, 8, 8, 8, 8, 8, 8].toArray⟩
abbrev Tq1 : Ty := (.sl false (.int .i64))
abbrev Tq2 : Ty := (.pair (.int .i64) (.int .i64))
abbrev Tq3 : Ty := (.sl false Tq2)
abbrev Td4 : Type := (List (Int × Int))
abbrev Tq5 : Ty := (.pair (.int .i64) Tq2)
abbrev Tq6 : Ty := (.pair (.int .i64) Tq5)
abbrev Tq7 : Ty := (.sl false Tq6)
abbrev Tq8 : Ty := (.pair Tq7 Tq3)
abbrev Tq9 : Ty := (.pair Tq3 Tq8)
abbrev Td10 : Type := (Int × (Int × Int))
abbrev Td11 : Type := (List (Int × Td10))
abbrev Td12 : Type := (Td4 × (Td11 × Td4))
abbrev Tq13 : Ty := (.sl false Tq1)
abbrev Tq14 : Ty := (.pair .bool .bool)
abbrev Tq15 : Ty := (.pair (.int .i64) Tq14)
abbrev Tq16 : Ty := (.pair (.int .i64) Tq15)
abbrev Tq17 : Ty := (.pair (.int .i64) Tq16)
abbrev Td18 : Type := (List (List Int))
abbrev Td19 : Type := (Bool × Bool)
abbrev Td20 : Type := (Int × (Int × Td19))
abbrev Tq21 : Ty := (.pair .bool Tq1)
abbrev Tq22 : Ty := (.sl false Tq17)
abbrev Tq23 : Ty := (.pair Tq22 Tq13)
abbrev Tq24 : Ty := (.pair Tq9 Tq23)
abbrev Td25 : Type := (List (Int × Td20))
abbrev Td26 : Type := (Td25 × Td18)
abbrev Td27 : Type := (Td12 × Td26)
/-! ### terrier/terrmake.Below: function 15 -/
noncomputable def f15_c : Code := Try.f15.body.getD .skip
noncomputable abbrev f15_p (n : Nat) : Code := sb f15_c n
abbrev f15_sig : List PT := [(false, (.int .i64)), (false, (.int .i64))]
abbrev f15_rs : List RT := [.d false (.int .i64)]
abbrev f15_ts : List RV := [.tmp 4]
abbrev f15_S := St → Option (RDL f15_rs)
abbrev f15_L := List (Fr (RDL f15_rs))
def f15_Y : Tys := []
noncomputable def f15_E (k : Nat) : Env := []
def f15_A : Ann := { conds := [(3, { slots := [(0, .id)] })] }
noncomputable abbrev f15_a (k : Nat) (F : f15_L) : Kont (RDL f15_rs) := ap T f15_Y (f15_E k) f15_A k (Kfin T f15_rs f15_ts) F
def f15_s_c3 (x0 : Int) : St := mkS 14 48 [(0, aI x0)] []
abbrev f15_t_c3 := Int → Option (Int × Unit)
abbrev f15_o_c3 (R : f15_S) : f15_t_c3 := (fun x0 => R (f15_s_c3 x0))
noncomputable def f15_Q_c3 (k : Nat) : f15_L := [.c (f15_p 15) 0]
noncomputable def f15_C_c3 (k : Nat) : f15_S := fun σ => f15_a k (f15_Q_c3 k) .nx σ
noncomputable def f15_F_c3 (k : Nat) : f15_L := .c (f15_p 15) 0 :: []
theorem f15_f_c3 (k : Nat) : f15_a k (f15_Q_c3 k) = f15_a k (f15_F_c3 k) := (ap_cons _ rfl)
def f15_entry_B (k : Nat) (g_c3 : f15_t_c3) (a0 : Int) (a1 : Int) : Option (Int × Unit) := (if ¬ a1 = 0 then (if (a0.tmod a1) < 0 then (g_c3 (w64 ((a0.tmod a1) + a1))) else (g_c3 (a0.tmod a1))) else none)
def f15_c3_B (k : Nat) (x0 : Int) : Option (Int × Unit) := some (x0, ())
theorem f15_c3_P (k : Nat) : f15_o_c3 (fun σ => f15_a k (f15_F_c3 k) .nx σ) = f15_c3_B k := by kernel_rfl
def f15_c3 (k : Nat) : f15_t_c3 := f15_c3_B k
theorem f15_c3_E (k : Nat) : f15_o_c3 (f15_C_c3 k) = f15_c3 k :=
  Eq.trans (congrArg f15_o_c3 (ap_fn (f15_f_c3 k))) ((f15_c3_P k).trans (by rfl))
theorem f15_entry_P (k : Nat) (G_c3 : f15_S) (xs : DL f15_sig) : f15_a k (.c (f15_p 2) 0 :: .c (f15_p 6) 0 :: .c (f15_p 28) 0 :: .c (f15_p 29) 0 :: .j G_c3 :: f15_F_c3 k) .nx (σ0 14 48 f15_sig xs) = f15_entry_B k (f15_o_c3 G_c3) xs.1 xs.2.1 := by kernel_rfl
def f15 (k : Nat) (a0 : Int) (a1 : Int) : Option (Int × Unit) := f15_entry_B k (f15_c3 k) a0 a1
theorem f15_fe (k : Nat) : f15_a k [.c (f15_p 1) 0] = f15_a k (.c (f15_p 2) 0 :: .c (f15_p 6) 0 :: .c (f15_p 28) 0 :: .c (f15_p 29) 0 :: .j (f15_C_c3 k) :: f15_F_c3 k) := (Eq.trans ap_sq (ap_cons _ (Eq.trans ap_sq (ap_cons _ (Eq.trans ap_sq (Eq.trans ap_sq (ap_cons _ (ap_cons _ (Eq.trans (ap_pass (C := (f15_C_c3 k)) (fun _ => rfl)) (ap_cons _ (f15_f_c3 k)))))))))))
theorem f15_eq (k : Nat) (xs : DL f15_sig) : den T f15_Y (f15_E k) f15_A k f15_c 0 (σ0 14 48 f15_sig xs) (Kfin T f15_rs f15_ts) = f15 k xs.1 xs.2.1 :=
  Eq.trans (Eq.trans den_sb (ap_at (f15_fe k) _)) ((f15_entry_P k (f15_C_c3 k) xs).trans (by rw [f15_c3_E k] <;> rfl))
noncomputable def f15_con (k : Nat) : Con := ⟨f15_sig, f15_rs, fun xs => f15 k xs.1 xs.2.1⟩
theorem f15_ok (k : Nat) : PureOK Try.prog 15 f15_sig f15_rs (fun xs => f15 k xs.1 xs.2.1) :=
  (pure_of_den (k := k) (A := f15_A) (T := T) (Y := f15_Y) (E := f15_E k) (M := 48) (ts := f15_ts) T_ok trivial trivial mixed (f := 15) (fn := Try.f15) (c := f15_c) (by kernel_rfl) (by kernel_rfl) (by kernel_rfl) (by decide) (by kernel_rfl)).congr fun xs => (f15_eq k xs).symm
theorem f15_ent : Ent Try.prog 15 := fun args w => by kernel_rfl
/-! ### (*terrier/terrmake.Stream).Next: function 43 -/
noncomputable def f43_c : Code := Try.f43.body.getD .skip
noncomputable abbrev f43_p (n : Nat) : Code := sb f43_c n
abbrev f43_sig : List PT := [(false, (.int .i64))]
abbrev f43_rs : List RT := [.d false (.int .i64)]
abbrev f43_ts : List RV := [.tmp 4]
abbrev f43_ls : List LO := [.box [.d Tq1]]
abbrev f43_S := St → Option (LOD f43_ls × RDL f43_rs)
abbrev f43_L := List (Fr (LOD f43_ls × RDL f43_rs))
def f43_Y : Tys := []
noncomputable def f43_E (k : Nat) : Env := [(15, .c (f15_con k))]
def f43_A : Ann := { regs := [(1, { slots := [(0, .id), (1, .id), (15, .bool)], keys := [(0, [.val false (.int .i64)])] })] }
noncomputable abbrev f43_a (k : Nat) (F : f43_L) : Kont (LOD f43_ls × RDL f43_rs) := ap T f43_Y (f43_E k) f43_A k (KfinB T true f43_ls f43_rs f43_ts) F
def f43_s_r1 (y0_0 : (List Int)) (x1 : Int) (x15 : Bool) : St := mkS 33 113 [(0, aP 0), (1, aI x1), (15, aB x15)] [(0, .box [cV (.int .i64) y0_0])]
abbrev f43_t_r1 := (List Int) → Int → Bool → Option ((((List Int) × Unit) × Unit) × (Int × Unit))
abbrev f43_o_r1 (R : f43_S) : f43_t_r1 := (fun y0_0 x1 x15 => R (f43_s_r1 y0_0 x1 x15))
noncomputable def f43_Q_r1 (k : Nat) : f43_L := [.c (f43_p 13) 0, .c (f43_p 7) 0]
noncomputable def f43_C_r1 (k : Nat) : f43_S := fun σ => f43_a k (f43_Q_r1 k) .nx σ
noncomputable def f43_F_r1 (k : Nat) : f43_L := .c (f43_p 13) 0 :: .c (f43_p 7) 0 :: []
theorem f43_f_r1 (k : Nat) : f43_a k (f43_Q_r1 k) = f43_a k (f43_F_r1 k) := (ap_cons _ (ap_cons _ rfl))
def f43_entry_B (k : Nat) (g_r1 : f43_t_r1) (a : (List Int)) (a0 : Int) : Option ((((List Int) × Unit) × Unit) × (Int × Unit)) := (if (a.length : Int) = 0 then (g_r1 a a0 true) else (g_r1 a a0 (decide (a0 < 1))))
def f43_r1_B (k : Nat) (y0_0 : (List Int)) (x1 : Int) (x15 : Bool) : Option ((((List Int) × Unit) × Unit) × (Int × Unit)) := (if x15 = true then some (((y0_0, ()), ()), (0, ())) else (if 0 < (y0_0.length : Int) then (if (1 : Int) ≤ (y0_0.length : Int) then ((f15 k (y0_0.getD (0 : Int).toNat 0) x1).bind fun r1 => some ((((y0_0.drop (1 : Int).toNat), ()), ()), (r1.1, ()))) else none) else none))
theorem f43_r1_P (k : Nat) : f43_o_r1 (fun σ => f43_a k (f43_F_r1 k) .nx σ) = f43_r1_B k := by kernel_rfl
def f43_r1 (k : Nat) : f43_t_r1 := f43_r1_B k
theorem f43_r1_E (k : Nat) : f43_o_r1 (f43_C_r1 k) = f43_r1 k :=
  Eq.trans (congrArg f43_o_r1 (ap_fn (f43_f_r1 k))) ((f43_r1_P k).trans (by rfl))
theorem f43_entry_P (k : Nat) (G_r1 : f43_S) (x : LOD f43_ls) (xs : DL f43_sig) : f43_a k (.c (f43_p 2) 0 :: .c (f43_p 12) 0 :: .j G_r1 :: f43_F_r1 k) .nx (σ0B 33 113 0 f43_ls x f43_sig xs) = f43_entry_B k (f43_o_r1 G_r1) x.1.1 xs.1 := by kernel_rfl
def f43 (k : Nat) (a : (List Int)) (a0 : Int) : Option ((((List Int) × Unit) × Unit) × (Int × Unit)) := f43_entry_B k (f43_r1 k) a a0
theorem f43_fe (k : Nat) : f43_a k [.c (f43_p 1) 0] = f43_a k (.c (f43_p 2) 0 :: .c (f43_p 12) 0 :: .j (f43_C_r1 k) :: f43_F_r1 k) := (Eq.trans ap_sq (ap_cons _ (Eq.trans ap_sq (Eq.trans ap_sq (ap_cons _ (Eq.trans (ap_pass (C := (f43_C_r1 k)) (fun _ => rfl)) (ap_cons _ (f43_f_r1 k))))))))
theorem f43_eq (k : Nat) (x : LOD f43_ls) (xs : DL f43_sig) : den T f43_Y (f43_E k) f43_A k f43_c 0 (σ0B 33 113 0 f43_ls x f43_sig xs) (KfinB T true f43_ls f43_rs f43_ts) = f43 k x.1.1 xs.1 :=
  Eq.trans (Eq.trans den_sb (ap_at (f43_fe k) _)) ((f43_entry_P k (f43_C_r1 k) x xs).trans (by rw [f43_r1_E k] <;> rfl))
noncomputable def f43_con (k : Nat) : BCon := ⟨0, true, f43_ls, f43_sig, f43_rs, fun x xs => f43 k x.1.1 xs.1⟩
theorem f43_ok (k : Nat) : BoxOK Try.prog 43 0 true f43_ls f43_sig f43_rs (fun x xs => f43 k x.1.1 xs.1) :=
  (box_of_den (k := k) (A := f43_A) (T := T) (Y := f43_Y) (E := f43_E k) (M := 113) (ts := f43_ts) T_ok ⟨f15_ok k, trivial⟩ ⟨f15_ent, trivial⟩ mixed (f := 43) (fn := Try.f43) (c := f43_c) (by kernel_rfl) (by kernel_rfl) (by kernel_rfl) (by decide) (by kernel_rfl) (by decide)).congr fun x xs => (f43_eq k x xs).symm
theorem f43_ent : Ent Try.prog 43 := fun args w => by kernel_rfl
/-! ### (*terrier/terrmake.Stream).point: function 44 -/
noncomputable def f44_c : Code := Try.f44.body.getD .skip
noncomputable abbrev f44_p (n : Nat) : Code := sb f44_c n
abbrev f44_sig : List PT := []
abbrev f44_rs : List RT := [.d true Tq2]
abbrev f44_ts : List RV := [.cell 2 36]
abbrev f44_ls : List LO := [.box [.d Tq1]]
abbrev f44_S := St → Option (LOD f44_ls × RDL f44_rs)
abbrev f44_L := List (Fr (LOD f44_ls × RDL f44_rs))
def f44_Y : Tys := []
noncomputable def f44_E (k : Nat) : Env := [(43, .b (f43_con k))]
def f44_A : Ann := {}
noncomputable abbrev f44_a (k : Nat) (F : f44_L) : Kont (LOD f44_ls × RDL f44_rs) := ap T f44_Y (f44_E k) f44_A k (KfinB T true f44_ls f44_rs f44_ts) F
def f44_entry_B (k : Nat) (a : (List Int)) : Option ((((List Int) × Unit) × Unit) × ((Int × Int) × Unit)) := ((f43 k a 81).bind fun r1 => ((f43 k r1.1.1.1 81).bind fun r2 => some (((r2.1.1.1, ()), ()), ((w64 (r1.2.1 - 40), w64 (r2.2.1 - 40)), ()))))
theorem f44_entry_P (k : Nat) (x : LOD f44_ls) (xs : DL f44_sig) : f44_a k (.c (f44_p 1) 0 :: []) .nx (σ0B 10 33 0 f44_ls x f44_sig xs) = f44_entry_B k x.1.1 := by kernel_rfl
def f44 (k : Nat) (a : (List Int)) : Option ((((List Int) × Unit) × Unit) × ((Int × Int) × Unit)) := f44_entry_B k a
theorem f44_eq (k : Nat) (x : LOD f44_ls) (xs : DL f44_sig) : den T f44_Y (f44_E k) f44_A k f44_c 0 (σ0B 10 33 0 f44_ls x f44_sig xs) (KfinB T true f44_ls f44_rs f44_ts) = f44 k x.1.1 :=
  Eq.trans (Eq.trans den_sb (ap_at (ap_cons _ rfl) _)) ((f44_entry_P k x xs).trans (by rfl))
noncomputable def f44_con (k : Nat) : BCon := ⟨0, true, f44_ls, f44_sig, f44_rs, fun x xs => f44 k x.1.1⟩
theorem f44_ok (k : Nat) : BoxOK Try.prog 44 0 true f44_ls f44_sig f44_rs (fun x xs => f44 k x.1.1) :=
  (box_of_den (k := k) (A := f44_A) (T := T) (Y := f44_Y) (E := f44_E k) (M := 33) (ts := f44_ts) T_ok ⟨f43_ok k, trivial⟩ ⟨f43_ent, trivial⟩ mixed (f := 44) (fn := Try.f44) (c := f44_c) (by kernel_rfl) (by kernel_rfl) (by kernel_rfl) (by decide) (by kernel_rfl) (by decide)).congr fun x xs => (f44_eq k x xs).symm
theorem f44_ent : Ent Try.prog 44 := fun args w => by kernel_rfl
/-! ### slices.Index[[]terrier/api.Point,terrier/api.Point]: function 69 -/
noncomputable def f69_c : Code := Try.f69.body.getD .skip
noncomputable abbrev f69_p (n : Nat) : Code := sb f69_c n
abbrev f69_sig : List PT := [(false, Tq3), (true, Tq2)]
abbrev f69_rs : List RT := [.d false (.int .i64)]
abbrev f69_ts : List RV := [.tmp 4]
abbrev f69_S := St → Option (RDL f69_rs)
abbrev f69_L := List (Fr (RDL f69_rs))
def f69_Y : Tys := []
noncomputable def f69_E (k : Nat) : Env := []
def f69_A : Ann := { loops := [(0, { slots := [(0, .val false Tq2), (3, .id), (7, .id), (8, .id)], keys := [(3, [])] })] }
noncomputable abbrev f69_a (k : Nat) (F : f69_L) : Kont (RDL f69_rs) := ap T f69_Y (f69_E k) f69_A k (Kfin T f69_rs f69_ts) F
def f69_s_l0 (y3_0 : Int) (y3_1 : Int) (x0 : (List (Int × Int))) (x7 : Int) (x8 : Int) : St := mkS 19 64 [(0, aV Tq2 x0), (3, aP 3), (7, aI x7), (8, aI x8)] [(3, .box [cI y3_0, cI y3_1])]
abbrev f69_t_l0 := Int → Int → (List (Int × Int)) → Int → Int → Option (Int × Unit)
abbrev f69_o_l0 (R : f69_S) : f69_t_l0 := (fun y3_0 y3_1 x0 x7 x8 => R (f69_s_l0 y3_0 y3_1 x0 x7 x8))
noncomputable def f69_Q_l0 (k : Nat) (R_l0 : f69_S) : f69_L := [.c (f69_p 52) 0, .j (fun σ => R_l0 (cut f69_A.loops 0 σ)), .blk 0, .c (f69_p 7) 0]
noncomputable def f69_C_l0 (k : Nat) (n : Nat) (σ : St) : Option (RDL f69_rs) := loopK (fun σ K => den T f69_Y (f69_E k) f69_A k (f69_p 52) 0 σ K) (cut f69_A.loops 0) (f69_a k [.blk 0, .c (f69_p 7) 0]) n σ
noncomputable def f69_F_l0 (k : Nat) (G_l0 : f69_S) : f69_L := .c (f69_p 52) 0 :: .j (fun σ => G_l0 (cut f69_A.loops 0 σ)) :: .blk 0 :: .c (f69_p 7) 0 :: []
theorem f69_f_l0 (k : Nat) (R_l0 : f69_S) : f69_a k (f69_Q_l0 k R_l0) = f69_a k (f69_F_l0 k R_l0) := (ap_cons _ (ap_cons _ (ap_cons _ (ap_cons _ rfl))))
def f69_entry_B (k : Nat) (g_l0 : f69_t_l0) (a0 : Td4) (a1 : (Int × Int)) : Option (Int × Unit) := (g_l0 a1.1 a1.2 a0 (a0.length : Int) 0)
def f69_l0_B (k : Nat) (g_l0 : f69_t_l0) (y3_0 : Int) (y3_1 : Int) (x0 : (List (Int × Int))) (x7 : Int) (x8 : Int) : Option (Int × Unit) := (if x8 < x7 then (if 0 ≤ x8 then (if x8 < (x0.length : Int) then (if (y3_0 = ((x0.getD (x8).toNat (0, 0)).1)) ∧ (y3_1 = ((x0.getD (x8).toNat (0, 0)).2)) then some (x8, ()) else (g_l0 y3_0 y3_1 x0 x7 (w64 (x8 + 1)))) else none) else none) else some ((-1), ()))
theorem f69_l0_P (k : Nat) (G_l0 : f69_S) : f69_o_l0 (fun σ => f69_a k (f69_F_l0 k G_l0) .nx σ) = f69_l0_B k (f69_o_l0 G_l0) := by kernel_rfl
def f69_l0 (k : Nat) : Nat → f69_t_l0
  | 0 => fun _ _ _ _ _ => none
  | n + 1 => f69_l0_B k (f69_l0 k n)
theorem f69_l0_E (k : Nat) : ∀ n, f69_o_l0 (f69_C_l0 k n) = f69_l0 k n
  | 0 => rfl
  | n + 1 =>
    Eq.trans (congrArg f69_o_l0 (Eq.trans (b := fun σ => f69_a k (f69_Q_l0 k (f69_C_l0 k n)) .nx σ) (by kernel_rfl) (ap_fn (f69_f_l0 k (f69_C_l0 k n))))) ((f69_l0_P k (f69_C_l0 k n)).trans (by rw [f69_l0_E k n] <;> rfl))
theorem f69_entry_P (k : Nat) (G_l0 : f69_S) (xs : DL f69_sig) : f69_a k (.c (f69_p 2) 0 :: .c (f69_p 12) 0 :: .j (fun σ => f69_a k (.j (fun σ => G_l0 (cut f69_A.loops 0 σ)) :: .blk 0 :: .c (f69_p 7) 0 :: []) .nx σ) :: .c (f69_p 7) 0 :: []) .nx (σ0 19 64 f69_sig xs) = f69_entry_B k (f69_o_l0 G_l0) xs.1 xs.2.1 := by kernel_rfl
def f69 (k : Nat) (a0 : Td4) (a1 : (Int × Int)) : Option (Int × Unit) := f69_entry_B k (f69_l0 k k) a0 a1
theorem f69_fe (k : Nat) : f69_a k [.c (f69_p 1) 0] = f69_a k (.c (f69_p 2) 0 :: .c (f69_p 12) 0 :: .j (fun σ => f69_a k (.j (fun σ => (f69_C_l0 k k) (cut f69_A.loops 0 σ)) :: .blk 0 :: .c (f69_p 7) 0 :: []) .nx σ) :: .c (f69_p 7) 0 :: []) := (Eq.trans ap_sq (ap_cons _ (Eq.trans ap_sq (Eq.trans ap_sq (ap_cons _ (Eq.trans (ap_bl 0) (Eq.trans (ap_j (Eq.trans (ap_lp (C := (f69_C_l0 k)) (fun _ _ => rfl)) (ap_cons _ (ap_cons _ (ap_cons _ rfl))))) (ap_cons _ (ap_cons _ rfl)))))))))
theorem f69_eq (k : Nat) (xs : DL f69_sig) : den T f69_Y (f69_E k) f69_A k f69_c 0 (σ0 19 64 f69_sig xs) (Kfin T f69_rs f69_ts) = f69 k xs.1 xs.2.1 :=
  Eq.trans (Eq.trans den_sb (ap_at (f69_fe k) _)) ((f69_entry_P k (f69_C_l0 k k) xs).trans (by rw [f69_l0_E k k] <;> rfl))
noncomputable def f69_con (k : Nat) : Con := ⟨f69_sig, f69_rs, fun xs => f69 k xs.1 xs.2.1⟩
theorem f69_ok (k : Nat) : PureOK Try.prog 69 f69_sig f69_rs (fun xs => f69 k xs.1 xs.2.1) :=
  (pure_of_den (k := k) (A := f69_A) (T := T) (Y := f69_Y) (E := f69_E k) (M := 64) (ts := f69_ts) T_ok trivial trivial mixed (f := 69) (fn := Try.f69) (c := f69_c) (by kernel_rfl) (by kernel_rfl) (by kernel_rfl) (by decide) (by kernel_rfl)).congr fun xs => (f69_eq k xs).symm
theorem f69_ent : Ent Try.prog 69 := fun args w => by kernel_rfl
/-! ### slices.Contains[[]terrier/api.Point,terrier/api.Point]: function 45 -/
noncomputable def f45_c : Code := Try.f45.body.getD .skip
noncomputable abbrev f45_p (n : Nat) : Code := sb f45_c n
abbrev f45_sig : List PT := [(false, Tq3), (true, Tq2)]
abbrev f45_rs : List RT := [.d false .bool]
abbrev f45_ts : List RV := [.tmp 4]
abbrev f45_S := St → Option (RDL f45_rs)
abbrev f45_L := List (Fr (RDL f45_rs))
def f45_Y : Tys := []
noncomputable def f45_E (k : Nat) : Env := [(69, .c (f69_con k))]
def f45_A : Ann := {}
noncomputable abbrev f45_a (k : Nat) (F : f45_L) : Kont (RDL f45_rs) := ap T f45_Y (f45_E k) f45_A k (Kfin T f45_rs f45_ts) F
def f45_entry_B (k : Nat) (a0 : Td4) (a1 : (Int × Int)) : Option (Bool × Unit) := ((f69 k a0 (a1.1, a1.2)).bind fun r1 => some (decide (0 ≤ r1.1), ()))
theorem f45_entry_P (k : Nat) (xs : DL f45_sig) : f45_a k (.c (f45_p 1) 0 :: []) .nx (σ0 9 32 f45_sig xs) = f45_entry_B k xs.1 xs.2.1 := by kernel_rfl
def f45 (k : Nat) (a0 : Td4) (a1 : (Int × Int)) : Option (Bool × Unit) := f45_entry_B k a0 a1
theorem f45_eq (k : Nat) (xs : DL f45_sig) : den T f45_Y (f45_E k) f45_A k f45_c 0 (σ0 9 32 f45_sig xs) (Kfin T f45_rs f45_ts) = f45 k xs.1 xs.2.1 :=
  Eq.trans (Eq.trans den_sb (ap_at (ap_cons _ rfl) _)) ((f45_entry_P k xs).trans (by rfl))
noncomputable def f45_con (k : Nat) : Con := ⟨f45_sig, f45_rs, fun xs => f45 k xs.1 xs.2.1⟩
theorem f45_ok (k : Nat) : PureOK Try.prog 45 f45_sig f45_rs (fun xs => f45 k xs.1 xs.2.1) :=
  (pure_of_den (k := k) (A := f45_A) (T := T) (Y := f45_Y) (E := f45_E k) (M := 32) (ts := f45_ts) T_ok ⟨f69_ok k, trivial⟩ ⟨f69_ent, trivial⟩ mixed (f := 45) (fn := Try.f45) (c := f45_c) (by kernel_rfl) (by kernel_rfl) (by kernel_rfl) (by decide) (by kernel_rfl)).congr fun xs => (f45_eq k xs).symm
theorem f45_ent : Ent Try.prog 45 := fun args w => by kernel_rfl
/-! ### slices.Index[[]terrier/api.Ban,terrier/api.Ban]: function 70 -/
noncomputable def f70_c : Code := Try.f70.body.getD .skip
noncomputable abbrev f70_p (n : Nat) : Code := sb f70_c n
abbrev f70_sig : List PT := [(false, Tq3), (true, Tq2)]
abbrev f70_rs : List RT := [.d false (.int .i64)]
abbrev f70_ts : List RV := [.tmp 4]
abbrev f70_S := St → Option (RDL f70_rs)
abbrev f70_L := List (Fr (RDL f70_rs))
def f70_Y : Tys := []
noncomputable def f70_E (k : Nat) : Env := []
def f70_A : Ann := { loops := [(0, { slots := [(0, .val false Tq2), (3, .id), (7, .id), (8, .id)], keys := [(3, [])] })] }
noncomputable abbrev f70_a (k : Nat) (F : f70_L) : Kont (RDL f70_rs) := ap T f70_Y (f70_E k) f70_A k (Kfin T f70_rs f70_ts) F
def f70_s_l0 (y3_0 : Int) (y3_1 : Int) (x0 : (List (Int × Int))) (x7 : Int) (x8 : Int) : St := mkS 19 64 [(0, aV Tq2 x0), (3, aP 3), (7, aI x7), (8, aI x8)] [(3, .box [cI y3_0, cI y3_1])]
abbrev f70_t_l0 := Int → Int → (List (Int × Int)) → Int → Int → Option (Int × Unit)
abbrev f70_o_l0 (R : f70_S) : f70_t_l0 := (fun y3_0 y3_1 x0 x7 x8 => R (f70_s_l0 y3_0 y3_1 x0 x7 x8))
noncomputable def f70_Q_l0 (k : Nat) (R_l0 : f70_S) : f70_L := [.c (f70_p 52) 0, .j (fun σ => R_l0 (cut f70_A.loops 0 σ)), .blk 0, .c (f70_p 7) 0]
noncomputable def f70_C_l0 (k : Nat) (n : Nat) (σ : St) : Option (RDL f70_rs) := loopK (fun σ K => den T f70_Y (f70_E k) f70_A k (f70_p 52) 0 σ K) (cut f70_A.loops 0) (f70_a k [.blk 0, .c (f70_p 7) 0]) n σ
noncomputable def f70_F_l0 (k : Nat) (G_l0 : f70_S) : f70_L := .c (f70_p 52) 0 :: .j (fun σ => G_l0 (cut f70_A.loops 0 σ)) :: .blk 0 :: .c (f70_p 7) 0 :: []
theorem f70_f_l0 (k : Nat) (R_l0 : f70_S) : f70_a k (f70_Q_l0 k R_l0) = f70_a k (f70_F_l0 k R_l0) := (ap_cons _ (ap_cons _ (ap_cons _ (ap_cons _ rfl))))
def f70_entry_B (k : Nat) (g_l0 : f70_t_l0) (a0 : Td4) (a1 : (Int × Int)) : Option (Int × Unit) := (g_l0 a1.1 a1.2 a0 (a0.length : Int) 0)
def f70_l0_B (k : Nat) (g_l0 : f70_t_l0) (y3_0 : Int) (y3_1 : Int) (x0 : (List (Int × Int))) (x7 : Int) (x8 : Int) : Option (Int × Unit) := (if x8 < x7 then (if 0 ≤ x8 then (if x8 < (x0.length : Int) then (if (y3_0 = ((x0.getD (x8).toNat (0, 0)).1)) ∧ (y3_1 = ((x0.getD (x8).toNat (0, 0)).2)) then some (x8, ()) else (g_l0 y3_0 y3_1 x0 x7 (w64 (x8 + 1)))) else none) else none) else some ((-1), ()))
theorem f70_l0_P (k : Nat) (G_l0 : f70_S) : f70_o_l0 (fun σ => f70_a k (f70_F_l0 k G_l0) .nx σ) = f70_l0_B k (f70_o_l0 G_l0) := by kernel_rfl
def f70_l0 (k : Nat) : Nat → f70_t_l0
  | 0 => fun _ _ _ _ _ => none
  | n + 1 => f70_l0_B k (f70_l0 k n)
theorem f70_l0_E (k : Nat) : ∀ n, f70_o_l0 (f70_C_l0 k n) = f70_l0 k n
  | 0 => rfl
  | n + 1 =>
    Eq.trans (congrArg f70_o_l0 (Eq.trans (b := fun σ => f70_a k (f70_Q_l0 k (f70_C_l0 k n)) .nx σ) (by kernel_rfl) (ap_fn (f70_f_l0 k (f70_C_l0 k n))))) ((f70_l0_P k (f70_C_l0 k n)).trans (by rw [f70_l0_E k n] <;> rfl))
theorem f70_entry_P (k : Nat) (G_l0 : f70_S) (xs : DL f70_sig) : f70_a k (.c (f70_p 2) 0 :: .c (f70_p 12) 0 :: .j (fun σ => f70_a k (.j (fun σ => G_l0 (cut f70_A.loops 0 σ)) :: .blk 0 :: .c (f70_p 7) 0 :: []) .nx σ) :: .c (f70_p 7) 0 :: []) .nx (σ0 19 64 f70_sig xs) = f70_entry_B k (f70_o_l0 G_l0) xs.1 xs.2.1 := by kernel_rfl
def f70 (k : Nat) (a0 : Td4) (a1 : (Int × Int)) : Option (Int × Unit) := f70_entry_B k (f70_l0 k k) a0 a1
theorem f70_fe (k : Nat) : f70_a k [.c (f70_p 1) 0] = f70_a k (.c (f70_p 2) 0 :: .c (f70_p 12) 0 :: .j (fun σ => f70_a k (.j (fun σ => (f70_C_l0 k k) (cut f70_A.loops 0 σ)) :: .blk 0 :: .c (f70_p 7) 0 :: []) .nx σ) :: .c (f70_p 7) 0 :: []) := (Eq.trans ap_sq (ap_cons _ (Eq.trans ap_sq (Eq.trans ap_sq (ap_cons _ (Eq.trans (ap_bl 0) (Eq.trans (ap_j (Eq.trans (ap_lp (C := (f70_C_l0 k)) (fun _ _ => rfl)) (ap_cons _ (ap_cons _ (ap_cons _ rfl))))) (ap_cons _ (ap_cons _ rfl)))))))))
theorem f70_eq (k : Nat) (xs : DL f70_sig) : den T f70_Y (f70_E k) f70_A k f70_c 0 (σ0 19 64 f70_sig xs) (Kfin T f70_rs f70_ts) = f70 k xs.1 xs.2.1 :=
  Eq.trans (Eq.trans den_sb (ap_at (f70_fe k) _)) ((f70_entry_P k (f70_C_l0 k k) xs).trans (by rw [f70_l0_E k k] <;> rfl))
noncomputable def f70_con (k : Nat) : Con := ⟨f70_sig, f70_rs, fun xs => f70 k xs.1 xs.2.1⟩
theorem f70_ok (k : Nat) : PureOK Try.prog 70 f70_sig f70_rs (fun xs => f70 k xs.1 xs.2.1) :=
  (pure_of_den (k := k) (A := f70_A) (T := T) (Y := f70_Y) (E := f70_E k) (M := 64) (ts := f70_ts) T_ok trivial trivial mixed (f := 70) (fn := Try.f70) (c := f70_c) (by kernel_rfl) (by kernel_rfl) (by kernel_rfl) (by decide) (by kernel_rfl)).congr fun xs => (f70_eq k xs).symm
theorem f70_ent : Ent Try.prog 70 := fun args w => by kernel_rfl
/-! ### slices.Contains[[]terrier/api.Ban,terrier/api.Ban]: function 46 -/
noncomputable def f46_c : Code := Try.f46.body.getD .skip
noncomputable abbrev f46_p (n : Nat) : Code := sb f46_c n
abbrev f46_sig : List PT := [(false, Tq3), (true, Tq2)]
abbrev f46_rs : List RT := [.d false .bool]
abbrev f46_ts : List RV := [.tmp 4]
abbrev f46_S := St → Option (RDL f46_rs)
abbrev f46_L := List (Fr (RDL f46_rs))
def f46_Y : Tys := []
noncomputable def f46_E (k : Nat) : Env := [(70, .c (f70_con k))]
def f46_A : Ann := {}
noncomputable abbrev f46_a (k : Nat) (F : f46_L) : Kont (RDL f46_rs) := ap T f46_Y (f46_E k) f46_A k (Kfin T f46_rs f46_ts) F
def f46_entry_B (k : Nat) (a0 : Td4) (a1 : (Int × Int)) : Option (Bool × Unit) := ((f70 k a0 (a1.1, a1.2)).bind fun r1 => some (decide (0 ≤ r1.1), ()))
theorem f46_entry_P (k : Nat) (xs : DL f46_sig) : f46_a k (.c (f46_p 1) 0 :: []) .nx (σ0 9 32 f46_sig xs) = f46_entry_B k xs.1 xs.2.1 := by kernel_rfl
def f46 (k : Nat) (a0 : Td4) (a1 : (Int × Int)) : Option (Bool × Unit) := f46_entry_B k a0 a1
theorem f46_eq (k : Nat) (xs : DL f46_sig) : den T f46_Y (f46_E k) f46_A k f46_c 0 (σ0 9 32 f46_sig xs) (Kfin T f46_rs f46_ts) = f46 k xs.1 xs.2.1 :=
  Eq.trans (Eq.trans den_sb (ap_at (ap_cons _ rfl) _)) ((f46_entry_P k xs).trans (by rfl))
noncomputable def f46_con (k : Nat) : Con := ⟨f46_sig, f46_rs, fun xs => f46 k xs.1 xs.2.1⟩
theorem f46_ok (k : Nat) : PureOK Try.prog 46 f46_sig f46_rs (fun xs => f46 k xs.1 xs.2.1) :=
  (pure_of_den (k := k) (A := f46_A) (T := T) (Y := f46_Y) (E := f46_E k) (M := 32) (ts := f46_ts) T_ok ⟨f70_ok k, trivial⟩ ⟨f70_ent, trivial⟩ mixed (f := 46) (fn := Try.f46) (c := f46_c) (by kernel_rfl) (by kernel_rfl) (by kernel_rfl) (by decide) (by kernel_rfl)).congr fun xs => (f46_eq k xs).symm
theorem f46_ent : Ent Try.prog 46 := fun args w => by kernel_rfl
/-! ### math/bits.Len64: function 95 -/
noncomputable def f95_c : Code := Try.f95.body.getD .skip
noncomputable abbrev f95_p (n : Nat) : Code := sb f95_c n
abbrev f95_sig : List PT := [(false, (.int .u64))]
abbrev f95_rs : List RT := [.d false (.int .i64)]
abbrev f95_ts : List RV := [.tmp 2]
abbrev f95_S := St → Option (RDL f95_rs)
abbrev f95_L := List (Fr (RDL f95_rs))
def f95_Y : Tys := []
noncomputable def f95_E (k : Nat) : Env := []
def f95_A : Ann := { conds := [(2, { slots := [(0, .id), (2, .id)] }), (5, { slots := [(0, .id), (2, .id)] }), (8, { slots := [(0, .id), (2, .id)] })] }
noncomputable abbrev f95_a (k : Nat) (F : f95_L) : Kont (RDL f95_rs) := ap T f95_Y (f95_E k) f95_A k (Kfin T f95_rs f95_ts) F
def f95_s_c2 (x0 : Int) (x2 : Int) : St := mkS 25 80 [(0, .cp (.one (.int .u64 x0))), (2, aI x2)] []
abbrev f95_t_c2 := Int → Int → Option (Int × Unit)
abbrev f95_o_c2 (R : f95_S) : f95_t_c2 := (fun x0 x2 => R (f95_s_c2 x0 x2))
noncomputable def f95_Q_c2 (k : Nat) : f95_L := [.c (f95_p 7) 0]
noncomputable def f95_C_c2 (k : Nat) : f95_S := fun σ => f95_a k (f95_Q_c2 k) .nx σ
def f95_s_c5 (x0 : Int) (x2 : Int) : St := mkS 25 80 [(0, .cp (.one (.int .u64 x0))), (2, aI x2)] []
abbrev f95_t_c5 := Int → Int → Option (Int × Unit)
abbrev f95_o_c5 (R : f95_S) : f95_t_c5 := (fun x0 x2 => R (f95_s_c5 x0 x2))
noncomputable def f95_Q_c5 (k : Nat) : f95_L := [.c (f95_p 15) 0]
noncomputable def f95_C_c5 (k : Nat) : f95_S := fun σ => f95_a k (f95_Q_c5 k) .nx σ
def f95_s_c8 (x0 : Int) (x2 : Int) : St := mkS 25 80 [(0, .cp (.one (.int .u64 x0))), (2, aI x2)] []
abbrev f95_t_c8 := Int → Int → Option (Int × Unit)
abbrev f95_o_c8 (R : f95_S) : f95_t_c8 := (fun x0 x2 => R (f95_s_c8 x0 x2))
noncomputable def f95_Q_c8 (k : Nat) : f95_L := [.c (f95_p 31) 0]
noncomputable def f95_C_c8 (k : Nat) : f95_S := fun σ => f95_a k (f95_Q_c8 k) .nx σ
noncomputable def f95_F_c8 (k : Nat) : f95_L := .c (f95_p 31) 0 :: []
theorem f95_f_c8 (k : Nat) : f95_a k (f95_Q_c8 k) = f95_a k (f95_F_c8 k) := (ap_cons _ rfl)
noncomputable def f95_F_c5 (k : Nat) (G_c8 : f95_S) : f95_L := .c (f95_p 60) 0 :: .c (f95_p 61) 0 :: .j G_c8 :: f95_F_c8 k
theorem f95_f_c5 (k : Nat) : f95_a k (f95_Q_c5 k) = f95_a k (f95_F_c5 k (f95_C_c8 k)) := (Eq.trans ap_sq (Eq.trans ap_sq (ap_cons _ (ap_cons _ (Eq.trans (ap_pass (C := (f95_C_c8 k)) (fun _ => rfl)) (ap_cons _ (f95_f_c8 k)))))))
noncomputable def f95_F_c2 (k : Nat) (G_c5 G_c8 : f95_S) : f95_L := .c (f95_p 28) 0 :: .c (f95_p 29) 0 :: .j G_c5 :: f95_F_c5 k G_c8
theorem f95_f_c2 (k : Nat) : f95_a k (f95_Q_c2 k) = f95_a k (f95_F_c2 k (f95_C_c5 k) (f95_C_c8 k)) := (Eq.trans ap_sq (Eq.trans ap_sq (ap_cons _ (ap_cons _ (Eq.trans (ap_pass (C := (f95_C_c5 k)) (fun _ => rfl)) (ap_cons _ (f95_f_c5 k)))))))
def f95_entry_B (k : Nat) (g_c2 : f95_t_c2) (a0 : Int) : Option (Int × Unit) := (if 4294967296 ≤ a0 then (g_c2 (a0.fdiv (2 ^ min (32 : Int).toNat (IntKind.bits .u64))) 32) else (g_c2 a0 0))
def f95_c2_B (k : Nat) (g_c5 : f95_t_c5) (x0 : Int) (x2 : Int) : Option (Int × Unit) := (if 65536 ≤ x0 then (g_c5 (x0.fdiv (2 ^ min (16 : Int).toNat (IntKind.bits .u64))) (w64 (x2 + 16))) else (g_c5 x0 x2))
def f95_c5_B (k : Nat) (g_c8 : f95_t_c8) (x0 : Int) (x2 : Int) : Option (Int × Unit) := (if 256 ≤ x0 then (g_c8 (x0.fdiv (2 ^ min (8 : Int).toNat (IntKind.bits .u64))) (w64 (x2 + 8))) else (g_c8 x0 x2))
def f95_c8_B (k : Nat) (x0 : Int) (x2 : Int) : Option (Int × Unit) := (if 0 ≤ (IntKind.u8.wrap (x0)) then (if (IntKind.u8.wrap (x0)) < (Ts0.size : Int) then some (w64 (x2 + (w64 (strAt Ts0 (IntKind.u8.wrap (x0)).toNat))), ()) else none) else none)
theorem f95_c8_P (k : Nat) : f95_o_c8 (fun σ => f95_a k (f95_F_c8 k) .nx σ) = f95_c8_B k := by kernel_rfl
def f95_c8 (k : Nat) : f95_t_c8 := f95_c8_B k
theorem f95_c8_E (k : Nat) : f95_o_c8 (f95_C_c8 k) = f95_c8 k :=
  Eq.trans (congrArg f95_o_c8 (ap_fn (f95_f_c8 k))) ((f95_c8_P k).trans (by rfl))
theorem f95_c5_P (k : Nat) (G_c8 : f95_S) : f95_o_c5 (fun σ => f95_a k (f95_F_c5 k G_c8) .nx σ) = f95_c5_B k (f95_o_c8 G_c8) := by kernel_rfl
def f95_c5 (k : Nat) : f95_t_c5 := f95_c5_B k (f95_c8 k)
theorem f95_c5_E (k : Nat) : f95_o_c5 (f95_C_c5 k) = f95_c5 k :=
  Eq.trans (congrArg f95_o_c5 (ap_fn (f95_f_c5 k))) ((f95_c5_P k (f95_C_c8 k)).trans (by rw [f95_c8_E k] <;> rfl))
theorem f95_c2_P (k : Nat) (G_c5 G_c8 : f95_S) : f95_o_c2 (fun σ => f95_a k (f95_F_c2 k G_c5 G_c8) .nx σ) = f95_c2_B k (f95_o_c5 G_c5) := by kernel_rfl
def f95_c2 (k : Nat) : f95_t_c2 := f95_c2_B k (f95_c5 k)
theorem f95_c2_E (k : Nat) : f95_o_c2 (f95_C_c2 k) = f95_c2 k :=
  Eq.trans (congrArg f95_o_c2 (ap_fn (f95_f_c2 k))) ((f95_c2_P k (f95_C_c5 k) (f95_C_c8 k)).trans (by rw [f95_c5_E k] <;> rfl))
theorem f95_entry_P (k : Nat) (G_c2 G_c5 G_c8 : f95_S) (xs : DL f95_sig) : f95_a k (.c (f95_p 2) 0 :: .c (f95_p 12) 0 :: .c (f95_p 13) 0 :: .j G_c2 :: f95_F_c2 k G_c5 G_c8) .nx (σ0 25 80 f95_sig xs) = f95_entry_B k (f95_o_c2 G_c2) xs.1 := by kernel_rfl
def f95 (k : Nat) (a0 : Int) : Option (Int × Unit) := f95_entry_B k (f95_c2 k) a0
theorem f95_fe (k : Nat) : f95_a k [.c (f95_p 1) 0] = f95_a k (.c (f95_p 2) 0 :: .c (f95_p 12) 0 :: .c (f95_p 13) 0 :: .j (f95_C_c2 k) :: f95_F_c2 k (f95_C_c5 k) (f95_C_c8 k)) := (Eq.trans ap_sq (ap_cons _ (Eq.trans ap_sq (Eq.trans ap_sq (ap_cons _ (ap_cons _ (Eq.trans (ap_pass (C := (f95_C_c2 k)) (fun _ => rfl)) (ap_cons _ (f95_f_c2 k)))))))))
theorem f95_eq (k : Nat) (xs : DL f95_sig) : den T f95_Y (f95_E k) f95_A k f95_c 0 (σ0 25 80 f95_sig xs) (Kfin T f95_rs f95_ts) = f95 k xs.1 :=
  Eq.trans (Eq.trans den_sb (ap_at (f95_fe k) _)) ((f95_entry_P k (f95_C_c2 k) (f95_C_c5 k) (f95_C_c8 k) xs).trans (by rw [f95_c2_E k] <;> rfl))
noncomputable def f95_con (k : Nat) : Con := ⟨f95_sig, f95_rs, fun xs => f95 k xs.1⟩
theorem f95_ok (k : Nat) : PureOK Try.prog 95 f95_sig f95_rs (fun xs => f95 k xs.1) :=
  (pure_of_den (k := k) (A := f95_A) (T := T) (Y := f95_Y) (E := f95_E k) (M := 80) (ts := f95_ts) T_ok trivial trivial mixed (f := 95) (fn := Try.f95) (c := f95_c) (by kernel_rfl) (by kernel_rfl) (by kernel_rfl) (by decide) (by kernel_rfl)).congr fun xs => (f95_eq k xs).symm
theorem f95_ent : Ent Try.prog 95 := fun args w => by kernel_rfl
/-! ### math/bits.Len: function 68 -/
noncomputable def f68_c : Code := Try.f68.body.getD .skip
noncomputable abbrev f68_p (n : Nat) : Code := sb f68_c n
abbrev f68_sig : List PT := [(false, (.int .u64))]
abbrev f68_rs : List RT := [.d false (.int .i64)]
abbrev f68_ts : List RV := [.tmp 2]
abbrev f68_S := St → Option (RDL f68_rs)
abbrev f68_L := List (Fr (RDL f68_rs))
def f68_Y : Tys := []
noncomputable def f68_E (k : Nat) : Env := [(95, .c (f95_con k))]
def f68_A : Ann := {}
noncomputable abbrev f68_a (k : Nat) (F : f68_L) : Kont (RDL f68_rs) := ap T f68_Y (f68_E k) f68_A k (Kfin T f68_rs f68_ts) F
def f68_entry_B (k : Nat) (a0 : Int) : Option (Int × Unit) := ((f95 k a0).bind fun r1 => some (r1.1, ()))
theorem f68_entry_P (k : Nat) (xs : DL f68_sig) : f68_a k (.c (f68_p 1) 0 :: []) .nx (σ0 8 32 f68_sig xs) = f68_entry_B k xs.1 := by kernel_rfl
def f68 (k : Nat) (a0 : Int) : Option (Int × Unit) := f68_entry_B k a0
theorem f68_eq (k : Nat) (xs : DL f68_sig) : den T f68_Y (f68_E k) f68_A k f68_c 0 (σ0 8 32 f68_sig xs) (Kfin T f68_rs f68_ts) = f68 k xs.1 :=
  Eq.trans (Eq.trans den_sb (ap_at (ap_cons _ rfl) _)) ((f68_entry_P k xs).trans (by rfl))
noncomputable def f68_con (k : Nat) : Con := ⟨f68_sig, f68_rs, fun xs => f68 k xs.1⟩
theorem f68_ok (k : Nat) : PureOK Try.prog 68 f68_sig f68_rs (fun xs => f68 k xs.1) :=
  (pure_of_den (k := k) (A := f68_A) (T := T) (Y := f68_Y) (E := f68_E k) (M := 32) (ts := f68_ts) T_ok ⟨f95_ok k, trivial⟩ ⟨f95_ent, trivial⟩ mixed (f := 68) (fn := Try.f68) (c := f68_c) (by kernel_rfl) (by kernel_rfl) (by kernel_rfl) (by decide) (by kernel_rfl)).congr fun xs => (f68_eq k xs).symm
theorem f68_ent : Ent Try.prog 68 := fun args w => by kernel_rfl
/-! ### terrier/terrmake.Net$1: function 48 -/
noncomputable def f48_c : Code := Try.f48.body.getD .skip
noncomputable abbrev f48_p (n : Nat) : Code := sb f48_c n
abbrev f48_sig : List PT := [(true, Tq2), (true, Tq2)]
abbrev f48_rs : List RT := [.d false (.int .i64)]
abbrev f48_ts : List RV := [.tmp 4]
abbrev f48_S := St → Option (RDL f48_rs)
abbrev f48_L := List (Fr (RDL f48_rs))
def f48_Y : Tys := []
noncomputable def f48_E (k : Nat) : Env := []
def f48_A : Ann := {}
noncomputable abbrev f48_a (k : Nat) (F : f48_L) : Kont (RDL f48_rs) := ap T f48_Y (f48_E k) f48_A k (Kfin T f48_rs f48_ts) F
def f48_entry_B (k : Nat) (a0 : (Int × Int)) (a1 : (Int × Int)) : Option (Int × Unit) := (if ¬ (a0.1 = a1.1) then some (w64 (a0.1 - a1.1), ()) else some (w64 (a0.2 - a1.2), ()))
theorem f48_entry_P (k : Nat) (xs : DL f48_sig) : f48_a k (.c (f48_p 1) 0 :: []) .nx (σ0 20 64 f48_sig xs) = f48_entry_B k xs.1 xs.2.1 := by kernel_rfl
def f48 (k : Nat) (a0 : (Int × Int)) (a1 : (Int × Int)) : Option (Int × Unit) := f48_entry_B k a0 a1
theorem f48_eq (k : Nat) (xs : DL f48_sig) : den T f48_Y (f48_E k) f48_A k f48_c 0 (σ0 20 64 f48_sig xs) (Kfin T f48_rs f48_ts) = f48 k xs.1 xs.2.1 :=
  Eq.trans (Eq.trans den_sb (ap_at (ap_cons _ rfl) _)) ((f48_entry_P k xs).trans (by rfl))
noncomputable def f48_con (k : Nat) : Con := ⟨f48_sig, f48_rs, fun xs => f48 k xs.1 xs.2.1⟩
theorem f48_ok (k : Nat) : PureOK Try.prog 48 f48_sig f48_rs (fun xs => f48 k xs.1 xs.2.1) :=
  (pure_of_den (k := k) (A := f48_A) (T := T) (Y := f48_Y) (E := f48_E k) (M := 64) (ts := f48_ts) T_ok trivial trivial mixed (f := 48) (fn := Try.f48) (c := f48_c) (by kernel_rfl) (by kernel_rfl) (by kernel_rfl) (by decide) (by kernel_rfl)).congr fun xs => (f48_eq k xs).symm
theorem f48_ent : Ent Try.prog 48 := fun args w => by kernel_rfl
/-! ### slices.insertionSortCmpFunc[terrier/api.Ban]: function 96 -/
noncomputable def f96_c : Code := Try.f96.body.getD .skip
noncomputable abbrev f96_p (n : Nat) : Code := sb f96_c n
abbrev f96_sig : List PT := [(false, (.int .i64)), (false, (.int .i64)), (false, (.fn 48))]
abbrev f96_rs : List RT := []
abbrev f96_ts : List RV := []
abbrev f96_ls : List LO := [.row Tq2]
abbrev f96_S := St → Option (LOD f96_ls × RDL f96_rs)
abbrev f96_L := List (Fr (LOD f96_ls × RDL f96_rs))
def f96_Y : Tys := []
noncomputable def f96_E (k : Nat) : Env := [(48, .c (f48_con k))]
def f96_A : Ann := { loops := [(0, { slots := [(0, .id), (1, .id), (2, .id), (3, .id), (8, .id)], keys := [(0, [])] }), (2, { slots := [(0, .id), (1, .id), (2, .id), (3, .id), (8, .id), (9, .id)], keys := [(0, [])] })], regs := [(4, { slots := [(0, .id), (1, .id), (2, .id), (3, .id), (8, .id), (9, .id), (34, .bool)], keys := [(0, [])] })] }
noncomputable abbrev f96_a (k : Nat) (F : f96_L) : Kont (LOD f96_ls × RDL f96_rs) := ap T f96_Y (f96_E k) f96_A k (KfinB T true f96_ls f96_rs f96_ts) F
def f96_s_l0 (y0 : (List (Int × Int))) (x1 : Int) (x2 : Int) (x8 : Int) : St := mkS 53 161 [(0, aO 0), (1, aI x1), (2, aI x2), (3, .cp (.one (.fn 48 []))), (8, aI x8)] [(0, .vec Tq2 y0)]
abbrev f96_t_l0 := (List (Int × Int)) → Int → Int → Int → Option (((List (Int × Int)) × Unit) × (Unit))
abbrev f96_o_l0 (R : f96_S) : f96_t_l0 := (fun y0 x1 x2 x8 => R (f96_s_l0 y0 x1 x2 x8))
noncomputable def f96_Q_l0 (k : Nat) (R_l0 : f96_S) : f96_L := [.c (f96_p 12) 0, .j (fun σ => R_l0 (cut f96_A.loops 0 σ)), .blk 0]
noncomputable def f96_C_l0 (k : Nat) (n : Nat) (σ : St) : Option (LOD f96_ls × RDL f96_rs) := loopK (fun σ K => den T f96_Y (f96_E k) f96_A k (f96_p 12) 0 σ K) (cut f96_A.loops 0) (f96_a k [.blk 0]) n σ
def f96_s_l2 (y0 : (List (Int × Int))) (x1 : Int) (x2 : Int) (x8 : Int) (x9 : Int) : St := mkS 53 161 [(0, aO 0), (1, aI x1), (2, aI x2), (3, .cp (.one (.fn 48 []))), (8, aI x8), (9, aI x9)] [(0, .vec Tq2 y0)]
abbrev f96_t_l2 := (List (Int × Int)) → Int → Int → Int → Int → Option (((List (Int × Int)) × Unit) × (Unit))
abbrev f96_o_l2 (R : f96_S) : f96_t_l2 := (fun y0 x1 x2 x8 x9 => R (f96_s_l2 y0 x1 x2 x8 x9))
noncomputable def f96_Q_l2 (k : Nat) (R_l0 R_l2 : f96_S) : f96_L := [.c (f96_p 804) 2, .j (fun σ => R_l2 (cut f96_A.loops 2 σ)), .blk 2, .blk 1, .c (f96_p 51) 0, .j (fun σ => R_l0 (cut f96_A.loops 0 σ)), .blk 0]
noncomputable def f96_C_l2 (k : Nat) (R_l0 : f96_S) (n : Nat) (σ : St) : Option (LOD f96_ls × RDL f96_rs) := loopK (fun σ K => den T f96_Y (f96_E k) f96_A k (f96_p 804) 2 σ K) (cut f96_A.loops 2) (f96_a k [.blk 2, .blk 1, .c (f96_p 51) 0, .j (fun σ => R_l0 (cut f96_A.loops 0 σ)), .blk 0]) n σ
def f96_s_r4 (y0 : (List (Int × Int))) (x1 : Int) (x2 : Int) (x34 : Bool) (x8 : Int) (x9 : Int) : St := mkS 53 161 [(0, aO 0), (1, aI x1), (2, aI x2), (3, .cp (.one (.fn 48 []))), (8, aI x8), (9, aI x9), (34, aB x34)] [(0, .vec Tq2 y0)]
abbrev f96_t_r4 := (List (Int × Int)) → Int → Int → Bool → Int → Int → Option (((List (Int × Int)) × Unit) × (Unit))
abbrev f96_o_r4 (R : f96_S) : f96_t_r4 := (fun y0 x1 x2 x34 x8 x9 => R (f96_s_r4 y0 x1 x2 x34 x8 x9))
noncomputable def f96_Q_r4 (k : Nat) (R_l2 R_l0 : f96_S) : f96_L := [.c (f96_p 3217) 2, .c (f96_p 1609) 2, .j (fun σ => R_l2 (cut f96_A.loops 2 σ)), .blk 2, .blk 1, .c (f96_p 51) 0, .j (fun σ => R_l0 (cut f96_A.loops 0 σ)), .blk 0]
noncomputable def f96_C_r4 (k : Nat) (R_l2 R_l0 : f96_S) : f96_S := fun σ => f96_a k (f96_Q_r4 k R_l2 R_l0) .nx σ
noncomputable def f96_F_l0 (k : Nat) (G_l0 G_l2 : f96_S) : f96_L := .c (f96_p 24) 0 :: .j (fun σ => f96_a k (.c (f96_p 200) 1 :: .j (fun σ => f96_a k (.j (fun σ => G_l2 (cut f96_A.loops 2 σ)) :: .blk 2 :: .blk 1 :: .c (f96_p 51) 0 :: .j (fun σ => G_l0 (cut f96_A.loops 0 σ)) :: .blk 0 :: []) .nx σ) :: .blk 1 :: .c (f96_p 51) 0 :: .j (fun σ => G_l0 (cut f96_A.loops 0 σ)) :: .blk 0 :: []) .nx σ) :: .c (f96_p 51) 0 :: .j (fun σ => G_l0 (cut f96_A.loops 0 σ)) :: .blk 0 :: []
theorem f96_f_l0 (k : Nat) (R_l0 : f96_S) : f96_a k (f96_Q_l0 k R_l0) = f96_a k (f96_F_l0 k R_l0 (f96_C_l2 k R_l0 k)) := (Eq.trans ap_sq (ap_cons _ (Eq.trans ap_sq (Eq.trans (ap_bl 1) (Eq.trans (ap_j (Eq.trans ap_sq (ap_cons _ (Eq.trans (ap_bl 2) (Eq.trans (ap_j (Eq.trans (ap_lp (C := (f96_C_l2 k R_l0)) (fun _ _ => rfl)) (ap_cons _ (ap_cons _ (ap_cons _ (ap_cons _ (ap_cons _ (ap_cons _ rfl)))))))) (ap_cons _ (ap_cons _ (ap_cons _ (ap_cons _ (ap_cons _ rfl)))))))))) (ap_cons _ (ap_cons _ (ap_cons _ (ap_cons _ rfl)))))))))
noncomputable def f96_F_r4 (k : Nat) (G_l0 G_l2 : f96_S) : f96_L := .c (f96_p 3217) 2 :: .c (f96_p 1609) 2 :: .j (fun σ => G_l2 (cut f96_A.loops 2 σ)) :: .blk 2 :: .blk 1 :: .c (f96_p 51) 0 :: .j (fun σ => G_l0 (cut f96_A.loops 0 σ)) :: .blk 0 :: []
theorem f96_f_r4 (k : Nat) (R_l2 R_l0 : f96_S) : f96_a k (f96_Q_r4 k R_l2 R_l0) = f96_a k (f96_F_r4 k R_l0 R_l2) := (ap_cons _ (ap_cons _ (ap_cons _ (ap_cons _ (ap_cons _ (ap_cons _ (ap_cons _ (ap_cons _ rfl))))))))
noncomputable def f96_F_l2 (k : Nat) (G_l0 G_l2 G_r4 : f96_S) : f96_L := .c (f96_p 3216) 2 :: .j G_r4 :: f96_F_r4 k G_l0 G_l2
theorem f96_f_l2 (k : Nat) (R_l0 R_l2 : f96_S) : f96_a k (f96_Q_l2 k R_l0 R_l2) = f96_a k (f96_F_l2 k R_l0 R_l2 (f96_C_r4 k R_l2 R_l0)) := (Eq.trans ap_sq (Eq.trans ap_sq (ap_cons _ (Eq.trans (ap_pass (C := (f96_C_r4 k R_l2 R_l0)) (fun _ => rfl)) (ap_cons _ (f96_f_r4 k R_l2 R_l0))))))
def f96_entry_B (k : Nat) (g_l0 : f96_t_l0) (a : Td4) (a0 : Int) (a1 : Int) (a2 : Unit) : Option (((List (Int × Int)) × Unit) × (Unit)) := (g_l0 a a0 a1 (w64 (a0 + 1)))
def f96_l0_B (k : Nat) (g_l2 : f96_t_l2) (y0 : (List (Int × Int))) (x1 : Int) (x2 : Int) (x8 : Int) : Option (((List (Int × Int)) × Unit) × (Unit)) := (if x8 < x2 then (g_l2 y0 x1 x2 x8 x8) else some ((y0, ()), (())))
def f96_l2_B (k : Nat) (g_r4 : f96_t_r4) (y0 : (List (Int × Int))) (x1 : Int) (x2 : Int) (x8 : Int) (x9 : Int) : Option (((List (Int × Int)) × Unit) × (Unit)) := (if x1 < x9 then (if 0 ≤ x9 then (if x9 < (y0.length : Int) then (if 0 ≤ (w64 (x9 - 1)) then (if (w64 (x9 - 1)) < (y0.length : Int) then ((f48 k ((y0.getD ((x9).toNat) (0, 0)).1, (y0.getD ((x9).toNat) (0, 0)).2) ((y0.getD ((w64 (x9 - 1)).toNat) (0, 0)).1, (y0.getD ((w64 (x9 - 1)).toNat) (0, 0)).2)).bind fun r1 => (g_r4 y0 x1 x2 (decide (r1.1 < 0)) x8 x9)) else none) else none) else none) else none) else (g_r4 y0 x1 x2 false x8 x9))
def f96_r4_B (k : Nat) (g_l0 : f96_t_l0) (g_l2 : f96_t_l2) (y0 : (List (Int × Int))) (x1 : Int) (x2 : Int) (x34 : Bool) (x8 : Int) (x9 : Int) : Option (((List (Int × Int)) × Unit) × (Unit)) := (if x34 = true then (if 0 ≤ (w64 (x9 - 1)) then (if (w64 (x9 - 1)) < (y0.length : Int) then (if 0 ≤ x9 then (if x9 < (y0.length : Int) then (if 0 ≤ x9 then (if x9 < (y0.length : Int) then (if 0 ≤ (w64 (x9 - 1)) then (if (w64 (x9 - 1)) < ((y0.set ((x9).toNat) ((y0.getD ((w64 (x9 - 1)).toNat) (0, 0)).1, (y0.getD ((w64 (x9 - 1)).toNat) (0, 0)).2)).length : Int) then (g_l2 ((y0.set ((x9).toNat) ((y0.getD ((w64 (x9 - 1)).toNat) (0, 0)).1, (y0.getD ((w64 (x9 - 1)).toNat) (0, 0)).2)).set ((w64 (x9 - 1)).toNat) ((y0.getD ((x9).toNat) (0, 0)).1, (y0.getD ((x9).toNat) (0, 0)).2)) x1 x2 x8 (w64 (x9 - 1))) else none) else none) else none) else none) else none) else none) else none) else none) else (g_l0 y0 x1 x2 (w64 (x8 + 1))))
theorem f96_r4_P (k : Nat) (G_l0 G_l2 : f96_S) : f96_o_r4 (fun σ => f96_a k (f96_F_r4 k G_l0 G_l2) .nx σ) = f96_r4_B k (f96_o_l0 G_l0) (f96_o_l2 G_l2) := by kernel_rfl
def f96_r4 (k : Nat) (r_l2 : f96_t_l2) (r_l0 : f96_t_l0) : f96_t_r4 := f96_r4_B k r_l0 r_l2
theorem f96_r4_E (k : Nat) (R_l2 R_l0 : f96_S) : f96_o_r4 (f96_C_r4 k R_l2 R_l0) = f96_r4 k (f96_o_l2 R_l2) (f96_o_l0 R_l0) :=
  Eq.trans (congrArg f96_o_r4 (ap_fn (f96_f_r4 k R_l2 R_l0))) ((f96_r4_P k R_l0 R_l2).trans (by rfl))
theorem f96_l2_P (k : Nat) (G_l0 G_l2 G_r4 : f96_S) : f96_o_l2 (fun σ => f96_a k (f96_F_l2 k G_l0 G_l2 G_r4) .nx σ) = f96_l2_B k (f96_o_r4 G_r4) := by kernel_rfl
def f96_l2 (k : Nat) (r_l0 : f96_t_l0) : Nat → f96_t_l2
  | 0 => fun _ _ _ _ _ => none
  | n + 1 => f96_l2_B k (f96_r4 k (f96_l2 k r_l0 n) r_l0)
theorem f96_l2_E (k : Nat) (R_l0 : f96_S) : ∀ n, f96_o_l2 (f96_C_l2 k R_l0 n) = f96_l2 k (f96_o_l0 R_l0) n
  | 0 => rfl
  | n + 1 =>
    Eq.trans (congrArg f96_o_l2 (Eq.trans (b := fun σ => f96_a k (f96_Q_l2 k R_l0 (f96_C_l2 k R_l0 n)) .nx σ) (by kernel_rfl) (ap_fn (f96_f_l2 k R_l0 (f96_C_l2 k R_l0 n))))) ((f96_l2_P k R_l0 (f96_C_l2 k R_l0 n) (f96_C_r4 k (f96_C_l2 k R_l0 n) R_l0)).trans (by rw [f96_r4_E k (f96_C_l2 k R_l0 n) R_l0, f96_l2_E k R_l0 n] <;> rfl))
theorem f96_l0_P (k : Nat) (G_l0 G_l2 : f96_S) : f96_o_l0 (fun σ => f96_a k (f96_F_l0 k G_l0 G_l2) .nx σ) = f96_l0_B k (f96_o_l2 G_l2) := by kernel_rfl
def f96_l0 (k : Nat) : Nat → f96_t_l0
  | 0 => fun _ _ _ _ => none
  | n + 1 => f96_l0_B k (f96_l2 k (f96_l0 k n) k)
theorem f96_l0_E (k : Nat) : ∀ n, f96_o_l0 (f96_C_l0 k n) = f96_l0 k n
  | 0 => rfl
  | n + 1 =>
    Eq.trans (congrArg f96_o_l0 (Eq.trans (b := fun σ => f96_a k (f96_Q_l0 k (f96_C_l0 k n)) .nx σ) (by kernel_rfl) (ap_fn (f96_f_l0 k (f96_C_l0 k n))))) ((f96_l0_P k (f96_C_l0 k n) (f96_C_l2 k (f96_C_l0 k n) k)).trans (by rw [f96_l2_E k (f96_C_l0 k n) k, f96_l0_E k n] <;> rfl))
theorem f96_entry_P (k : Nat) (G_l0 : f96_S) (x : LOD f96_ls) (xs : DL f96_sig) : f96_a k (.c (f96_p 2) 0 :: .j (fun σ => f96_a k (.j (fun σ => G_l0 (cut f96_A.loops 0 σ)) :: .blk 0 :: []) .nx σ) :: []) .nx (σ0B 53 161 0 f96_ls x f96_sig xs) = f96_entry_B k (f96_o_l0 G_l0) x.1 xs.1 xs.2.1 xs.2.2.1 := by kernel_rfl
def f96 (k : Nat) (a : Td4) (a0 : Int) (a1 : Int) (a2 : Unit) : Option (((List (Int × Int)) × Unit) × (Unit)) := f96_entry_B k (f96_l0 k k) a a0 a1 a2
theorem f96_fe (k : Nat) : f96_a k [.c (f96_p 1) 0] = f96_a k (.c (f96_p 2) 0 :: .j (fun σ => f96_a k (.j (fun σ => (f96_C_l0 k k) (cut f96_A.loops 0 σ)) :: .blk 0 :: []) .nx σ) :: []) := (Eq.trans ap_sq (ap_cons _ (Eq.trans (ap_bl 0) (Eq.trans (ap_j (Eq.trans (ap_lp (C := (f96_C_l0 k)) (fun _ _ => rfl)) (ap_cons _ (ap_cons _ rfl)))) (ap_cons _ rfl)))))
theorem f96_eq (k : Nat) (x : LOD f96_ls) (xs : DL f96_sig) : den T f96_Y (f96_E k) f96_A k f96_c 0 (σ0B 53 161 0 f96_ls x f96_sig xs) (KfinB T true f96_ls f96_rs f96_ts) = f96 k x.1 xs.1 xs.2.1 xs.2.2.1 :=
  Eq.trans (Eq.trans den_sb (ap_at (f96_fe k) _)) ((f96_entry_P k (f96_C_l0 k k) x xs).trans (by rw [f96_l0_E k k] <;> rfl))
noncomputable def f96_con (k : Nat) : BCon := ⟨0, true, f96_ls, f96_sig, f96_rs, fun x xs => f96 k x.1 xs.1 xs.2.1 xs.2.2.1⟩
theorem f96_ok (k : Nat) : BoxOK Try.prog 96 0 true f96_ls f96_sig f96_rs (fun x xs => f96 k x.1 xs.1 xs.2.1 xs.2.2.1) :=
  (box_of_den (k := k) (A := f96_A) (T := T) (Y := f96_Y) (E := f96_E k) (M := 161) (ts := f96_ts) T_ok ⟨f48_ok k, trivial⟩ ⟨f48_ent, trivial⟩ mixed (f := 96) (fn := Try.f96) (c := f96_c) (by kernel_rfl) (by kernel_rfl) (by kernel_rfl) (by decide) (by kernel_rfl) (by decide)).congr fun x xs => (f96_eq k x xs).symm
theorem f96_ent : Ent Try.prog 96 := fun args w => by kernel_rfl
/-! ### slices.order2CmpFunc[terrier/api.Ban]: function 125 -/
noncomputable def f125_c : Code := Try.f125.body.getD .skip
noncomputable abbrev f125_p (n : Nat) : Code := sb f125_c n
abbrev f125_sig : List PT := [(false, Tq3), (false, (.int .i64)), (false, (.int .i64)), (false, (.fn 48))]
abbrev f125_rs : List RT := [.d false (.int .i64), .d false (.int .i64)]
abbrev f125_ts : List RV := [.tmp 10, .tmp 11]
abbrev f125_ls : List LO := [.box [.d (.int .i64)]]
abbrev f125_S := St → Option (LOD f125_ls × RDL f125_rs)
abbrev f125_L := List (Fr (LOD f125_ls × RDL f125_rs))
def f125_Y : Tys := []
noncomputable def f125_E (k : Nat) : Env := [(48, .c (f48_con k))]
def f125_A : Ann := {}
noncomputable abbrev f125_a (k : Nat) (F : f125_L) : Kont (LOD f125_ls × RDL f125_rs) := ap T f125_Y (f125_E k) f125_A k (KfinB T true f125_ls f125_rs f125_ts) F
def f125_entry_B (k : Nat) (a : Int) (a0 : Td4) (a1 : Int) (a2 : Int) (a3 : Unit) : Option (((Int × Unit) × Unit) × (Int × Int × Unit)) := (if 0 ≤ a2 then (if a2 < (a0.length : Int) then (if 0 ≤ a1 then (if a1 < (a0.length : Int) then ((f48 k ((a0.getD (a2).toNat (0, 0)).1, (a0.getD (a2).toNat (0, 0)).2) ((a0.getD (a1).toNat (0, 0)).1, (a0.getD (a1).toNat (0, 0)).2)).bind fun r1 => (if r1.1 < 0 then some (((w64 (a + 1), ()), ()), (a2, a1, ())) else some (((a, ()), ()), (a1, a2, ())))) else none) else none) else none) else none)
theorem f125_entry_P (k : Nat) (x : LOD f125_ls) (xs : DL f125_sig) : f125_a k (.c (f125_p 1) 0 :: []) .nx (σ0B 32 97 3 f125_ls x f125_sig xs) = f125_entry_B k x.1.1 xs.1 xs.2.1 xs.2.2.1 xs.2.2.2.1 := by kernel_rfl
def f125 (k : Nat) (a : Int) (a0 : Td4) (a1 : Int) (a2 : Int) (a3 : Unit) : Option (((Int × Unit) × Unit) × (Int × Int × Unit)) := f125_entry_B k a a0 a1 a2 a3
theorem f125_eq (k : Nat) (x : LOD f125_ls) (xs : DL f125_sig) : den T f125_Y (f125_E k) f125_A k f125_c 0 (σ0B 32 97 3 f125_ls x f125_sig xs) (KfinB T true f125_ls f125_rs f125_ts) = f125 k x.1.1 xs.1 xs.2.1 xs.2.2.1 xs.2.2.2.1 :=
  Eq.trans (Eq.trans den_sb (ap_at (ap_cons _ rfl) _)) ((f125_entry_P k x xs).trans (by rfl))
noncomputable def f125_con (k : Nat) : BCon := ⟨3, true, f125_ls, f125_sig, f125_rs, fun x xs => f125 k x.1.1 xs.1 xs.2.1 xs.2.2.1 xs.2.2.2.1⟩
theorem f125_ok (k : Nat) : BoxOK Try.prog 125 3 true f125_ls f125_sig f125_rs (fun x xs => f125 k x.1.1 xs.1 xs.2.1 xs.2.2.1 xs.2.2.2.1) :=
  (box_of_den (k := k) (A := f125_A) (T := T) (Y := f125_Y) (E := f125_E k) (M := 97) (ts := f125_ts) T_ok ⟨f48_ok k, trivial⟩ ⟨f48_ent, trivial⟩ mixed (f := 125) (fn := Try.f125) (c := f125_c) (by kernel_rfl) (by kernel_rfl) (by kernel_rfl) (by decide) (by kernel_rfl) (by decide)).congr fun x xs => (f125_eq k x xs).symm
theorem f125_ent : Ent Try.prog 125 := fun args w => by kernel_rfl
/-! ### slices.medianCmpFunc[terrier/api.Ban]: function 121 -/
noncomputable def f121_c : Code := Try.f121.body.getD .skip
noncomputable abbrev f121_p (n : Nat) : Code := sb f121_c n
abbrev f121_sig : List PT := [(false, Tq3), (false, (.int .i64)), (false, (.int .i64)), (false, (.int .i64)), (false, (.fn 48))]
abbrev f121_rs : List RT := [.d false (.int .i64)]
abbrev f121_ts : List RV := [.tmp 12]
abbrev f121_ls : List LO := [.box [.d (.int .i64)]]
abbrev f121_S := St → Option (LOD f121_ls × RDL f121_rs)
abbrev f121_L := List (Fr (LOD f121_ls × RDL f121_rs))
def f121_Y : Tys := []
noncomputable def f121_E (k : Nat) : Env := [(125, .b (f125_con k))]
def f121_A : Ann := {}
noncomputable abbrev f121_a (k : Nat) (F : f121_L) : Kont (LOD f121_ls × RDL f121_rs) := ap T f121_Y (f121_E k) f121_A k (KfinB T true f121_ls f121_rs f121_ts) F
def f121_entry_B (k : Nat) (a : Int) (a0 : Td4) (a1 : Int) (a2 : Int) (a3 : Int) (a4 : Unit) : Option (((Int × Unit) × Unit) × (Int × Unit)) := ((f125 k a a0 a1 a2 ()).bind fun r1 => ((f125 k r1.1.1.1 a0 r1.2.2.1 a3 ()).bind fun r2 => ((f125 k r2.1.1.1 a0 r1.2.1 r2.2.1 ()).bind fun r3 => some (((r3.1.1.1, ()), ()), (r3.2.2.1, ())))))
theorem f121_entry_P (k : Nat) (x : LOD f121_ls) (xs : DL f121_sig) : f121_a k (.c (f121_p 1) 0 :: []) .nx (σ0B 41 129 4 f121_ls x f121_sig xs) = f121_entry_B k x.1.1 xs.1 xs.2.1 xs.2.2.1 xs.2.2.2.1 xs.2.2.2.2.1 := by kernel_rfl
def f121 (k : Nat) (a : Int) (a0 : Td4) (a1 : Int) (a2 : Int) (a3 : Int) (a4 : Unit) : Option (((Int × Unit) × Unit) × (Int × Unit)) := f121_entry_B k a a0 a1 a2 a3 a4
theorem f121_eq (k : Nat) (x : LOD f121_ls) (xs : DL f121_sig) : den T f121_Y (f121_E k) f121_A k f121_c 0 (σ0B 41 129 4 f121_ls x f121_sig xs) (KfinB T true f121_ls f121_rs f121_ts) = f121 k x.1.1 xs.1 xs.2.1 xs.2.2.1 xs.2.2.2.1 xs.2.2.2.2.1 :=
  Eq.trans (Eq.trans den_sb (ap_at (ap_cons _ rfl) _)) ((f121_entry_P k x xs).trans (by rfl))
noncomputable def f121_con (k : Nat) : BCon := ⟨4, true, f121_ls, f121_sig, f121_rs, fun x xs => f121 k x.1.1 xs.1 xs.2.1 xs.2.2.1 xs.2.2.2.1 xs.2.2.2.2.1⟩
theorem f121_ok (k : Nat) : BoxOK Try.prog 121 4 true f121_ls f121_sig f121_rs (fun x xs => f121 k x.1.1 xs.1 xs.2.1 xs.2.2.1 xs.2.2.2.1 xs.2.2.2.2.1) :=
  (box_of_den (k := k) (A := f121_A) (T := T) (Y := f121_Y) (E := f121_E k) (M := 129) (ts := f121_ts) T_ok ⟨f125_ok k, trivial⟩ ⟨f125_ent, trivial⟩ mixed (f := 121) (fn := Try.f121) (c := f121_c) (by kernel_rfl) (by kernel_rfl) (by kernel_rfl) (by decide) (by kernel_rfl) (by decide)).congr fun x xs => (f121_eq k x xs).symm
theorem f121_ent : Ent Try.prog 121 := fun args w => by kernel_rfl
/-! ### slices.medianAdjacentCmpFunc[terrier/api.Ban]: function 120 -/
noncomputable def f120_c : Code := Try.f120.body.getD .skip
noncomputable abbrev f120_p (n : Nat) : Code := sb f120_c n
abbrev f120_sig : List PT := [(false, Tq3), (false, (.int .i64)), (false, (.fn 48))]
abbrev f120_rs : List RT := [.d false (.int .i64)]
abbrev f120_ts : List RV := [.tmp 8]
abbrev f120_ls : List LO := [.box [.d (.int .i64)]]
abbrev f120_S := St → Option (LOD f120_ls × RDL f120_rs)
abbrev f120_L := List (Fr (LOD f120_ls × RDL f120_rs))
def f120_Y : Tys := []
noncomputable def f120_E (k : Nat) : Env := [(121, .b (f121_con k))]
def f120_A : Ann := {}
noncomputable abbrev f120_a (k : Nat) (F : f120_L) : Kont (LOD f120_ls × RDL f120_rs) := ap T f120_Y (f120_E k) f120_A k (KfinB T true f120_ls f120_rs f120_ts) F
def f120_entry_B (k : Nat) (a : Int) (a0 : Td4) (a1 : Int) (a2 : Unit) : Option (((Int × Unit) × Unit) × (Int × Unit)) := ((f121 k a a0 (w64 (a1 - 1)) a1 (w64 (a1 + 1)) ()).bind fun r1 => some (((r1.1.1.1, ()), ()), (r1.2.1, ())))
theorem f120_entry_P (k : Nat) (x : LOD f120_ls) (xs : DL f120_sig) : f120_a k (.c (f120_p 1) 0 :: []) .nx (σ0B 18 65 2 f120_ls x f120_sig xs) = f120_entry_B k x.1.1 xs.1 xs.2.1 xs.2.2.1 := by kernel_rfl
def f120 (k : Nat) (a : Int) (a0 : Td4) (a1 : Int) (a2 : Unit) : Option (((Int × Unit) × Unit) × (Int × Unit)) := f120_entry_B k a a0 a1 a2
theorem f120_eq (k : Nat) (x : LOD f120_ls) (xs : DL f120_sig) : den T f120_Y (f120_E k) f120_A k f120_c 0 (σ0B 18 65 2 f120_ls x f120_sig xs) (KfinB T true f120_ls f120_rs f120_ts) = f120 k x.1.1 xs.1 xs.2.1 xs.2.2.1 :=
  Eq.trans (Eq.trans den_sb (ap_at (ap_cons _ rfl) _)) ((f120_entry_P k x xs).trans (by rfl))
noncomputable def f120_con (k : Nat) : BCon := ⟨2, true, f120_ls, f120_sig, f120_rs, fun x xs => f120 k x.1.1 xs.1 xs.2.1 xs.2.2.1⟩
theorem f120_ok (k : Nat) : BoxOK Try.prog 120 2 true f120_ls f120_sig f120_rs (fun x xs => f120 k x.1.1 xs.1 xs.2.1 xs.2.2.1) :=
  (box_of_den (k := k) (A := f120_A) (T := T) (Y := f120_Y) (E := f120_E k) (M := 65) (ts := f120_ts) T_ok ⟨f121_ok k, trivial⟩ ⟨f121_ent, trivial⟩ mixed (f := 120) (fn := Try.f120) (c := f120_c) (by kernel_rfl) (by kernel_rfl) (by kernel_rfl) (by decide) (by kernel_rfl) (by decide)).congr fun x xs => (f120_eq k x xs).symm
theorem f120_ent : Ent Try.prog 120 := fun args w => by kernel_rfl
/-! ### slices.choosePivotCmpFunc[terrier/api.Ban]: function 99 -/
noncomputable def f99_c : Code := Try.f99.body.getD .skip
noncomputable abbrev f99_p (n : Nat) : Code := sb f99_c n
abbrev f99_sig : List PT := [(false, Tq3), (false, (.int .i64)), (false, (.int .i64)), (false, (.fn 48))]
abbrev f99_rs : List RT := [.d false (.int .i64), .d false (.int .i64)]
abbrev f99_ts : List RV := [.tmp 8, .tmp 9]
abbrev f99_S := St → Option (RDL f99_rs)
abbrev f99_L := List (Fr (RDL f99_rs))
def f99_Y : Tys := []
noncomputable def f99_E (k : Nat) : Env := [(120, .b (f120_con k)), (121, .b (f121_con k))]
def f99_A : Ann := { conds := [(8, { slots := [(0, .val false Tq2), (3, .id), (11, .id), (12, .id), (13, .id), (14, .id)], keys := [(11, [])] }), (7, { slots := [(11, .id), (13, .id)], keys := [(11, [])] })] }
noncomputable abbrev f99_a (k : Nat) (F : f99_L) : Kont (RDL f99_rs) := ap T f99_Y (f99_E k) f99_A k (Kfin T f99_rs f99_ts) F
def f99_s_c8 (y11_0 : Int) (x0 : (List (Int × Int))) (x12 : Int) (x13 : Int) (x14 : Int) : St := mkS 63 192 [(0, aV Tq2 x0), (3, .cp (.one (.fn 48 []))), (11, aP 11), (12, aI x12), (13, aI x13), (14, aI x14)] [(11, .box [cI y11_0])]
abbrev f99_t_c8 := Int → (List (Int × Int)) → Int → Int → Int → Option (Int × Int × Unit)
abbrev f99_o_c8 (R : f99_S) : f99_t_c8 := (fun y11_0 x0 x12 x13 x14 => R (f99_s_c8 y11_0 x0 x12 x13 x14))
noncomputable def f99_Q_c8 (k : Nat) : f99_L := [.c (f99_p 2037) 0, .cond 7, .c (f99_p 255) 0]
noncomputable def f99_C_c8 (k : Nat) : f99_S := fun σ => f99_a k (f99_Q_c8 k) .nx σ
def f99_s_c7 (y11_0 : Int) (x13 : Int) : St := mkS 63 192 [(11, aP 11), (13, aI x13)] [(11, .box [cI y11_0])]
abbrev f99_t_c7 := Int → Int → Option (Int × Int × Unit)
abbrev f99_o_c7 (R : f99_S) : f99_t_c7 := (fun y11_0 x13 => R (f99_s_c7 y11_0 x13))
noncomputable def f99_Q_c7 (k : Nat) : f99_L := [.c (f99_p 255) 0]
noncomputable def f99_C_c7 (k : Nat) : f99_S := fun σ => f99_a k (f99_Q_c7 k) .nx σ
noncomputable def f99_F_c7 (k : Nat) : f99_L := .c (f99_p 255) 0 :: []
theorem f99_f_c7 (k : Nat) : f99_a k (f99_Q_c7 k) = f99_a k (f99_F_c7 k) := (ap_cons _ rfl)
noncomputable def f99_F_c8 (k : Nat) (G_c7 : f99_S) : f99_L := .c (f99_p 2037) 0 :: .j (fun σ => G_c7 (cut f99_A.conds 7 σ)) :: f99_F_c7 k
theorem f99_f_c8 (k : Nat) : f99_a k (f99_Q_c8 k) = f99_a k (f99_F_c8 k (f99_C_c7 k)) := (ap_cons _ (Eq.trans (ap_condj (C := (f99_C_c7 k)) (fun _ => rfl)) (ap_cons _ (f99_f_c7 k))))
def f99_entry_B (k : Nat) (g_c8 : f99_t_c8) (g_c7 : f99_t_c7) (a0 : Td4) (a1 : Int) (a2 : Int) (a3 : Unit) : Option (Int × Int × Unit) := (if 8 ≤ (w64 (a2 - a1)) then (if 50 ≤ (w64 (a2 - a1)) then ((f120 k 0 a0 (w64 (a1 + (w64 ((w64 ((w64 (a2 - a1)).tdiv 4)) * 1)))) ()).bind fun r1 => ((f120 k r1.1.1.1 a0 (w64 (a1 + (w64 ((w64 ((w64 (a2 - a1)).tdiv 4)) * 2)))) ()).bind fun r2 => ((f120 k r2.1.1.1 a0 (w64 (a1 + (w64 ((w64 ((w64 (a2 - a1)).tdiv 4)) * 3)))) ()).bind fun r3 => (g_c8 r3.1.1.1 a0 r1.2.1 r2.2.1 r3.2.1)))) else (g_c8 0 a0 (w64 (a1 + (w64 ((w64 ((w64 (a2 - a1)).tdiv 4)) * 1)))) (w64 (a1 + (w64 ((w64 ((w64 (a2 - a1)).tdiv 4)) * 2)))) (w64 (a1 + (w64 ((w64 ((w64 (a2 - a1)).tdiv 4)) * 3)))))) else (g_c7 0 (w64 (a1 + (w64 ((w64 ((w64 (a2 - a1)).tdiv 4)) * 2))))))
def f99_c8_B (k : Nat) (g_c7 : f99_t_c7) (y11_0 : Int) (x0 : (List (Int × Int))) (x12 : Int) (x13 : Int) (x14 : Int) : Option (Int × Int × Unit) := ((f121 k y11_0 x0 x12 x13 x14 ()).bind fun r1 => (g_c7 r1.1.1.1 r1.2.1))
def f99_c7_B (k : Nat) (y11_0 : Int) (x13 : Int) : Option (Int × Int × Unit) := (if y11_0 = 0 then some (x13, 1, ()) else (if y11_0 = 12 then some (x13, 2, ()) else some (x13, 0, ())))
theorem f99_c7_P (k : Nat) : f99_o_c7 (fun σ => f99_a k (f99_F_c7 k) .nx σ) = f99_c7_B k := by kernel_rfl
def f99_c7 (k : Nat) : f99_t_c7 := f99_c7_B k
theorem f99_c7_E (k : Nat) : f99_o_c7 (f99_C_c7 k) = f99_c7 k :=
  Eq.trans (congrArg f99_o_c7 (ap_fn (f99_f_c7 k))) ((f99_c7_P k).trans (by rfl))
theorem f99_c8_P (k : Nat) (G_c7 : f99_S) : f99_o_c8 (fun σ => f99_a k (f99_F_c8 k G_c7) .nx σ) = f99_c8_B k (f99_o_c7 G_c7) := by kernel_rfl
def f99_c8 (k : Nat) : f99_t_c8 := f99_c8_B k (f99_c7 k)
theorem f99_c8_E (k : Nat) : f99_o_c8 (f99_C_c8 k) = f99_c8 k :=
  Eq.trans (congrArg f99_o_c8 (ap_fn (f99_f_c8 k))) ((f99_c8_P k (f99_C_c7 k)).trans (by rw [f99_c7_E k] <;> rfl))
theorem f99_entry_P (k : Nat) (G_c8 G_c7 : f99_S) (xs : DL f99_sig) : f99_a k (.c (f99_p 2) 0 :: .c (f99_p 6) 0 :: .c (f99_p 14) 0 :: .c (f99_p 30) 0 :: .c (f99_p 62) 0 :: .c (f99_p 126) 0 :: .c (f99_p 508) 0 :: .i (.tmp 34) (fun σ => f99_a k (.c (f99_p 4072) 0 :: .c (f99_p 4073) 0 :: .j G_c8 :: f99_F_c8 k G_c7) .nx σ) (fun σ => f99_a k (.c (f99_p 1019) 0 :: .j (fun σ => G_c7 (cut f99_A.conds 7 σ)) :: f99_F_c7 k) .nx σ) :: f99_F_c7 k) .nx (σ0 63 192 f99_sig xs) = f99_entry_B k (f99_o_c8 G_c8) (f99_o_c7 G_c7) xs.1 xs.2.1 xs.2.2.1 xs.2.2.2.1 := by kernel_rfl
def f99 (k : Nat) (a0 : Td4) (a1 : Int) (a2 : Int) (a3 : Unit) : Option (Int × Int × Unit) := f99_entry_B k (f99_c8 k) (f99_c7 k) a0 a1 a2 a3
theorem f99_fe (k : Nat) : f99_a k [.c (f99_p 1) 0] = f99_a k (.c (f99_p 2) 0 :: .c (f99_p 6) 0 :: .c (f99_p 14) 0 :: .c (f99_p 30) 0 :: .c (f99_p 62) 0 :: .c (f99_p 126) 0 :: .c (f99_p 508) 0 :: .i (.tmp 34) (fun σ => f99_a k (.c (f99_p 4072) 0 :: .c (f99_p 4073) 0 :: .j (f99_C_c8 k) :: f99_F_c8 k (f99_C_c7 k)) .nx σ) (fun σ => f99_a k (.c (f99_p 1019) 0 :: .j (fun σ => (f99_C_c7 k) (cut f99_A.conds 7 σ)) :: f99_F_c7 k) .nx σ) :: f99_F_c7 k) := (Eq.trans ap_sq (ap_cons _ (Eq.trans ap_sq (ap_cons _ (Eq.trans ap_sq (ap_cons _ (Eq.trans ap_sq (ap_cons _ (Eq.trans ap_sq (ap_cons _ (Eq.trans ap_sq (ap_cons _ (Eq.trans ap_sq (Eq.trans ap_sq (ap_cons _ (Eq.trans (ap_cn (.tmp 34) 7) (Eq.trans (ap_i (Eq.trans ap_sq (Eq.trans ap_sq (ap_cons _ (ap_cons _ (Eq.trans (ap_pass (C := (f99_C_c8 k)) (fun _ => rfl)) (ap_cons _ (f99_f_c8 k))))))) (ap_cons _ (Eq.trans (ap_condj (C := (f99_C_c7 k)) (fun _ => rfl)) (ap_cons _ (f99_f_c7 k))))) (ap_cons _ (f99_f_c7 k)))))))))))))))))))
theorem f99_eq (k : Nat) (xs : DL f99_sig) : den T f99_Y (f99_E k) f99_A k f99_c 0 (σ0 63 192 f99_sig xs) (Kfin T f99_rs f99_ts) = f99 k xs.1 xs.2.1 xs.2.2.1 xs.2.2.2.1 :=
  Eq.trans (Eq.trans den_sb (ap_at (f99_fe k) _)) ((f99_entry_P k (f99_C_c8 k) (f99_C_c7 k) xs).trans (by rw [f99_c8_E k, f99_c7_E k] <;> rfl))
noncomputable def f99_con (k : Nat) : Con := ⟨f99_sig, f99_rs, fun xs => f99 k xs.1 xs.2.1 xs.2.2.1 xs.2.2.2.1⟩
theorem f99_ok (k : Nat) : PureOK Try.prog 99 f99_sig f99_rs (fun xs => f99 k xs.1 xs.2.1 xs.2.2.1 xs.2.2.2.1) :=
  (pure_of_den (k := k) (A := f99_A) (T := T) (Y := f99_Y) (E := f99_E k) (M := 192) (ts := f99_ts) T_ok ⟨f120_ok k, f121_ok k, trivial⟩ ⟨f120_ent, f121_ent, trivial⟩ mixed (f := 99) (fn := Try.f99) (c := f99_c) (by kernel_rfl) (by kernel_rfl) (by kernel_rfl) (by decide) (by kernel_rfl)).congr fun xs => (f99_eq k xs).symm
theorem f99_ent : Ent Try.prog 99 := fun args w => by kernel_rfl
/-! ### slices.pdqsortCmpFunc[terrier/api.Ban]: function 71 -/
noncomputable def f71_c : Code := Try.f71.body.getD .skip
noncomputable abbrev f71_p (n : Nat) : Code := sb f71_c n
abbrev f71_sig : List PT := [(false, (.int .i64)), (false, (.int .i64)), (false, (.int .i64)), (false, (.fn 48))]
abbrev f71_rs : List RT := []
abbrev f71_ts : List RV := []
abbrev f71_ls : List LO := [.row Tq2]
abbrev f71_S := St → Option (LOD f71_ls × RDL f71_rs)
abbrev f71_L := List (Fr (LOD f71_ls × RDL f71_rs))
def f71_Y : Tys := []
noncomputable def f71_E (k : Nat) : Env := [(48, .c (f48_con k)), (96, .b (f96_con k)), (99, .c (f99_con k))]
def f71_A : Ann := { loops := [(0, { slots := [(0, .id), (1, .id), (2, .id), (3, .id), (4, .id), (10, .id), (11, .id)], keys := [(0, [])] })], conds := [(8, { slots := [(0, .id), (1, .id), (2, .id), (3, .id), (4, .id), (10, .id), (11, .id), (12, .id)], keys := [(0, [])] }), (12, { slots := [(0, .id), (1, .id), (2, .id), (3, .id), (4, .id), (10, .id), (11, .id), (12, .id), (13, .id), (14, .id)], keys := [(0, [])] }), (16, { slots := [(0, .id), (1, .id), (2, .id), (3, .id), (4, .id), (10, .id), (11, .id), (12, .id), (13, .id)], keys := [(0, [])] })], regs := [(15, { slots := [(0, .id), (1, .id), (2, .id), (3, .id), (4, .id), (10, .id), (11, .id), (12, .id), (13, .id), (75, .bool)], keys := [(0, [])] }), (17, { slots := [(0, .id), (1, .id), (2, .id), (3, .id), (4, .id), (10, .id), (11, .id), (12, .id), (13, .id), (97, .bool)], keys := [(0, [])] })] }
noncomputable abbrev f71_a (k : Nat) (F : f71_L) : Kont (LOD f71_ls × RDL f71_rs) := ap T f71_Y (f71_E k) f71_A k (KfinB T true f71_ls f71_rs f71_ts) F
def f71_s_l0 (y0 : (List (Int × Int))) (x1 : Int) (x2 : Int) (x3 : Int) : St := mkS 148 449 [(0, aO 0), (1, aI x1), (2, aI x2), (3, aI x3), (4, .cp (.one (.fn 48 []))), (10, .cp (.one (.lit true))), (11, .cp (.one (.lit true)))] [(0, .vec Tq2 y0)]
abbrev f71_t_l0 := (List (Int × Int)) → Int → Int → Int → Option (((List (Int × Int)) × Unit) × (Unit))
abbrev f71_o_l0 (R : f71_S) : f71_t_l0 := (fun y0 x1 x2 x3 => R (f71_s_l0 y0 x1 x2 x3))
noncomputable def f71_Q_l0 (k : Nat) (R_l0 : f71_S) : f71_L := [.c (f71_p 28) 0, .j (fun σ => R_l0 (cut f71_A.loops 0 σ)), .blk 0]
noncomputable def f71_C_l0 (k : Nat) (n : Nat) (σ : St) : Option (LOD f71_ls × RDL f71_rs) := loopK (fun σ K => den T f71_Y (f71_E k) f71_A k (f71_p 28) 0 σ K) (cut f71_A.loops 0) (f71_a k [.blk 0]) n σ
def f71_s_c8 (y0 : (List (Int × Int))) (x1 : Int) (x12 : Int) (x2 : Int) (x3 : Int) : St := mkS 148 449 [(0, aO 0), (1, aI x1), (2, aI x2), (3, aI x3), (4, .cp (.one (.fn 48 []))), (10, .cp (.one (.lit true))), (11, .cp (.one (.lit true))), (12, aI x12)] [(0, .vec Tq2 y0)]
abbrev f71_t_c8 := (List (Int × Int)) → Int → Int → Int → Int → Option (((List (Int × Int)) × Unit) × (Unit))
abbrev f71_o_c8 (R : f71_S) : f71_t_c8 := (fun y0 x1 x12 x2 x3 => R (f71_s_c8 y0 x1 x12 x2 x3))
noncomputable def f71_Q_c8 (k : Nat) (R_l0 : f71_S) : f71_L := [.c (f71_p 911) 1, .blk 1, .j (fun σ => R_l0 (cut f71_A.loops 0 σ)), .blk 0]
noncomputable def f71_C_c8 (k : Nat) (R_l0 : f71_S) : f71_S := fun σ => f71_a k (f71_Q_c8 k R_l0) .nx σ
def f71_s_c12 (y0 : (List (Int × Int))) (x1 : Int) (x12 : Int) (x13 : Int) (x14 : Int) (x2 : Int) (x3 : Int) : St := mkS 148 449 [(0, aO 0), (1, aI x1), (2, aI x2), (3, aI x3), (4, .cp (.one (.fn 48 []))), (10, .cp (.one (.lit true))), (11, .cp (.one (.lit true))), (12, aI x12), (13, aI x13), (14, aI x14)] [(0, .vec Tq2 y0)]
abbrev f71_t_c12 := (List (Int × Int)) → Int → Int → Int → Int → Int → Int → Option (((List (Int × Int)) × Unit) × (Unit))
abbrev f71_o_c12 (R : f71_S) : f71_t_c12 := (fun y0 x1 x12 x13 x14 x2 x3 => R (f71_s_c12 y0 x1 x12 x13 x14 x2 x3))
noncomputable def f71_Q_c12 (k : Nat) (R_l0 : f71_S) : f71_L := [.c (f71_p 3647) 1, .blk 1, .j (fun σ => R_l0 (cut f71_A.loops 0 σ)), .blk 0]
noncomputable def f71_C_c12 (k : Nat) (R_l0 : f71_S) : f71_S := fun σ => f71_a k (f71_Q_c12 k R_l0) .nx σ
def f71_s_r15 (y0 : (List (Int × Int))) (x1 : Int) (x12 : Int) (x13 : Int) (x2 : Int) (x3 : Int) (x75 : Bool) : St := mkS 148 449 [(0, aO 0), (1, aI x1), (2, aI x2), (3, aI x3), (4, .cp (.one (.fn 48 []))), (10, .cp (.one (.lit true))), (11, .cp (.one (.lit true))), (12, aI x12), (13, aI x13), (75, aB x75)] [(0, .vec Tq2 y0)]
abbrev f71_t_r15 := (List (Int × Int)) → Int → Int → Int → Int → Int → Bool → Option (((List (Int × Int)) × Unit) × (Unit))
abbrev f71_o_r15 (R : f71_S) : f71_t_r15 := (fun y0 x1 x12 x13 x2 x3 x75 => R (f71_s_r15 y0 x1 x12 x13 x2 x3 x75))
noncomputable def f71_Q_r15 (k : Nat) (R_l0 : f71_S) : f71_L := [.c (f71_p 14589) 1, .c (f71_p 7295) 1, .blk 1, .j (fun σ => R_l0 (cut f71_A.loops 0 σ)), .blk 0]
noncomputable def f71_C_r15 (k : Nat) (R_l0 : f71_S) : f71_S := fun σ => f71_a k (f71_Q_r15 k R_l0) .nx σ
def f71_s_c16 (y0 : (List (Int × Int))) (x1 : Int) (x12 : Int) (x13 : Int) (x2 : Int) (x3 : Int) : St := mkS 148 449 [(0, aO 0), (1, aI x1), (2, aI x2), (3, aI x3), (4, .cp (.one (.fn 48 []))), (10, .cp (.one (.lit true))), (11, .cp (.one (.lit true))), (12, aI x12), (13, aI x13)] [(0, .vec Tq2 y0)]
abbrev f71_t_c16 := (List (Int × Int)) → Int → Int → Int → Int → Int → Option (((List (Int × Int)) × Unit) × (Unit))
abbrev f71_o_c16 (R : f71_S) : f71_t_c16 := (fun y0 x1 x12 x13 x2 x3 => R (f71_s_c16 y0 x1 x12 x13 x2 x3))
noncomputable def f71_Q_c16 (k : Nat) (R_l0 : f71_S) : f71_L := [.c (f71_p 7295) 1, .blk 1, .j (fun σ => R_l0 (cut f71_A.loops 0 σ)), .blk 0]
noncomputable def f71_C_c16 (k : Nat) (R_l0 : f71_S) : f71_S := fun σ => f71_a k (f71_Q_c16 k R_l0) .nx σ
def f71_s_r17 (y0 : (List (Int × Int))) (x1 : Int) (x12 : Int) (x13 : Int) (x2 : Int) (x3 : Int) (x97 : Bool) : St := mkS 148 449 [(0, aO 0), (1, aI x1), (2, aI x2), (3, aI x3), (4, .cp (.one (.fn 48 []))), (10, .cp (.one (.lit true))), (11, .cp (.one (.lit true))), (12, aI x12), (13, aI x13), (97, aB x97)] [(0, .vec Tq2 y0)]
abbrev f71_t_r17 := (List (Int × Int)) → Int → Int → Int → Int → Int → Bool → Option (((List (Int × Int)) × Unit) × (Unit))
abbrev f71_o_r17 (R : f71_S) : f71_t_r17 := (fun y0 x1 x12 x13 x2 x3 x97 => R (f71_s_r17 y0 x1 x12 x13 x2 x3 x97))
noncomputable def f71_Q_r17 (k : Nat) (R_l0 : f71_S) : f71_L := [.c (f71_p 29181) 1, .c (f71_p 14591) 1, .blk 1, .j (fun σ => R_l0 (cut f71_A.loops 0 σ)), .blk 0]
noncomputable def f71_C_r17 (k : Nat) (R_l0 : f71_S) : f71_S := fun σ => f71_a k (f71_Q_r17 k R_l0) .nx σ
noncomputable def f71_F_r17 (k : Nat) (G_l0 : f71_S) : f71_L := .c (f71_p 29181) 1 :: .c (f71_p 29182) 1 :: .c (f71_p 58366) 1 :: .c (f71_p 116734) 1 :: .c (f71_p 233470) 1 :: .c (f71_p 466942) 1 :: .c (f71_p 466943) 1 :: .blk 1 :: .j (fun σ => G_l0 (cut f71_A.loops 0 σ)) :: .blk 0 :: []
theorem f71_f_r17 (k : Nat) (R_l0 : f71_S) : f71_a k (f71_Q_r17 k R_l0) = f71_a k (f71_F_r17 k R_l0) := (ap_cons _ (Eq.trans ap_sq (ap_cons _ (Eq.trans ap_sq (ap_cons _ (Eq.trans ap_sq (ap_cons _ (Eq.trans ap_sq (ap_cons _ (Eq.trans ap_sq (ap_cons _ (ap_cons _ (ap_cons _ (ap_cons _ (ap_cons _ rfl)))))))))))))))
noncomputable def f71_F_c16 (k : Nat) (G_l0 G_r17 : f71_S) : f71_L := .c (f71_p 29180) 1 :: .j G_r17 :: f71_F_r17 k G_l0
theorem f71_f_c16 (k : Nat) (R_l0 : f71_S) : f71_a k (f71_Q_c16 k R_l0) = f71_a k (f71_F_c16 k R_l0 (f71_C_r17 k R_l0)) := (Eq.trans ap_sq (Eq.trans ap_sq (ap_cons _ (Eq.trans (ap_pass (C := (f71_C_r17 k R_l0)) (fun _ => rfl)) (ap_cons _ (f71_f_r17 k R_l0))))))
noncomputable def f71_F_r15 (k : Nat) (G_l0 G_c16 G_r17 : f71_S) : f71_L := .c (f71_p 14589) 1 :: .j G_c16 :: f71_F_c16 k G_l0 G_r17
theorem f71_f_r15 (k : Nat) (R_l0 : f71_S) : f71_a k (f71_Q_r15 k R_l0) = f71_a k (f71_F_r15 k R_l0 (f71_C_c16 k R_l0) (f71_C_r17 k R_l0)) := (ap_cons _ (Eq.trans (ap_pass (C := (f71_C_c16 k R_l0)) (fun _ => rfl)) (ap_cons _ (f71_f_c16 k R_l0))))
noncomputable def f71_F_c12 (k : Nat) (G_l0 G_r15 G_c16 G_r17 : f71_S) : f71_L := .c (f71_p 14588) 1 :: .j G_r15 :: f71_F_r15 k G_l0 G_c16 G_r17
theorem f71_f_c12 (k : Nat) (R_l0 : f71_S) : f71_a k (f71_Q_c12 k R_l0) = f71_a k (f71_F_c12 k R_l0 (f71_C_r15 k R_l0) (f71_C_c16 k R_l0) (f71_C_r17 k R_l0)) := (Eq.trans ap_sq (Eq.trans ap_sq (ap_cons _ (Eq.trans (ap_pass (C := (f71_C_r15 k R_l0)) (fun _ => rfl)) (ap_cons _ (f71_f_r15 k R_l0))))))
noncomputable def f71_F_c8 (k : Nat) (G_l0 G_c12 G_r15 G_c16 G_r17 : f71_S) : f71_L := .c (f71_p 1822) 1 :: .c (f71_p 7292) 1 :: .c (f71_p 7293) 1 :: .j G_c12 :: f71_F_c12 k G_l0 G_r15 G_c16 G_r17
theorem f71_f_c8 (k : Nat) (R_l0 : f71_S) : f71_a k (f71_Q_c8 k R_l0) = f71_a k (f71_F_c8 k R_l0 (f71_C_c12 k R_l0) (f71_C_r15 k R_l0) (f71_C_c16 k R_l0) (f71_C_r17 k R_l0)) := (Eq.trans ap_sq (ap_cons _ (Eq.trans ap_sq (Eq.trans ap_sq (ap_cons _ (ap_cons _ (Eq.trans (ap_pass (C := (f71_C_c12 k R_l0)) (fun _ => rfl)) (ap_cons _ (f71_f_c12 k R_l0)))))))))
noncomputable def f71_F_l0 (k : Nat) (G_l0 G_c8 G_c12 G_r15 G_c16 G_r17 : f71_S) : f71_L := .j (fun σ => f71_a k (.c (f71_p 112) 1 :: .c (f71_p 226) 1 :: .c (f71_p 454) 1 :: .c (f71_p 1820) 1 :: .c (f71_p 1821) 1 :: .j G_c8 :: f71_F_c8 k G_l0 G_c12 G_r15 G_c16 G_r17) .nx σ) :: .j (fun σ => G_l0 (cut f71_A.loops 0 σ)) :: .blk 0 :: []
theorem f71_f_l0 (k : Nat) (R_l0 : f71_S) : f71_a k (f71_Q_l0 k R_l0) = f71_a k (f71_F_l0 k R_l0 (f71_C_c8 k R_l0) (f71_C_c12 k R_l0) (f71_C_r15 k R_l0) (f71_C_c16 k R_l0) (f71_C_r17 k R_l0)) := (Eq.trans (ap_bl 1) (Eq.trans (ap_j (Eq.trans ap_sq (ap_cons _ (Eq.trans ap_sq (ap_cons _ (Eq.trans ap_sq (ap_cons _ (Eq.trans ap_sq (Eq.trans ap_sq (ap_cons _ (ap_cons _ (Eq.trans (ap_pass (C := (f71_C_c8 k R_l0)) (fun _ => rfl)) (ap_cons _ (f71_f_c8 k R_l0)))))))))))))) (ap_cons _ (ap_cons _ (ap_cons _ rfl)))))
def f71_entry_B (k : Nat) (g_l0 : f71_t_l0) (a : Td4) (a0 : Int) (a1 : Int) (a2 : Int) (a3 : Unit) : Option (((List (Int × Int)) × Unit) × (Unit)) := (g_l0 a a0 a1 a2)
def f71_l0_B (k : Nat) (g_c8 : f71_t_c8) (y0 : (List (Int × Int))) (x1 : Int) (x2 : Int) (x3 : Int) : Option (((List (Int × Int)) × Unit) × (Unit)) := (if (w64 (x2 - x1)) ≤ 12 then ((f96 k y0 x1 x2 ()).bind fun r1 => some ((r1.1.1, ()), (()))) else (if x3 = 0 then none else (g_c8 y0 x1 (w64 (x2 - x1)) x2 x3)))
def f71_c8_B (k : Nat) (g_c12 : f71_t_c12) (y0 : (List (Int × Int))) (x1 : Int) (x12 : Int) (x2 : Int) (x3 : Int) : Option (((List (Int × Int)) × Unit) × (Unit)) := ((f99 k y0 x1 x2 ()).bind fun r1 => (if r1.2.1 = 2 then none else (g_c12 y0 x1 x12 r1.1 r1.2.1 x2 x3)))
def f71_c12_B (k : Nat) (g_r15 : f71_t_r15) (y0 : (List (Int × Int))) (x1 : Int) (x12 : Int) (x13 : Int) (x14 : Int) (x2 : Int) (x3 : Int) : Option (((List (Int × Int)) × Unit) × (Unit)) := (g_r15 y0 x1 x12 x13 x2 x3 (decide (x14 = 1)))
def f71_r15_B (k : Nat) (g_c16 : f71_t_c16) (y0 : (List (Int × Int))) (x1 : Int) (x12 : Int) (x13 : Int) (x2 : Int) (x3 : Int) (x75 : Bool) : Option (((List (Int × Int)) × Unit) × (Unit)) := (if x75 = true then none else (g_c16 y0 x1 x12 x13 x2 x3))
def f71_c16_B (k : Nat) (g_r17 : f71_t_r17) (y0 : (List (Int × Int))) (x1 : Int) (x12 : Int) (x13 : Int) (x2 : Int) (x3 : Int) : Option (((List (Int × Int)) × Unit) × (Unit)) := (if 0 < x1 then (if 0 ≤ (w64 (x1 - 1)) then (if (w64 (x1 - 1)) < (y0.length : Int) then (if 0 ≤ x13 then (if x13 < (y0.length : Int) then ((f48 k ((y0.getD ((w64 (x1 - 1)).toNat) (0, 0)).1, (y0.getD ((w64 (x1 - 1)).toNat) (0, 0)).2) ((y0.getD ((x13).toNat) (0, 0)).1, (y0.getD ((x13).toNat) (0, 0)).2)).bind fun r1 => (g_r17 y0 x1 x12 x13 x2 x3 (decide (¬ (r1.1 < 0))))) else none) else none) else none) else none) else (g_r17 y0 x1 x12 x13 x2 x3 false))
def f71_r17_B (k : Nat) (y0 : (List (Int × Int))) (x1 : Int) (x12 : Int) (x13 : Int) (x2 : Int) (x3 : Int) (x97 : Bool) : Option (((List (Int × Int)) × Unit) × (Unit)) := (if x97 = true then none else none)
theorem f71_r17_P (k : Nat) (G_l0 : f71_S) : f71_o_r17 (fun σ => f71_a k (f71_F_r17 k G_l0) .nx σ) = f71_r17_B k := by kernel_rfl
def f71_r17 (k : Nat) (r_l0 : f71_t_l0) : f71_t_r17 := f71_r17_B k
theorem f71_r17_E (k : Nat) (R_l0 : f71_S) : f71_o_r17 (f71_C_r17 k R_l0) = f71_r17 k (f71_o_l0 R_l0) :=
  Eq.trans (congrArg f71_o_r17 (ap_fn (f71_f_r17 k R_l0))) ((f71_r17_P k R_l0).trans (by rfl))
theorem f71_c16_P (k : Nat) (G_l0 G_r17 : f71_S) : f71_o_c16 (fun σ => f71_a k (f71_F_c16 k G_l0 G_r17) .nx σ) = f71_c16_B k (f71_o_r17 G_r17) := by kernel_rfl
def f71_c16 (k : Nat) (r_l0 : f71_t_l0) : f71_t_c16 := f71_c16_B k (f71_r17 k r_l0)
theorem f71_c16_E (k : Nat) (R_l0 : f71_S) : f71_o_c16 (f71_C_c16 k R_l0) = f71_c16 k (f71_o_l0 R_l0) :=
  Eq.trans (congrArg f71_o_c16 (ap_fn (f71_f_c16 k R_l0))) ((f71_c16_P k R_l0 (f71_C_r17 k R_l0)).trans (by rw [f71_r17_E k R_l0] <;> rfl))
theorem f71_r15_P (k : Nat) (G_l0 G_c16 G_r17 : f71_S) : f71_o_r15 (fun σ => f71_a k (f71_F_r15 k G_l0 G_c16 G_r17) .nx σ) = f71_r15_B k (f71_o_c16 G_c16) := by kernel_rfl
def f71_r15 (k : Nat) (r_l0 : f71_t_l0) : f71_t_r15 := f71_r15_B k (f71_c16 k r_l0)
theorem f71_r15_E (k : Nat) (R_l0 : f71_S) : f71_o_r15 (f71_C_r15 k R_l0) = f71_r15 k (f71_o_l0 R_l0) :=
  Eq.trans (congrArg f71_o_r15 (ap_fn (f71_f_r15 k R_l0))) ((f71_r15_P k R_l0 (f71_C_c16 k R_l0) (f71_C_r17 k R_l0)).trans (by rw [f71_c16_E k R_l0] <;> rfl))
theorem f71_c12_P (k : Nat) (G_l0 G_r15 G_c16 G_r17 : f71_S) : f71_o_c12 (fun σ => f71_a k (f71_F_c12 k G_l0 G_r15 G_c16 G_r17) .nx σ) = f71_c12_B k (f71_o_r15 G_r15) := by kernel_rfl
def f71_c12 (k : Nat) (r_l0 : f71_t_l0) : f71_t_c12 := f71_c12_B k (f71_r15 k r_l0)
theorem f71_c12_E (k : Nat) (R_l0 : f71_S) : f71_o_c12 (f71_C_c12 k R_l0) = f71_c12 k (f71_o_l0 R_l0) :=
  Eq.trans (congrArg f71_o_c12 (ap_fn (f71_f_c12 k R_l0))) ((f71_c12_P k R_l0 (f71_C_r15 k R_l0) (f71_C_c16 k R_l0) (f71_C_r17 k R_l0)).trans (by rw [f71_r15_E k R_l0] <;> rfl))
theorem f71_c8_P (k : Nat) (G_l0 G_c12 G_r15 G_c16 G_r17 : f71_S) : f71_o_c8 (fun σ => f71_a k (f71_F_c8 k G_l0 G_c12 G_r15 G_c16 G_r17) .nx σ) = f71_c8_B k (f71_o_c12 G_c12) := by kernel_rfl
def f71_c8 (k : Nat) (r_l0 : f71_t_l0) : f71_t_c8 := f71_c8_B k (f71_c12 k r_l0)
theorem f71_c8_E (k : Nat) (R_l0 : f71_S) : f71_o_c8 (f71_C_c8 k R_l0) = f71_c8 k (f71_o_l0 R_l0) :=
  Eq.trans (congrArg f71_o_c8 (ap_fn (f71_f_c8 k R_l0))) ((f71_c8_P k R_l0 (f71_C_c12 k R_l0) (f71_C_r15 k R_l0) (f71_C_c16 k R_l0) (f71_C_r17 k R_l0)).trans (by rw [f71_c12_E k R_l0] <;> rfl))
theorem f71_l0_P (k : Nat) (G_l0 G_c8 G_c12 G_r15 G_c16 G_r17 : f71_S) : f71_o_l0 (fun σ => f71_a k (f71_F_l0 k G_l0 G_c8 G_c12 G_r15 G_c16 G_r17) .nx σ) = f71_l0_B k (f71_o_c8 G_c8) := by kernel_rfl
def f71_l0 (k : Nat) : Nat → f71_t_l0
  | 0 => fun _ _ _ _ => none
  | n + 1 => f71_l0_B k (f71_c8 k (f71_l0 k n))
theorem f71_l0_E (k : Nat) : ∀ n, f71_o_l0 (f71_C_l0 k n) = f71_l0 k n
  | 0 => rfl
  | n + 1 =>
    Eq.trans (congrArg f71_o_l0 (Eq.trans (b := fun σ => f71_a k (f71_Q_l0 k (f71_C_l0 k n)) .nx σ) (by kernel_rfl) (ap_fn (f71_f_l0 k (f71_C_l0 k n))))) ((f71_l0_P k (f71_C_l0 k n) (f71_C_c8 k (f71_C_l0 k n)) (f71_C_c12 k (f71_C_l0 k n)) (f71_C_r15 k (f71_C_l0 k n)) (f71_C_c16 k (f71_C_l0 k n)) (f71_C_r17 k (f71_C_l0 k n))).trans (by rw [f71_c8_E k (f71_C_l0 k n), f71_l0_E k n] <;> rfl))
theorem f71_entry_P (k : Nat) (G_l0 : f71_S) (x : LOD f71_ls) (xs : DL f71_sig) : f71_a k (.c (f71_p 2) 0 :: .c (f71_p 6) 0 :: .j (fun σ => f71_a k (.j (fun σ => G_l0 (cut f71_A.loops 0 σ)) :: .blk 0 :: []) .nx σ) :: []) .nx (σ0B 148 449 0 f71_ls x f71_sig xs) = f71_entry_B k (f71_o_l0 G_l0) x.1 xs.1 xs.2.1 xs.2.2.1 xs.2.2.2.1 := by kernel_rfl
def f71 (k : Nat) (a : Td4) (a0 : Int) (a1 : Int) (a2 : Int) (a3 : Unit) : Option (((List (Int × Int)) × Unit) × (Unit)) := f71_entry_B k (f71_l0 k k) a a0 a1 a2 a3
theorem f71_fe (k : Nat) : f71_a k [.c (f71_p 1) 0] = f71_a k (.c (f71_p 2) 0 :: .c (f71_p 6) 0 :: .j (fun σ => f71_a k (.j (fun σ => (f71_C_l0 k k) (cut f71_A.loops 0 σ)) :: .blk 0 :: []) .nx σ) :: []) := (Eq.trans ap_sq (ap_cons _ (Eq.trans ap_sq (ap_cons _ (Eq.trans (ap_bl 0) (Eq.trans (ap_j (Eq.trans (ap_lp (C := (f71_C_l0 k)) (fun _ _ => rfl)) (ap_cons _ (ap_cons _ rfl)))) (ap_cons _ rfl)))))))
theorem f71_eq (k : Nat) (x : LOD f71_ls) (xs : DL f71_sig) : den T f71_Y (f71_E k) f71_A k f71_c 0 (σ0B 148 449 0 f71_ls x f71_sig xs) (KfinB T true f71_ls f71_rs f71_ts) = f71 k x.1 xs.1 xs.2.1 xs.2.2.1 xs.2.2.2.1 :=
  Eq.trans (Eq.trans den_sb (ap_at (f71_fe k) _)) ((f71_entry_P k (f71_C_l0 k k) x xs).trans (by rw [f71_l0_E k k] <;> rfl))
noncomputable def f71_con (k : Nat) : BCon := ⟨0, true, f71_ls, f71_sig, f71_rs, fun x xs => f71 k x.1 xs.1 xs.2.1 xs.2.2.1 xs.2.2.2.1⟩
theorem f71_ok (k : Nat) : BoxOK Try.prog 71 0 true f71_ls f71_sig f71_rs (fun x xs => f71 k x.1 xs.1 xs.2.1 xs.2.2.1 xs.2.2.2.1) :=
  (box_of_den (k := k) (A := f71_A) (T := T) (Y := f71_Y) (E := f71_E k) (M := 449) (ts := f71_ts) T_ok ⟨f48_ok k, f96_ok k, f99_ok k, trivial⟩ ⟨f48_ent, f96_ent, f99_ent, trivial⟩ mixed (f := 71) (fn := Try.f71) (c := f71_c) (by kernel_rfl) (by kernel_rfl) (by kernel_rfl) (by decide) (by kernel_rfl) (by decide)).congr fun x xs => (f71_eq k x xs).symm
theorem f71_ent : Ent Try.prog 71 := fun args w => by kernel_rfl
/-! ### slices.SortFunc[[]terrier/api.Ban,terrier/api.Ban]: function 47 -/
noncomputable def f47_c : Code := Try.f47.body.getD .skip
noncomputable abbrev f47_p (n : Nat) : Code := sb f47_c n
abbrev f47_sig : List PT := [(false, (.fn 48))]
abbrev f47_rs : List RT := []
abbrev f47_ts : List RV := []
abbrev f47_ls : List LO := [.row Tq2]
abbrev f47_S := St → Option (LOD f47_ls × RDL f47_rs)
abbrev f47_L := List (Fr (LOD f47_ls × RDL f47_rs))
def f47_Y : Tys := []
noncomputable def f47_E (k : Nat) : Env := [(68, .c (f68_con k)), (71, .b (f71_con k))]
def f47_A : Ann := {}
noncomputable abbrev f47_a (k : Nat) (F : f47_L) : Kont (LOD f47_ls × RDL f47_rs) := ap T f47_Y (f47_E k) f47_A k (KfinB T true f47_ls f47_rs f47_ts) F
def f47_entry_B (k : Nat) (a : Td4) (a0 : Unit) : Option (((List (Int × Int)) × Unit) × (Unit)) := ((f68 k (IntKind.u64.wrap ((a.length : Int)))).bind fun r1 => ((f71 k a 0 (a.length : Int) r1.1 ()).bind fun r2 => some ((r2.1.1, ()), (()))))
theorem f47_entry_P (k : Nat) (x : LOD f47_ls) (xs : DL f47_sig) : f47_a k (.c (f47_p 1) 0 :: []) .nx (σ0B 14 49 0 f47_ls x f47_sig xs) = f47_entry_B k x.1 xs.1 := by kernel_rfl
def f47 (k : Nat) (a : Td4) (a0 : Unit) : Option (((List (Int × Int)) × Unit) × (Unit)) := f47_entry_B k a a0
theorem f47_eq (k : Nat) (x : LOD f47_ls) (xs : DL f47_sig) : den T f47_Y (f47_E k) f47_A k f47_c 0 (σ0B 14 49 0 f47_ls x f47_sig xs) (KfinB T true f47_ls f47_rs f47_ts) = f47 k x.1 xs.1 :=
  Eq.trans (Eq.trans den_sb (ap_at (ap_cons _ rfl) _)) ((f47_entry_P k x xs).trans (by rfl))
noncomputable def f47_con (k : Nat) : BCon := ⟨0, true, f47_ls, f47_sig, f47_rs, fun x xs => f47 k x.1 xs.1⟩
theorem f47_ok (k : Nat) : BoxOK Try.prog 47 0 true f47_ls f47_sig f47_rs (fun x xs => f47 k x.1 xs.1) :=
  (box_of_den (k := k) (A := f47_A) (T := T) (Y := f47_Y) (E := f47_E k) (M := 49) (ts := f47_ts) T_ok ⟨f68_ok k, f71_ok k, trivial⟩ ⟨f68_ent, f71_ent, trivial⟩ mixed (f := 47) (fn := Try.f47) (c := f47_c) (by kernel_rfl) (by kernel_rfl) (by kernel_rfl) (by decide) (by kernel_rfl) (by decide)).congr fun x xs => (f47_eq k x xs).symm
theorem f47_ent : Ent Try.prog 47 := fun args w => by kernel_rfl
/-! ### terrier/terrmake.Net: function 13 -/
noncomputable def f13_c : Code := Try.f13.body.getD .skip
noncomputable abbrev f13_p (n : Nat) : Code := sb f13_c n
abbrev f13_sig : List PT := [(false, Tq1)]
abbrev f13_rs : List RT := [.d true Tq9]
abbrev f13_ts : List RV := [.cell 2 27]
abbrev f13_S := St → Option (RDL f13_rs)
abbrev f13_L := List (Fr (RDL f13_rs))
def f13_Y : Tys := [(36, Tq2), (39, Tq6), (42, Tq2)]
noncomputable def f13_E (k : Nat) : Env := [(43, .b (f43_con k)), (44, .b (f44_con k)), (45, .c (f45_con k)), (46, .c (f46_con k)), (47, .b (f47_con k))]
def f13_A : Ann := { loops := [(0, { matb := [(4, 0, 39, Tq2)], slots := [(2, .id), (3, .id), (4, .id)], keys := [(2, []), (4, []), (11, [.val false (.int .i64)]), (39, [])] }), (2, { matb := [(4, 0, 39, Tq2)], slots := [(2, .id), (3, .id), (4, .id), (5, .id)], keys := [(2, []), (4, []), (5, []), (11, [.val false (.int .i64)]), (39, [])] }), (4, { matb := [(4, 0, 39, Tq2), (4, 1, 69, Tq6)], slots := [(2, .id), (3, .id), (4, .id), (42, .id), (43, .id)], keys := [(2, []), (4, []), (11, [.val false (.int .i64)]), (39, []), (69, [])] }), (6, { matb := [(4, 0, 39, Tq2), (4, 1, 69, Tq6), (4, 2, 117, Tq2)], slots := [(2, .id), (3, .id), (4, .id), (73, .id), (74, .id)], keys := [(2, []), (4, []), (11, [.val false (.int .i64)]), (39, []), (69, []), (117, [])] })], regs := [(3, { matb := [(4, 0, 39, Tq2)], slots := [(2, .id), (3, .id), (4, .id), (24, .bool)], keys := [(2, []), (4, []), (11, [.val false (.int .i64)]), (39, [])] }), (18, { matb := [(4, 2, 117, Tq2)], slots := [(2, .id), (3, .id), (4, .id), (8, .id), (73, .id), (74, .id), (112, .bool)], keys := [(2, []), (4, []), (8, []), (11, [.val false (.int .i64)]), (39, []), (69, []), (117, [])] })], conds := [(12, { matb := [(4, 0, 39, Tq2), (4, 1, 69, Tq6)], slots := [(2, .id), (3, .id), (4, .id), (42, .id), (43, .id)], keys := [(2, []), (4, []), (11, [.val false (.int .i64)]), (39, []), (69, [])] }), (19, { matb := [(4, 2, 117, Tq2)], slots := [(2, .id), (3, .id), (4, .id), (73, .id), (74, .id)], keys := [(2, []), (4, []), (11, [.val false (.int .i64)]), (39, []), (69, []), (117, [])] })], blks := [(6, { matb := [(4, 1, 69, Tq6), (4, 2, 117, Tq2)], slots := [(2, .id), (4, .id)], keys := [(2, []), (4, []), (39, []), (69, []), (117, [])] })] }
noncomputable abbrev f13_a (k : Nat) (F : f13_L) : Kont (RDL f13_rs) := ap T f13_Y (f13_E k) f13_A k (Kfin T f13_rs f13_ts) F
def f13_s_l0 (y11_0 : (List Int)) (y39 : (List (Int × Int))) : St := mkS 124 384 [(2, aP 2), (3, aP 11), (4, aP 4)] [(2, .box [.nil, .nil, .nil]), (4, .box [.own 39, .nil, .nil]), (11, .box [cV (.int .i64) y11_0]), (39, .vec Tq2 y39)]
abbrev f13_t_l0 := (List Int) → (List (Int × Int)) → Option (Td12 × Unit)
abbrev f13_o_l0 (R : f13_S) : f13_t_l0 := (fun y11_0 y39 => R (f13_s_l0 y11_0 y39))
noncomputable def f13_Q_l0 (k : Nat) (R_l0 : f13_S) : f13_L := [.c (f13_p 120) 0, .j (fun σ => R_l0 (cut f13_A.loops 0 σ)), .blk 0, .c (f13_p 31) 0]
noncomputable def f13_C_l0 (k : Nat) (n : Nat) (σ : St) : Option (RDL f13_rs) := loopK (fun σ K => den T f13_Y (f13_E k) f13_A k (f13_p 120) 0 σ K) (cut f13_A.loops 0) (f13_a k [.blk 0, .c (f13_p 31) 0]) n σ
def f13_s_r3 (y11_0 : (List Int)) (y39 : (List (Int × Int))) (x24 : Bool) : St := mkS 124 384 [(2, aP 2), (3, aP 11), (4, aP 4), (24, aB x24)] [(2, .box [.nil, .nil, .nil]), (4, .box [.own 39, .nil, .nil]), (11, .box [cV (.int .i64) y11_0]), (39, .vec Tq2 y39)]
abbrev f13_t_r3 := (List Int) → (List (Int × Int)) → Bool → Option (Td12 × Unit)
abbrev f13_o_r3 (R : f13_S) : f13_t_r3 := (fun y11_0 y39 x24 => R (f13_s_r3 y11_0 y39 x24))
noncomputable def f13_Q_r3 (k : Nat) (R_l0 : f13_S) : f13_L := [.c (f13_p 481) 0, .c (f13_p 241) 0, .j (fun σ => R_l0 (cut f13_A.loops 0 σ)), .blk 0, .c (f13_p 31) 0]
noncomputable def f13_C_r3 (k : Nat) (R_l0 : f13_S) : f13_S := fun σ => f13_a k (f13_Q_r3 k R_l0) .nx σ
def f13_s_l2 (y11_0 : (List Int)) (y39 : (List (Int × Int))) (y5_0 : Int) (y5_1 : Int) : St := mkS 124 384 [(2, aP 2), (3, aP 11), (4, aP 4), (5, aP 5)] [(2, .box [.nil, .nil, .nil]), (4, .box [.own 39, .nil, .nil]), (5, .box [cI y5_0, cI y5_1]), (11, .box [cV (.int .i64) y11_0]), (39, .vec Tq2 y39)]
abbrev f13_t_l2 := (List Int) → (List (Int × Int)) → Int → Int → Option (Td12 × Unit)
abbrev f13_o_l2 (R : f13_S) : f13_t_l2 := (fun y11_0 y39 y5_0 y5_1 => R (f13_s_l2 y11_0 y39 y5_0 y5_1))
noncomputable def f13_Q_l2 (k : Nat) (R_l0 R_l2 : f13_S) : f13_L := [.c (f13_p 7720) 2, .j (fun σ => R_l2 (cut f13_A.loops 2 σ)), .blk 2, .c (f13_p 1931) 1, .blk 1, .j (fun σ => R_l0 (cut f13_A.loops 0 σ)), .blk 0, .c (f13_p 31) 0]
noncomputable def f13_C_l2 (k : Nat) (R_l0 : f13_S) (n : Nat) (σ : St) : Option (RDL f13_rs) := loopK (fun σ K => den T f13_Y (f13_E k) f13_A k (f13_p 7720) 2 σ K) (cut f13_A.loops 2) (f13_a k [.blk 2, .c (f13_p 1931) 1, .blk 1, .j (fun σ => R_l0 (cut f13_A.loops 0 σ)), .blk 0, .c (f13_p 31) 0]) n σ
def f13_s_l4 (y11_0 : (List Int)) (y39 : (List (Int × Int))) (y69 : (List (Int × (Int × (Int × Int))))) (x42 : Int) (x43 : Int) : St := mkS 124 384 [(2, aP 2), (3, aP 11), (4, aP 4), (42, aI x42), (43, aI x43)] [(2, .box [.nil, .nil, .nil]), (4, .box [.own 39, .own 69, .nil]), (11, .box [cV (.int .i64) y11_0]), (39, .vec Tq2 y39), (69, .vec Tq6 y69)]
abbrev f13_t_l4 := (List Int) → (List (Int × Int)) → (List (Int × (Int × (Int × Int)))) → Int → Int → Option (Td12 × Unit)
abbrev f13_o_l4 (R : f13_S) : f13_t_l4 := (fun y11_0 y39 y69 x42 x43 => R (f13_s_l4 y11_0 y39 y69 x42 x43))
noncomputable def f13_Q_l4 (k : Nat) (R_l4 : f13_S) : f13_L := [.c (f13_p 500) 4, .j (fun σ => R_l4 (cut f13_A.loops 4 σ)), .blk 4, .c (f13_p 63) 0]
noncomputable def f13_C_l4 (k : Nat) (n : Nat) (σ : St) : Option (RDL f13_rs) := loopK (fun σ K => den T f13_Y (f13_E k) f13_A k (f13_p 500) 4 σ K) (cut f13_A.loops 4) (f13_a k [.blk 4, .c (f13_p 63) 0]) n σ
def f13_s_c12 (y11_0 : (List Int)) (y39 : (List (Int × Int))) (y69 : (List (Int × (Int × (Int × Int))))) (x42 : Int) (x43 : Int) : St := mkS 124 384 [(2, aP 2), (3, aP 11), (4, aP 4), (42, aI x42), (43, aI x43)] [(2, .box [.nil, .nil, .nil]), (4, .box [.own 39, .own 69, .nil]), (11, .box [cV (.int .i64) y11_0]), (39, .vec Tq2 y39), (69, .vec Tq6 y69)]
abbrev f13_t_c12 := (List Int) → (List (Int × Int)) → (List (Int × (Int × (Int × Int)))) → Int → Int → Option (Td12 × Unit)
abbrev f13_o_c12 (R : f13_S) : f13_t_c12 := (fun y11_0 y39 y69 x42 x43 => R (f13_s_c12 y11_0 y39 y69 x42 x43))
noncomputable def f13_Q_c12 (k : Nat) (R_l4 : f13_S) : f13_L := [.blk 5, .c (f13_p 4007) 4, .j (fun σ => R_l4 (cut f13_A.loops 4 σ)), .blk 4, .c (f13_p 63) 0]
noncomputable def f13_C_c12 (k : Nat) (R_l4 : f13_S) : f13_S := fun σ => f13_a k (f13_Q_c12 k R_l4) .nx σ
def f13_s_l6 (y11_0 : (List Int)) (y117 : (List (Int × Int))) (y39 : (List (Int × Int))) (y69 : (List (Int × (Int × (Int × Int))))) (x73 : Int) (x74 : Int) : St := mkS 124 384 [(2, aP 2), (3, aP 11), (4, aP 4), (73, aI x73), (74, aI x74)] [(2, .box [.nil, .nil, .nil]), (4, .box [.own 39, .own 69, .own 117]), (11, .box [cV (.int .i64) y11_0]), (39, .vec Tq2 y39), (69, .vec Tq6 y69), (117, .vec Tq2 y117)]
abbrev f13_t_l6 := (List Int) → (List (Int × Int)) → (List (Int × Int)) → (List (Int × (Int × (Int × Int)))) → Int → Int → Option (Td12 × Unit)
abbrev f13_o_l6 (R : f13_S) : f13_t_l6 := (fun y11_0 y117 y39 y69 x73 x74 => R (f13_s_l6 y11_0 y117 y39 y69 x73 x74))
noncomputable def f13_Q_l6 (k : Nat) (R_l6 : f13_S) : f13_L := [.c (f13_p 1012) 6, .j (fun σ => R_l6 (cut f13_A.loops 6 σ)), .blk 6, .c (f13_p 127) 0]
noncomputable def f13_C_l6 (k : Nat) (n : Nat) (σ : St) : Option (RDL f13_rs) := loopK (fun σ K => den T f13_Y (f13_E k) f13_A k (f13_p 1012) 6 σ K) (cut f13_A.loops 6) (f13_a k [.blk 6, .c (f13_p 127) 0]) n σ
def f13_s_b6 (y117 : (List (Int × Int))) (y39 : (List (Int × Int))) (y69 : (List (Int × (Int × (Int × Int))))) : St := mkS 124 384 [(2, aP 2), (4, aP 4)] [(2, .box [.nil, .nil, .nil]), (4, .box [.own 39, .own 69, .own 117]), (39, .vec Tq2 y39), (69, .vec Tq6 y69), (117, .vec Tq2 y117)]
abbrev f13_t_b6 := (List (Int × Int)) → (List (Int × Int)) → (List (Int × (Int × (Int × Int)))) → Option (Td12 × Unit)
abbrev f13_o_b6 (R : f13_S) : f13_t_b6 := (fun y117 y39 y69 => R (f13_s_b6 y117 y39 y69))
noncomputable def f13_Q_b6 (k : Nat) : f13_L := [.c (f13_p 127) 0]
noncomputable def f13_C_b6 (k : Nat) : f13_S := fun σ => f13_a k (f13_Q_b6 k) .nx σ
def f13_s_r18 (y11_0 : (List Int)) (y117 : (List (Int × Int))) (y39 : (List (Int × Int))) (y69 : (List (Int × (Int × (Int × Int))))) (y8_0 : Int) (y8_1 : Int) (x112 : Bool) (x73 : Int) (x74 : Int) : St := mkS 124 384 [(2, aP 2), (3, aP 11), (4, aP 4), (8, aP 8), (73, aI x73), (74, aI x74), (112, aB x112)] [(2, .box [.nil, .nil, .nil]), (4, .box [.own 39, .own 69, .own 117]), (8, .box [cI y8_0, cI y8_1]), (11, .box [cV (.int .i64) y11_0]), (39, .vec Tq2 y39), (69, .vec Tq6 y69), (117, .vec Tq2 y117)]
abbrev f13_t_r18 := (List Int) → (List (Int × Int)) → (List (Int × Int)) → (List (Int × (Int × (Int × Int)))) → Int → Int → Bool → Int → Int → Option (Td12 × Unit)
abbrev f13_o_r18 (R : f13_S) : f13_t_r18 := (fun y11_0 y117 y39 y69 y8_0 y8_1 x112 x73 x74 => R (f13_s_r18 y11_0 y117 y39 y69 y8_0 y8_1 x112 x73 x74))
noncomputable def f13_Q_r18 (k : Nat) (R_l6 : f13_S) : f13_L := [.c (f13_p 129639) 7, .blk 7, .c (f13_p 8103) 6, .j (fun σ => R_l6 (cut f13_A.loops 6 σ)), .blk 6, .c (f13_p 127) 0]
noncomputable def f13_C_r18 (k : Nat) (R_l6 : f13_S) : f13_S := fun σ => f13_a k (f13_Q_r18 k R_l6) .nx σ
def f13_s_c19 (y11_0 : (List Int)) (y117 : (List (Int × Int))) (y39 : (List (Int × Int))) (y69 : (List (Int × (Int × (Int × Int))))) (x73 : Int) (x74 : Int) : St := mkS 124 384 [(2, aP 2), (3, aP 11), (4, aP 4), (73, aI x73), (74, aI x74)] [(2, .box [.nil, .nil, .nil]), (4, .box [.own 39, .own 69, .own 117]), (11, .box [cV (.int .i64) y11_0]), (39, .vec Tq2 y39), (69, .vec Tq6 y69), (117, .vec Tq2 y117)]
abbrev f13_t_c19 := (List Int) → (List (Int × Int)) → (List (Int × Int)) → (List (Int × (Int × (Int × Int)))) → Int → Int → Option (Td12 × Unit)
abbrev f13_o_c19 (R : f13_S) : f13_t_c19 := (fun y11_0 y117 y39 y69 x73 x74 => R (f13_s_c19 y11_0 y117 y39 y69 x73 x74))
noncomputable def f13_Q_c19 (k : Nat) (R_l6 : f13_S) : f13_L := [.blk 7, .c (f13_p 8103) 6, .j (fun σ => R_l6 (cut f13_A.loops 6 σ)), .blk 6, .c (f13_p 127) 0]
noncomputable def f13_C_c19 (k : Nat) (R_l6 : f13_S) : f13_S := fun σ => f13_a k (f13_Q_c19 k R_l6) .nx σ
noncomputable def f13_F_b6 (k : Nat) : f13_L := .c (f13_p 127) 0 :: []
theorem f13_f_b6 (k : Nat) : f13_a k (f13_Q_b6 k) = f13_a k (f13_F_b6 k) := (ap_cons _ rfl)
noncomputable def f13_F_r3 (k : Nat) (G_l0 G_l2 G_l4 G_l6 G_b6 : f13_S) : f13_L := .c (f13_p 481) 0 :: .j (fun σ => f13_a k (.c (f13_p 964) 1 :: .j (fun σ => f13_a k (.j (fun σ => G_l2 (cut f13_A.loops 2 σ)) :: .blk 2 :: .c (f13_p 1931) 1 :: .blk 1 :: .j (fun σ => G_l0 (cut f13_A.loops 0 σ)) :: .blk 0 :: .c (f13_p 124) 0 :: .j (fun σ => f13_a k (.j (fun σ => G_l4 (cut f13_A.loops 4 σ)) :: .blk 4 :: .c (f13_p 252) 0 :: .j (fun σ => f13_a k (.j (fun σ => G_l6 (cut f13_A.loops 6 σ)) :: .b 6 (fun σ => G_b6 (cut f13_A.blks 6 σ)) :: f13_F_b6 k) .nx σ) :: f13_F_b6 k) .nx σ) :: .c (f13_p 252) 0 :: .j (fun σ => f13_a k (.j (fun σ => G_l6 (cut f13_A.loops 6 σ)) :: .b 6 (fun σ => G_b6 (cut f13_A.blks 6 σ)) :: f13_F_b6 k) .nx σ) :: f13_F_b6 k) .nx σ) :: .c (f13_p 1931) 1 :: .blk 1 :: .j (fun σ => G_l0 (cut f13_A.loops 0 σ)) :: .blk 0 :: .c (f13_p 124) 0 :: .j (fun σ => f13_a k (.j (fun σ => G_l4 (cut f13_A.loops 4 σ)) :: .blk 4 :: .c (f13_p 252) 0 :: .j (fun σ => f13_a k (.j (fun σ => G_l6 (cut f13_A.loops 6 σ)) :: .b 6 (fun σ => G_b6 (cut f13_A.blks 6 σ)) :: f13_F_b6 k) .nx σ) :: f13_F_b6 k) .nx σ) :: .c (f13_p 252) 0 :: .j (fun σ => f13_a k (.j (fun σ => G_l6 (cut f13_A.loops 6 σ)) :: .b 6 (fun σ => G_b6 (cut f13_A.blks 6 σ)) :: f13_F_b6 k) .nx σ) :: f13_F_b6 k) .nx σ) :: .j (fun σ => G_l0 (cut f13_A.loops 0 σ)) :: .blk 0 :: .c (f13_p 124) 0 :: .j (fun σ => f13_a k (.j (fun σ => G_l4 (cut f13_A.loops 4 σ)) :: .blk 4 :: .c (f13_p 252) 0 :: .j (fun σ => f13_a k (.j (fun σ => G_l6 (cut f13_A.loops 6 σ)) :: .b 6 (fun σ => G_b6 (cut f13_A.blks 6 σ)) :: f13_F_b6 k) .nx σ) :: f13_F_b6 k) .nx σ) :: .c (f13_p 252) 0 :: .j (fun σ => f13_a k (.j (fun σ => G_l6 (cut f13_A.loops 6 σ)) :: .b 6 (fun σ => G_b6 (cut f13_A.blks 6 σ)) :: f13_F_b6 k) .nx σ) :: f13_F_b6 k
theorem f13_f_r3 (k : Nat) (R_l0 : f13_S) : f13_a k (f13_Q_r3 k R_l0) = f13_a k (f13_F_r3 k R_l0 (f13_C_l2 k R_l0 k) (f13_C_l4 k k) (f13_C_l6 k k) (f13_C_b6 k)) := (ap_cons _ (Eq.trans (ap_bl 1) (Eq.trans (ap_j (Eq.trans ap_sq (ap_cons _ (Eq.trans ap_sq (Eq.trans (ap_bl 2) (Eq.trans (ap_j (Eq.trans (ap_lp (C := (f13_C_l2 k R_l0)) (fun _ _ => rfl)) (ap_cons _ (ap_cons _ (ap_cons _ (ap_cons _ (ap_cons _ (ap_cons _ (Eq.trans ap_sq (Eq.trans ap_sq (ap_cons _ (Eq.trans (ap_bl 4) (Eq.trans (ap_j (Eq.trans (ap_lp (C := (f13_C_l4 k)) (fun _ _ => rfl)) (ap_cons _ (ap_cons _ (Eq.trans ap_sq (Eq.trans ap_sq (ap_cons _ (Eq.trans (ap_bl 6) (Eq.trans (ap_j (Eq.trans (ap_lp (C := (f13_C_l6 k)) (fun _ _ => rfl)) (ap_cons _ (Eq.trans (ap_blkb (C := (f13_C_b6 k)) (fun _ => rfl)) (ap_cons _ (f13_f_b6 k)))))) (ap_cons _ (f13_f_b6 k))))))))))) (ap_cons _ (Eq.trans ap_sq (Eq.trans ap_sq (ap_cons _ (Eq.trans (ap_bl 6) (Eq.trans (ap_j (Eq.trans (ap_lp (C := (f13_C_l6 k)) (fun _ _ => rfl)) (ap_cons _ (Eq.trans (ap_blkb (C := (f13_C_b6 k)) (fun _ => rfl)) (ap_cons _ (f13_f_b6 k)))))) (ap_cons _ (f13_f_b6 k))))))))))))))))))))) (ap_cons _ (ap_cons _ (ap_cons _ (ap_cons _ (ap_cons _ (Eq.trans ap_sq (Eq.trans ap_sq (ap_cons _ (Eq.trans (ap_bl 4) (Eq.trans (ap_j (Eq.trans (ap_lp (C := (f13_C_l4 k)) (fun _ _ => rfl)) (ap_cons _ (ap_cons _ (Eq.trans ap_sq (Eq.trans ap_sq (ap_cons _ (Eq.trans (ap_bl 6) (Eq.trans (ap_j (Eq.trans (ap_lp (C := (f13_C_l6 k)) (fun _ _ => rfl)) (ap_cons _ (Eq.trans (ap_blkb (C := (f13_C_b6 k)) (fun _ => rfl)) (ap_cons _ (f13_f_b6 k)))))) (ap_cons _ (f13_f_b6 k))))))))))) (ap_cons _ (Eq.trans ap_sq (Eq.trans ap_sq (ap_cons _ (Eq.trans (ap_bl 6) (Eq.trans (ap_j (Eq.trans (ap_lp (C := (f13_C_l6 k)) (fun _ _ => rfl)) (ap_cons _ (Eq.trans (ap_blkb (C := (f13_C_b6 k)) (fun _ => rfl)) (ap_cons _ (f13_f_b6 k)))))) (ap_cons _ (f13_f_b6 k)))))))))))))))))))))))) (ap_cons _ (ap_cons _ (ap_cons _ (Eq.trans ap_sq (Eq.trans ap_sq (ap_cons _ (Eq.trans (ap_bl 4) (Eq.trans (ap_j (Eq.trans (ap_lp (C := (f13_C_l4 k)) (fun _ _ => rfl)) (ap_cons _ (ap_cons _ (Eq.trans ap_sq (Eq.trans ap_sq (ap_cons _ (Eq.trans (ap_bl 6) (Eq.trans (ap_j (Eq.trans (ap_lp (C := (f13_C_l6 k)) (fun _ _ => rfl)) (ap_cons _ (Eq.trans (ap_blkb (C := (f13_C_b6 k)) (fun _ => rfl)) (ap_cons _ (f13_f_b6 k)))))) (ap_cons _ (f13_f_b6 k))))))))))) (ap_cons _ (Eq.trans ap_sq (Eq.trans ap_sq (ap_cons _ (Eq.trans (ap_bl 6) (Eq.trans (ap_j (Eq.trans (ap_lp (C := (f13_C_l6 k)) (fun _ _ => rfl)) (ap_cons _ (Eq.trans (ap_blkb (C := (f13_C_b6 k)) (fun _ => rfl)) (ap_cons _ (f13_f_b6 k)))))) (ap_cons _ (f13_f_b6 k)))))))))))))))))))
noncomputable def f13_F_l0 (k : Nat) (G_l0 G_r3 G_l2 G_l4 G_l6 G_b6 : f13_S) : f13_L := .c (f13_p 480) 0 :: .j G_r3 :: f13_F_r3 k G_l0 G_l2 G_l4 G_l6 G_b6
theorem f13_f_l0 (k : Nat) (R_l0 : f13_S) : f13_a k (f13_Q_l0 k R_l0) = f13_a k (f13_F_l0 k R_l0 (f13_C_r3 k R_l0) (f13_C_l2 k R_l0 k) (f13_C_l4 k k) (f13_C_l6 k k) (f13_C_b6 k)) := (Eq.trans ap_sq (Eq.trans ap_sq (ap_cons _ (Eq.trans (ap_pass (C := (f13_C_r3 k R_l0)) (fun _ => rfl)) (ap_cons _ (f13_f_r3 k R_l0))))))
noncomputable def f13_F_l2 (k : Nat) (G_l0 G_l2 G_l4 G_l6 G_b6 : f13_S) : f13_L := .c (f13_p 7720) 2 :: .j (fun σ => G_l2 (cut f13_A.loops 2 σ)) :: .blk 2 :: .c (f13_p 1931) 1 :: .blk 1 :: .j (fun σ => G_l0 (cut f13_A.loops 0 σ)) :: .blk 0 :: .c (f13_p 124) 0 :: .j (fun σ => f13_a k (.j (fun σ => G_l4 (cut f13_A.loops 4 σ)) :: .blk 4 :: .c (f13_p 252) 0 :: .j (fun σ => f13_a k (.j (fun σ => G_l6 (cut f13_A.loops 6 σ)) :: .b 6 (fun σ => G_b6 (cut f13_A.blks 6 σ)) :: f13_F_b6 k) .nx σ) :: f13_F_b6 k) .nx σ) :: .c (f13_p 252) 0 :: .j (fun σ => f13_a k (.j (fun σ => G_l6 (cut f13_A.loops 6 σ)) :: .b 6 (fun σ => G_b6 (cut f13_A.blks 6 σ)) :: f13_F_b6 k) .nx σ) :: f13_F_b6 k
theorem f13_f_l2 (k : Nat) (R_l0 R_l2 : f13_S) : f13_a k (f13_Q_l2 k R_l0 R_l2) = f13_a k (f13_F_l2 k R_l0 R_l2 (f13_C_l4 k k) (f13_C_l6 k k) (f13_C_b6 k)) := (ap_cons _ (ap_cons _ (ap_cons _ (ap_cons _ (ap_cons _ (ap_cons _ (ap_cons _ (Eq.trans ap_sq (Eq.trans ap_sq (ap_cons _ (Eq.trans (ap_bl 4) (Eq.trans (ap_j (Eq.trans (ap_lp (C := (f13_C_l4 k)) (fun _ _ => rfl)) (ap_cons _ (ap_cons _ (Eq.trans ap_sq (Eq.trans ap_sq (ap_cons _ (Eq.trans (ap_bl 6) (Eq.trans (ap_j (Eq.trans (ap_lp (C := (f13_C_l6 k)) (fun _ _ => rfl)) (ap_cons _ (Eq.trans (ap_blkb (C := (f13_C_b6 k)) (fun _ => rfl)) (ap_cons _ (f13_f_b6 k)))))) (ap_cons _ (f13_f_b6 k))))))))))) (ap_cons _ (Eq.trans ap_sq (Eq.trans ap_sq (ap_cons _ (Eq.trans (ap_bl 6) (Eq.trans (ap_j (Eq.trans (ap_lp (C := (f13_C_l6 k)) (fun _ _ => rfl)) (ap_cons _ (Eq.trans (ap_blkb (C := (f13_C_b6 k)) (fun _ => rfl)) (ap_cons _ (f13_f_b6 k)))))) (ap_cons _ (f13_f_b6 k))))))))))))))))))))
noncomputable def f13_F_c12 (k : Nat) (G_l4 G_l6 G_b6 : f13_S) : f13_L := .blk 5 :: .c (f13_p 4007) 4 :: .j (fun σ => G_l4 (cut f13_A.loops 4 σ)) :: .blk 4 :: .c (f13_p 252) 0 :: .j (fun σ => f13_a k (.j (fun σ => G_l6 (cut f13_A.loops 6 σ)) :: .b 6 (fun σ => G_b6 (cut f13_A.blks 6 σ)) :: f13_F_b6 k) .nx σ) :: f13_F_b6 k
theorem f13_f_c12 (k : Nat) (R_l4 : f13_S) : f13_a k (f13_Q_c12 k R_l4) = f13_a k (f13_F_c12 k R_l4 (f13_C_l6 k k) (f13_C_b6 k)) := (ap_cons _ (ap_cons _ (ap_cons _ (ap_cons _ (Eq.trans ap_sq (Eq.trans ap_sq (ap_cons _ (Eq.trans (ap_bl 6) (Eq.trans (ap_j (Eq.trans (ap_lp (C := (f13_C_l6 k)) (fun _ _ => rfl)) (ap_cons _ (Eq.trans (ap_blkb (C := (f13_C_b6 k)) (fun _ => rfl)) (ap_cons _ (f13_f_b6 k)))))) (ap_cons _ (f13_f_b6 k)))))))))))
noncomputable def f13_F_l4 (k : Nat) (G_l4 G_c12 G_l6 G_b6 : f13_S) : f13_L := .c (f13_p 1000) 4 :: .c (f13_p 2002) 4 :: .j (fun σ => f13_a k (.c (f13_p 16024) 5 :: .c (f13_p 32050) 5 :: .c (f13_p 32051) 5 :: .j G_c12 :: f13_F_c12 k G_l4 G_l6 G_b6) .nx σ) :: .c (f13_p 4007) 4 :: .j (fun σ => G_l4 (cut f13_A.loops 4 σ)) :: .blk 4 :: .c (f13_p 252) 0 :: .j (fun σ => f13_a k (.j (fun σ => G_l6 (cut f13_A.loops 6 σ)) :: .b 6 (fun σ => G_b6 (cut f13_A.blks 6 σ)) :: f13_F_b6 k) .nx σ) :: f13_F_b6 k
theorem f13_f_l4 (k : Nat) (R_l4 : f13_S) : f13_a k (f13_Q_l4 k R_l4) = f13_a k (f13_F_l4 k R_l4 (f13_C_c12 k R_l4) (f13_C_l6 k k) (f13_C_b6 k)) := (Eq.trans ap_sq (ap_cons _ (Eq.trans ap_sq (ap_cons _ (Eq.trans ap_sq (Eq.trans (ap_bl 5) (Eq.trans (ap_j (Eq.trans ap_sq (ap_cons _ (Eq.trans ap_sq (ap_cons _ (ap_cons _ (Eq.trans (ap_pass (C := (f13_C_c12 k R_l4)) (fun _ => rfl)) (ap_cons _ (f13_f_c12 k R_l4))))))))) (ap_cons _ (ap_cons _ (ap_cons _ (ap_cons _ (Eq.trans ap_sq (Eq.trans ap_sq (ap_cons _ (Eq.trans (ap_bl 6) (Eq.trans (ap_j (Eq.trans (ap_lp (C := (f13_C_l6 k)) (fun _ _ => rfl)) (ap_cons _ (Eq.trans (ap_blkb (C := (f13_C_b6 k)) (fun _ => rfl)) (ap_cons _ (f13_f_b6 k)))))) (ap_cons _ (f13_f_b6 k))))))))))))))))))
noncomputable def f13_F_c19 (k : Nat) (G_l6 G_b6 : f13_S) : f13_L := .blk 7 :: .c (f13_p 8103) 6 :: .j (fun σ => G_l6 (cut f13_A.loops 6 σ)) :: .b 6 (fun σ => G_b6 (cut f13_A.blks 6 σ)) :: f13_F_b6 k
theorem f13_f_c19 (k : Nat) (R_l6 : f13_S) : f13_a k (f13_Q_c19 k R_l6) = f13_a k (f13_F_c19 k R_l6 (f13_C_b6 k)) := (ap_cons _ (ap_cons _ (ap_cons _ (Eq.trans (ap_blkb (C := (f13_C_b6 k)) (fun _ => rfl)) (ap_cons _ (f13_f_b6 k))))))
noncomputable def f13_F_r18 (k : Nat) (G_l6 G_b6 G_c19 : f13_S) : f13_L := .c (f13_p 129639) 7 :: .j G_c19 :: f13_F_c19 k G_l6 G_b6
theorem f13_f_r18 (k : Nat) (R_l6 : f13_S) : f13_a k (f13_Q_r18 k R_l6) = f13_a k (f13_F_r18 k R_l6 (f13_C_b6 k) (f13_C_c19 k R_l6)) := (ap_cons _ (Eq.trans (ap_pass (C := (f13_C_c19 k R_l6)) (fun _ => rfl)) (ap_cons _ (f13_f_c19 k R_l6))))
noncomputable def f13_F_l6 (k : Nat) (G_l6 G_b6 G_r18 G_c19 : f13_S) : f13_L := .c (f13_p 2024) 6 :: .c (f13_p 4050) 6 :: .j (fun σ => f13_a k (.c (f13_p 32408) 7 :: .c (f13_p 64818) 7 :: .c (f13_p 129638) 7 :: .j G_r18 :: f13_F_r18 k G_l6 G_b6 G_c19) .nx σ) :: .c (f13_p 8103) 6 :: .j (fun σ => G_l6 (cut f13_A.loops 6 σ)) :: .b 6 (fun σ => G_b6 (cut f13_A.blks 6 σ)) :: f13_F_b6 k
theorem f13_f_l6 (k : Nat) (R_l6 : f13_S) : f13_a k (f13_Q_l6 k R_l6) = f13_a k (f13_F_l6 k R_l6 (f13_C_b6 k) (f13_C_r18 k R_l6) (f13_C_c19 k R_l6)) := (Eq.trans ap_sq (ap_cons _ (Eq.trans ap_sq (ap_cons _ (Eq.trans ap_sq (Eq.trans (ap_bl 7) (Eq.trans (ap_j (Eq.trans ap_sq (ap_cons _ (Eq.trans ap_sq (ap_cons _ (Eq.trans ap_sq (ap_cons _ (Eq.trans (ap_pass (C := (f13_C_r18 k R_l6)) (fun _ => rfl)) (ap_cons _ (f13_f_r18 k R_l6)))))))))) (ap_cons _ (ap_cons _ (ap_cons _ (Eq.trans (ap_blkb (C := (f13_C_b6 k)) (fun _ => rfl)) (ap_cons _ (f13_f_b6 k)))))))))))))
def f13_entry_B (k : Nat) (g_l0 : f13_t_l0) (a0 : (List Int)) : Option (Td12 × Unit) := (g_l0 a0 ([] : List (Int × Int)))
def f13_l0_B (k : Nat) (g_r3 : f13_t_r3) (y11_0 : (List Int)) (y39 : (List (Int × Int))) : Option (Td12 × Unit) := ((f43 k y11_0 7).bind fun r1 => (if (y39.length : Int) < (w64 (2 + r1.2.1)) then (g_r3 r1.1.1.1 y39 true) else (g_r3 r1.1.1.1 y39 (decide ((y39.length : Int) < 2)))))
def f13_r3_B (k : Nat) (g_l2 : f13_t_l2) (g_l4 : f13_t_l4) (y11_0 : (List Int)) (y39 : (List (Int × Int))) (x24 : Bool) : Option (Td12 × Unit) := (if x24 = true then ((f44 k y11_0).bind fun r1 => (g_l2 r1.1.1.1 y39 r1.2.1.1 r1.2.1.2)) else ((f43 k y11_0 17).bind fun r2 => (g_l4 r2.1.1.1 y39 ([] : List (Int × (Int × (Int × Int)))) r2.2.1 0)))
def f13_l2_B (k : Nat) (g_l0 : f13_t_l0) (g_l2 : f13_t_l2) (y11_0 : (List Int)) (y39 : (List (Int × Int))) (y5_0 : Int) (y5_1 : Int) : Option (Td12 × Unit) := ((f45 k y39 (y5_0, y5_1)).bind fun r1 => (if r1.1 = true then (g_l2 y11_0 y39 (w64 (y5_0 + 1)) y5_1) else (if (y39.length + 1) * 16 ≤ 140737488355328 then (g_l0 y11_0 (y39 ++ [(y5_0, y5_1)])) else none)))
def f13_l4_B (k : Nat) (g_c12 : f13_t_c12) (g_l6 : f13_t_l6) (y11_0 : (List Int)) (y39 : (List (Int × Int))) (y69 : (List (Int × (Int × (Int × Int))))) (x42 : Int) (x43 : Int) : Option (Td12 × Unit) := (if x43 < x42 then ((f43 k y11_0 (y39.length : Int)).bind fun r1 => ((f43 k r1.1.1.1 (y39.length : Int)).bind fun r2 => (if ¬ (r1.2.1 = r2.2.1) then ((f43 k r2.1.1.1 20).bind fun r3 => ((f43 k r3.1.1.1 5).bind fun r4 => (if (y69.length + 1) * 32 ≤ 140737488355328 then (g_c12 r4.1.1.1 y39 (y69 ++ [(r1.2.1, (r2.2.1, (w64 (1 + r3.2.1), r4.2.1)))]) x42 x43) else none))) else (g_c12 r2.1.1.1 y39 y69 x42 x43)))) else ((f43 k y11_0 4).bind fun r5 => (g_l6 r5.1.1.1 ([] : List (Int × Int)) y39 y69 r5.2.1 0)))
def f13_c12_B (k : Nat) (g_l4 : f13_t_l4) (y11_0 : (List Int)) (y39 : (List (Int × Int))) (y69 : (List (Int × (Int × (Int × Int))))) (x42 : Int) (x43 : Int) : Option (Td12 × Unit) := (g_l4 y11_0 y39 y69 x42 (w64 (x43 + 1)))
def f13_l6_B (k : Nat) (g_b6 : f13_t_b6) (g_r18 : f13_t_r18) (y11_0 : (List Int)) (y117 : (List (Int × Int))) (y39 : (List (Int × Int))) (y69 : (List (Int × (Int × (Int × Int))))) (x73 : Int) (x74 : Int) : Option (Td12 × Unit) := (if x74 < x73 then (if (y69.length : Int) = 0 then (g_b6 y117 y39 y69) else ((f43 k y11_0 (y69.length : Int)).bind fun r1 => ((f43 k r1.1.1.1 (y69.length : Int)).bind fun r2 => (if 0 ≤ r1.2.1 then (if r1.2.1 < (y69.length : Int) then (if 0 ≤ r2.2.1 then (if r2.2.1 < (y69.length : Int) then (if (((y69.getD ((r1.2.1).toNat) (0, (0, (0, 0)))).2).1) = ((y69.getD ((r2.2.1).toNat) (0, (0, (0, 0)))).1) then ((f46 k y117 (r1.2.1, r2.2.1)).bind fun r3 => (g_r18 r2.1.1.1 y117 y39 y69 r1.2.1 r2.2.1 (decide (¬ (r3.1 = true))) x73 x74)) else (g_r18 r2.1.1.1 y117 y39 y69 r1.2.1 r2.2.1 false x73 x74)) else none) else none) else none) else none)))) else (g_b6 y117 y39 y69))
def f13_b6_B (k : Nat) (y117 : (List (Int × Int))) (y39 : (List (Int × Int))) (y69 : (List (Int × (Int × (Int × Int))))) : Option (Td12 × Unit) := ((f47 k y117 ()).bind fun r1 => some ((y39, (y69, r1.1.1)), ()))
def f13_r18_B (k : Nat) (g_c19 : f13_t_c19) (y11_0 : (List Int)) (y117 : (List (Int × Int))) (y39 : (List (Int × Int))) (y69 : (List (Int × (Int × (Int × Int))))) (y8_0 : Int) (y8_1 : Int) (x112 : Bool) (x73 : Int) (x74 : Int) : Option (Td12 × Unit) := (if x112 = true then (if (y117.length + 1) * 16 ≤ 140737488355328 then (g_c19 y11_0 (y117 ++ [(y8_0, y8_1)]) y39 y69 x73 x74) else none) else (g_c19 y11_0 y117 y39 y69 x73 x74))
def f13_c19_B (k : Nat) (g_l6 : f13_t_l6) (y11_0 : (List Int)) (y117 : (List (Int × Int))) (y39 : (List (Int × Int))) (y69 : (List (Int × (Int × (Int × Int))))) (x73 : Int) (x74 : Int) : Option (Td12 × Unit) := (g_l6 y11_0 y117 y39 y69 x73 (w64 (x74 + 1)))
theorem f13_l2_P (k : Nat) (G_l0 G_l2 G_l4 G_l6 G_b6 : f13_S) : f13_o_l2 (fun σ => f13_a k (f13_F_l2 k G_l0 G_l2 G_l4 G_l6 G_b6) .nx σ) = f13_l2_B k (f13_o_l0 G_l0) (f13_o_l2 G_l2) := by kernel_rfl
def f13_l2 (k : Nat) (r_l0 : f13_t_l0) : Nat → f13_t_l2
  | 0 => fun _ _ _ _ => none
  | n + 1 => f13_l2_B k r_l0 (f13_l2 k r_l0 n)
theorem f13_l2_E (k : Nat) (R_l0 : f13_S) : ∀ n, f13_o_l2 (f13_C_l2 k R_l0 n) = f13_l2 k (f13_o_l0 R_l0) n
  | 0 => rfl
  | n + 1 =>
    Eq.trans (congrArg f13_o_l2 (Eq.trans (b := fun σ => f13_a k (f13_Q_l2 k R_l0 (f13_C_l2 k R_l0 n)) .nx σ) (by kernel_rfl) (ap_fn (f13_f_l2 k R_l0 (f13_C_l2 k R_l0 n))))) ((f13_l2_P k R_l0 (f13_C_l2 k R_l0 n) (f13_C_l4 k k) (f13_C_l6 k k) (f13_C_b6 k)).trans (by rw [f13_l2_E k R_l0 n] <;> rfl))
theorem f13_c12_P (k : Nat) (G_l4 G_l6 G_b6 : f13_S) : f13_o_c12 (fun σ => f13_a k (f13_F_c12 k G_l4 G_l6 G_b6) .nx σ) = f13_c12_B k (f13_o_l4 G_l4) := by kernel_rfl
def f13_c12 (k : Nat) (r_l4 : f13_t_l4) : f13_t_c12 := f13_c12_B k r_l4
theorem f13_c12_E (k : Nat) (R_l4 : f13_S) : f13_o_c12 (f13_C_c12 k R_l4) = f13_c12 k (f13_o_l4 R_l4) :=
  Eq.trans (congrArg f13_o_c12 (ap_fn (f13_f_c12 k R_l4))) ((f13_c12_P k R_l4 (f13_C_l6 k k) (f13_C_b6 k)).trans (by rfl))
theorem f13_b6_P (k : Nat) : f13_o_b6 (fun σ => f13_a k (f13_F_b6 k) .nx σ) = f13_b6_B k := by kernel_rfl
def f13_b6 (k : Nat) : f13_t_b6 := f13_b6_B k
theorem f13_b6_E (k : Nat) : f13_o_b6 (f13_C_b6 k) = f13_b6 k :=
  Eq.trans (congrArg f13_o_b6 (ap_fn (f13_f_b6 k))) ((f13_b6_P k).trans (by rfl))
theorem f13_c19_P (k : Nat) (G_l6 G_b6 : f13_S) : f13_o_c19 (fun σ => f13_a k (f13_F_c19 k G_l6 G_b6) .nx σ) = f13_c19_B k (f13_o_l6 G_l6) := by kernel_rfl
def f13_c19 (k : Nat) (r_l6 : f13_t_l6) : f13_t_c19 := f13_c19_B k r_l6
theorem f13_c19_E (k : Nat) (R_l6 : f13_S) : f13_o_c19 (f13_C_c19 k R_l6) = f13_c19 k (f13_o_l6 R_l6) :=
  Eq.trans (congrArg f13_o_c19 (ap_fn (f13_f_c19 k R_l6))) ((f13_c19_P k R_l6 (f13_C_b6 k)).trans (by rfl))
theorem f13_r18_P (k : Nat) (G_l6 G_b6 G_c19 : f13_S) : f13_o_r18 (fun σ => f13_a k (f13_F_r18 k G_l6 G_b6 G_c19) .nx σ) = f13_r18_B k (f13_o_c19 G_c19) := by kernel_rfl
def f13_r18 (k : Nat) (r_l6 : f13_t_l6) : f13_t_r18 := f13_r18_B k (f13_c19 k r_l6)
theorem f13_r18_E (k : Nat) (R_l6 : f13_S) : f13_o_r18 (f13_C_r18 k R_l6) = f13_r18 k (f13_o_l6 R_l6) :=
  Eq.trans (congrArg f13_o_r18 (ap_fn (f13_f_r18 k R_l6))) ((f13_r18_P k R_l6 (f13_C_b6 k) (f13_C_c19 k R_l6)).trans (by rw [f13_c19_E k R_l6] <;> rfl))
theorem f13_l6_P (k : Nat) (G_l6 G_b6 G_r18 G_c19 : f13_S) : f13_o_l6 (fun σ => f13_a k (f13_F_l6 k G_l6 G_b6 G_r18 G_c19) .nx σ) = f13_l6_B k (f13_o_b6 G_b6) (f13_o_r18 G_r18) := by kernel_rfl
def f13_l6 (k : Nat) : Nat → f13_t_l6
  | 0 => fun _ _ _ _ _ _ => none
  | n + 1 => f13_l6_B k (f13_b6 k) (f13_r18 k (f13_l6 k n))
theorem f13_l6_E (k : Nat) : ∀ n, f13_o_l6 (f13_C_l6 k n) = f13_l6 k n
  | 0 => rfl
  | n + 1 =>
    Eq.trans (congrArg f13_o_l6 (Eq.trans (b := fun σ => f13_a k (f13_Q_l6 k (f13_C_l6 k n)) .nx σ) (by kernel_rfl) (ap_fn (f13_f_l6 k (f13_C_l6 k n))))) ((f13_l6_P k (f13_C_l6 k n) (f13_C_b6 k) (f13_C_r18 k (f13_C_l6 k n)) (f13_C_c19 k (f13_C_l6 k n))).trans (by rw [f13_b6_E k, f13_r18_E k (f13_C_l6 k n), f13_l6_E k n] <;> rfl))
theorem f13_l4_P (k : Nat) (G_l4 G_c12 G_l6 G_b6 : f13_S) : f13_o_l4 (fun σ => f13_a k (f13_F_l4 k G_l4 G_c12 G_l6 G_b6) .nx σ) = f13_l4_B k (f13_o_c12 G_c12) (f13_o_l6 G_l6) := by kernel_rfl
def f13_l4 (k : Nat) : Nat → f13_t_l4
  | 0 => fun _ _ _ _ _ => none
  | n + 1 => f13_l4_B k (f13_c12 k (f13_l4 k n)) (f13_l6 k k)
theorem f13_l4_E (k : Nat) : ∀ n, f13_o_l4 (f13_C_l4 k n) = f13_l4 k n
  | 0 => rfl
  | n + 1 =>
    Eq.trans (congrArg f13_o_l4 (Eq.trans (b := fun σ => f13_a k (f13_Q_l4 k (f13_C_l4 k n)) .nx σ) (by kernel_rfl) (ap_fn (f13_f_l4 k (f13_C_l4 k n))))) ((f13_l4_P k (f13_C_l4 k n) (f13_C_c12 k (f13_C_l4 k n)) (f13_C_l6 k k) (f13_C_b6 k)).trans (by rw [f13_c12_E k (f13_C_l4 k n), f13_l6_E k k, f13_l4_E k n] <;> rfl))
theorem f13_r3_P (k : Nat) (G_l0 G_l2 G_l4 G_l6 G_b6 : f13_S) : f13_o_r3 (fun σ => f13_a k (f13_F_r3 k G_l0 G_l2 G_l4 G_l6 G_b6) .nx σ) = f13_r3_B k (f13_o_l2 G_l2) (f13_o_l4 G_l4) := by kernel_rfl
def f13_r3 (k : Nat) (r_l0 : f13_t_l0) : f13_t_r3 := f13_r3_B k (f13_l2 k r_l0 k) (f13_l4 k k)
theorem f13_r3_E (k : Nat) (R_l0 : f13_S) : f13_o_r3 (f13_C_r3 k R_l0) = f13_r3 k (f13_o_l0 R_l0) :=
  Eq.trans (congrArg f13_o_r3 (ap_fn (f13_f_r3 k R_l0))) ((f13_r3_P k R_l0 (f13_C_l2 k R_l0 k) (f13_C_l4 k k) (f13_C_l6 k k) (f13_C_b6 k)).trans (by rw [f13_l2_E k R_l0 k, f13_l4_E k k] <;> rfl))
theorem f13_l0_P (k : Nat) (G_l0 G_r3 G_l2 G_l4 G_l6 G_b6 : f13_S) : f13_o_l0 (fun σ => f13_a k (f13_F_l0 k G_l0 G_r3 G_l2 G_l4 G_l6 G_b6) .nx σ) = f13_l0_B k (f13_o_r3 G_r3) := by kernel_rfl
def f13_l0 (k : Nat) : Nat → f13_t_l0
  | 0 => fun _ _ => none
  | n + 1 => f13_l0_B k (f13_r3 k (f13_l0 k n))
theorem f13_l0_E (k : Nat) : ∀ n, f13_o_l0 (f13_C_l0 k n) = f13_l0 k n
  | 0 => rfl
  | n + 1 =>
    Eq.trans (congrArg f13_o_l0 (Eq.trans (b := fun σ => f13_a k (f13_Q_l0 k (f13_C_l0 k n)) .nx σ) (by kernel_rfl) (ap_fn (f13_f_l0 k (f13_C_l0 k n))))) ((f13_l0_P k (f13_C_l0 k n) (f13_C_r3 k (f13_C_l0 k n)) (f13_C_l2 k (f13_C_l0 k n) k) (f13_C_l4 k k) (f13_C_l6 k k) (f13_C_b6 k)).trans (by rw [f13_r3_E k (f13_C_l0 k n), f13_l0_E k n] <;> rfl))
theorem f13_entry_P (k : Nat) (G_l0 G_l4 G_l6 G_b6 : f13_S) (xs : DL f13_sig) : f13_a k (.c (f13_p 2) 0 :: .c (f13_p 6) 0 :: .c (f13_p 14) 0 :: .j (fun σ => f13_a k (.j (fun σ => G_l0 (cut f13_A.loops 0 σ)) :: .blk 0 :: .c (f13_p 124) 0 :: .j (fun σ => f13_a k (.j (fun σ => G_l4 (cut f13_A.loops 4 σ)) :: .blk 4 :: .c (f13_p 252) 0 :: .j (fun σ => f13_a k (.j (fun σ => G_l6 (cut f13_A.loops 6 σ)) :: .b 6 (fun σ => G_b6 (cut f13_A.blks 6 σ)) :: f13_F_b6 k) .nx σ) :: f13_F_b6 k) .nx σ) :: .c (f13_p 252) 0 :: .j (fun σ => f13_a k (.j (fun σ => G_l6 (cut f13_A.loops 6 σ)) :: .b 6 (fun σ => G_b6 (cut f13_A.blks 6 σ)) :: f13_F_b6 k) .nx σ) :: f13_F_b6 k) .nx σ) :: .c (f13_p 124) 0 :: .j (fun σ => f13_a k (.j (fun σ => G_l4 (cut f13_A.loops 4 σ)) :: .blk 4 :: .c (f13_p 252) 0 :: .j (fun σ => f13_a k (.j (fun σ => G_l6 (cut f13_A.loops 6 σ)) :: .b 6 (fun σ => G_b6 (cut f13_A.blks 6 σ)) :: f13_F_b6 k) .nx σ) :: f13_F_b6 k) .nx σ) :: .c (f13_p 252) 0 :: .j (fun σ => f13_a k (.j (fun σ => G_l6 (cut f13_A.loops 6 σ)) :: .b 6 (fun σ => G_b6 (cut f13_A.blks 6 σ)) :: f13_F_b6 k) .nx σ) :: f13_F_b6 k) .nx (σ0 124 384 f13_sig xs) = f13_entry_B k (f13_o_l0 G_l0) xs.1 := by kernel_rfl
def f13 (k : Nat) (a0 : (List Int)) : Option (Td12 × Unit) := f13_entry_B k (f13_l0 k k) a0
theorem f13_fe (k : Nat) : f13_a k [.c (f13_p 1) 0] = f13_a k (.c (f13_p 2) 0 :: .c (f13_p 6) 0 :: .c (f13_p 14) 0 :: .j (fun σ => f13_a k (.j (fun σ => (f13_C_l0 k k) (cut f13_A.loops 0 σ)) :: .blk 0 :: .c (f13_p 124) 0 :: .j (fun σ => f13_a k (.j (fun σ => (f13_C_l4 k k) (cut f13_A.loops 4 σ)) :: .blk 4 :: .c (f13_p 252) 0 :: .j (fun σ => f13_a k (.j (fun σ => (f13_C_l6 k k) (cut f13_A.loops 6 σ)) :: .b 6 (fun σ => (f13_C_b6 k) (cut f13_A.blks 6 σ)) :: f13_F_b6 k) .nx σ) :: f13_F_b6 k) .nx σ) :: .c (f13_p 252) 0 :: .j (fun σ => f13_a k (.j (fun σ => (f13_C_l6 k k) (cut f13_A.loops 6 σ)) :: .b 6 (fun σ => (f13_C_b6 k) (cut f13_A.blks 6 σ)) :: f13_F_b6 k) .nx σ) :: f13_F_b6 k) .nx σ) :: .c (f13_p 124) 0 :: .j (fun σ => f13_a k (.j (fun σ => (f13_C_l4 k k) (cut f13_A.loops 4 σ)) :: .blk 4 :: .c (f13_p 252) 0 :: .j (fun σ => f13_a k (.j (fun σ => (f13_C_l6 k k) (cut f13_A.loops 6 σ)) :: .b 6 (fun σ => (f13_C_b6 k) (cut f13_A.blks 6 σ)) :: f13_F_b6 k) .nx σ) :: f13_F_b6 k) .nx σ) :: .c (f13_p 252) 0 :: .j (fun σ => f13_a k (.j (fun σ => (f13_C_l6 k k) (cut f13_A.loops 6 σ)) :: .b 6 (fun σ => (f13_C_b6 k) (cut f13_A.blks 6 σ)) :: f13_F_b6 k) .nx σ) :: f13_F_b6 k) := (Eq.trans ap_sq (ap_cons _ (Eq.trans ap_sq (ap_cons _ (Eq.trans ap_sq (ap_cons _ (Eq.trans ap_sq (Eq.trans (ap_bl 0) (Eq.trans (ap_j (Eq.trans (ap_lp (C := (f13_C_l0 k)) (fun _ _ => rfl)) (ap_cons _ (ap_cons _ (Eq.trans ap_sq (Eq.trans ap_sq (ap_cons _ (Eq.trans (ap_bl 4) (Eq.trans (ap_j (Eq.trans (ap_lp (C := (f13_C_l4 k)) (fun _ _ => rfl)) (ap_cons _ (ap_cons _ (Eq.trans ap_sq (Eq.trans ap_sq (ap_cons _ (Eq.trans (ap_bl 6) (Eq.trans (ap_j (Eq.trans (ap_lp (C := (f13_C_l6 k)) (fun _ _ => rfl)) (ap_cons _ (Eq.trans (ap_blkb (C := (f13_C_b6 k)) (fun _ => rfl)) (ap_cons _ (f13_f_b6 k)))))) (ap_cons _ (f13_f_b6 k))))))))))) (ap_cons _ (Eq.trans ap_sq (Eq.trans ap_sq (ap_cons _ (Eq.trans (ap_bl 6) (Eq.trans (ap_j (Eq.trans (ap_lp (C := (f13_C_l6 k)) (fun _ _ => rfl)) (ap_cons _ (Eq.trans (ap_blkb (C := (f13_C_b6 k)) (fun _ => rfl)) (ap_cons _ (f13_f_b6 k)))))) (ap_cons _ (f13_f_b6 k))))))))))))))))) (ap_cons _ (Eq.trans ap_sq (Eq.trans ap_sq (ap_cons _ (Eq.trans (ap_bl 4) (Eq.trans (ap_j (Eq.trans (ap_lp (C := (f13_C_l4 k)) (fun _ _ => rfl)) (ap_cons _ (ap_cons _ (Eq.trans ap_sq (Eq.trans ap_sq (ap_cons _ (Eq.trans (ap_bl 6) (Eq.trans (ap_j (Eq.trans (ap_lp (C := (f13_C_l6 k)) (fun _ _ => rfl)) (ap_cons _ (Eq.trans (ap_blkb (C := (f13_C_b6 k)) (fun _ => rfl)) (ap_cons _ (f13_f_b6 k)))))) (ap_cons _ (f13_f_b6 k))))))))))) (ap_cons _ (Eq.trans ap_sq (Eq.trans ap_sq (ap_cons _ (Eq.trans (ap_bl 6) (Eq.trans (ap_j (Eq.trans (ap_lp (C := (f13_C_l6 k)) (fun _ _ => rfl)) (ap_cons _ (Eq.trans (ap_blkb (C := (f13_C_b6 k)) (fun _ => rfl)) (ap_cons _ (f13_f_b6 k)))))) (ap_cons _ (f13_f_b6 k)))))))))))))))))))))))
theorem f13_eq (k : Nat) (xs : DL f13_sig) : den T f13_Y (f13_E k) f13_A k f13_c 0 (σ0 124 384 f13_sig xs) (Kfin T f13_rs f13_ts) = f13 k xs.1 :=
  Eq.trans (Eq.trans den_sb (ap_at (f13_fe k) _)) ((f13_entry_P k (f13_C_l0 k k) (f13_C_l4 k k) (f13_C_l6 k k) (f13_C_b6 k) xs).trans (by rw [f13_l0_E k k] <;> rfl))
noncomputable def f13_con (k : Nat) : Con := ⟨f13_sig, f13_rs, fun xs => f13 k xs.1⟩
theorem f13_ok (k : Nat) : PureOK Try.prog 13 f13_sig f13_rs (fun xs => f13 k xs.1) :=
  (pure_of_den (k := k) (A := f13_A) (T := T) (Y := f13_Y) (E := f13_E k) (M := 384) (ts := f13_ts) T_ok ⟨f43_ok k, f44_ok k, f45_ok k, f46_ok k, f47_ok k, trivial⟩ ⟨f43_ent, f44_ent, f45_ent, f46_ent, f47_ent, trivial⟩ mixed (f := 13) (fn := Try.f13) (c := f13_c) (by kernel_rfl) (by kernel_rfl) (by kernel_rfl) (by decide) (by kernel_rfl)).congr fun xs => (f13_eq k xs).symm
theorem f13_ent : Ent Try.prog 13 := fun args w => by kernel_rfl
/-! ### slices.Equal[[]int,int]: function 20 -/
noncomputable def f20_c : Code := Try.f20.body.getD .skip
noncomputable abbrev f20_p (n : Nat) : Code := sb f20_c n
abbrev f20_sig : List PT := [(false, Tq1), (false, Tq1)]
abbrev f20_rs : List RT := [.d false .bool]
abbrev f20_ts : List RV := [.tmp 4]
abbrev f20_S := St → Option (RDL f20_rs)
abbrev f20_L := List (Fr (RDL f20_rs))
def f20_Y : Tys := []
noncomputable def f20_E (k : Nat) : Env := []
def f20_A : Ann := { loops := [(0, { slots := [(0, .val false (.int .i64)), (1, .val false (.int .i64)), (12, .id), (13, .id)] })] }
noncomputable abbrev f20_a (k : Nat) (F : f20_L) : Kont (RDL f20_rs) := ap T f20_Y (f20_E k) f20_A k (Kfin T f20_rs f20_ts) F
def f20_s_l0 (x0 : (List Int)) (x1 : (List Int)) (x12 : Int) (x13 : Int) : St := mkS 26 80 [(0, aV (.int .i64) x0), (1, aV (.int .i64) x1), (12, aI x12), (13, aI x13)] []
abbrev f20_t_l0 := (List Int) → (List Int) → Int → Int → Option (Bool × Unit)
abbrev f20_o_l0 (R : f20_S) : f20_t_l0 := (fun x0 x1 x12 x13 => R (f20_s_l0 x0 x1 x12 x13))
noncomputable def f20_Q_l0 (k : Nat) (R_l0 : f20_S) : f20_L := [.c (f20_p 116) 0, .j (fun σ => R_l0 (cut f20_A.loops 0 σ)), .blk 0, .c (f20_p 15) 0]
noncomputable def f20_C_l0 (k : Nat) (n : Nat) (σ : St) : Option (RDL f20_rs) := loopK (fun σ K => den T f20_Y (f20_E k) f20_A k (f20_p 116) 0 σ K) (cut f20_A.loops 0) (f20_a k [.blk 0, .c (f20_p 15) 0]) n σ
noncomputable def f20_F_l0 (k : Nat) (G_l0 : f20_S) : f20_L := .c (f20_p 116) 0 :: .j (fun σ => G_l0 (cut f20_A.loops 0 σ)) :: .blk 0 :: .c (f20_p 15) 0 :: []
theorem f20_f_l0 (k : Nat) (R_l0 : f20_S) : f20_a k (f20_Q_l0 k R_l0) = f20_a k (f20_F_l0 k R_l0) := (ap_cons _ (ap_cons _ (ap_cons _ (ap_cons _ rfl))))
def f20_entry_B (k : Nat) (g_l0 : f20_t_l0) (a0 : (List Int)) (a1 : (List Int)) : Option (Bool × Unit) := (if ¬ ((a0.length : Int) = (a1.length : Int)) then some (false, ()) else (g_l0 a0 a1 (a0.length : Int) 0))
def f20_l0_B (k : Nat) (g_l0 : f20_t_l0) (x0 : (List Int)) (x1 : (List Int)) (x12 : Int) (x13 : Int) : Option (Bool × Unit) := (if x13 < x12 then (if 0 ≤ x13 then (if x13 < (x0.length : Int) then (if 0 ≤ x13 then (if x13 < (x1.length : Int) then (if ¬ ((x0.getD (x13).toNat 0) = (x1.getD (x13).toNat 0)) then some (false, ()) else (g_l0 x0 x1 x12 (w64 (x13 + 1)))) else none) else none) else none) else none) else some (true, ()))
theorem f20_l0_P (k : Nat) (G_l0 : f20_S) : f20_o_l0 (fun σ => f20_a k (f20_F_l0 k G_l0) .nx σ) = f20_l0_B k (f20_o_l0 G_l0) := by kernel_rfl
def f20_l0 (k : Nat) : Nat → f20_t_l0
  | 0 => fun _ _ _ _ => none
  | n + 1 => f20_l0_B k (f20_l0 k n)
theorem f20_l0_E (k : Nat) : ∀ n, f20_o_l0 (f20_C_l0 k n) = f20_l0 k n
  | 0 => rfl
  | n + 1 =>
    Eq.trans (congrArg f20_o_l0 (Eq.trans (b := fun σ => f20_a k (f20_Q_l0 k (f20_C_l0 k n)) .nx σ) (by kernel_rfl) (ap_fn (f20_f_l0 k (f20_C_l0 k n))))) ((f20_l0_P k (f20_C_l0 k n)).trans (by rw [f20_l0_E k n] <;> rfl))
theorem f20_entry_P (k : Nat) (G_l0 : f20_S) (xs : DL f20_sig) : f20_a k (.c (f20_p 2) 0 :: .c (f20_p 6) 0 :: .c (f20_p 28) 0 :: .j (fun σ => f20_a k (.j (fun σ => G_l0 (cut f20_A.loops 0 σ)) :: .blk 0 :: .c (f20_p 15) 0 :: []) .nx σ) :: .c (f20_p 15) 0 :: []) .nx (σ0 26 80 f20_sig xs) = f20_entry_B k (f20_o_l0 G_l0) xs.1 xs.2.1 := by kernel_rfl
def f20 (k : Nat) (a0 : (List Int)) (a1 : (List Int)) : Option (Bool × Unit) := f20_entry_B k (f20_l0 k k) a0 a1
theorem f20_fe (k : Nat) : f20_a k [.c (f20_p 1) 0] = f20_a k (.c (f20_p 2) 0 :: .c (f20_p 6) 0 :: .c (f20_p 28) 0 :: .j (fun σ => f20_a k (.j (fun σ => (f20_C_l0 k k) (cut f20_A.loops 0 σ)) :: .blk 0 :: .c (f20_p 15) 0 :: []) .nx σ) :: .c (f20_p 15) 0 :: []) := (Eq.trans ap_sq (ap_cons _ (Eq.trans ap_sq (ap_cons _ (Eq.trans ap_sq (Eq.trans ap_sq (ap_cons _ (Eq.trans (ap_bl 0) (Eq.trans (ap_j (Eq.trans (ap_lp (C := (f20_C_l0 k)) (fun _ _ => rfl)) (ap_cons _ (ap_cons _ (ap_cons _ rfl))))) (ap_cons _ (ap_cons _ rfl)))))))))))
theorem f20_eq (k : Nat) (xs : DL f20_sig) : den T f20_Y (f20_E k) f20_A k f20_c 0 (σ0 26 80 f20_sig xs) (Kfin T f20_rs f20_ts) = f20 k xs.1 xs.2.1 :=
  Eq.trans (Eq.trans den_sb (ap_at (f20_fe k) _)) ((f20_entry_P k (f20_C_l0 k k) xs).trans (by rw [f20_l0_E k k] <;> rfl))
noncomputable def f20_con (k : Nat) : Con := ⟨f20_sig, f20_rs, fun xs => f20 k xs.1 xs.2.1⟩
theorem f20_ok (k : Nat) : PureOK Try.prog 20 f20_sig f20_rs (fun xs => f20 k xs.1 xs.2.1) :=
  (pure_of_den (k := k) (A := f20_A) (T := T) (Y := f20_Y) (E := f20_E k) (M := 80) (ts := f20_ts) T_ok trivial trivial mixed (f := 20) (fn := Try.f20) (c := f20_c) (by kernel_rfl) (by kernel_rfl) (by kernel_rfl) (by decide) (by kernel_rfl)).congr fun xs => (f20_eq k xs).symm
theorem f20_ent : Ent Try.prog 20 := fun args w => by kernel_rfl
/-! ### terrier/net.edge: function 62 -/
noncomputable def f62_c : Code := Try.f62.body.getD .skip
noncomputable abbrev f62_p (n : Nat) : Code := sb f62_c n
abbrev f62_sig : List PT := [(true, Tq9), (false, (.int .i64))]
abbrev f62_rs : List RT := [.d false .bool]
abbrev f62_ts : List RV := [.tmp 4]
abbrev f62_S := St → Option (RDL f62_rs)
abbrev f62_L := List (Fr (RDL f62_rs))
def f62_Y : Tys := []
noncomputable def f62_E (k : Nat) : Env := []
def f62_A : Ann := { regs := [(1, { slots := [(4, .bool)] })] }
noncomputable abbrev f62_a (k : Nat) (F : f62_L) : Kont (RDL f62_rs) := ap T f62_Y (f62_E k) f62_A k (Kfin T f62_rs f62_ts) F
def f62_s_r1 (x4 : Bool) : St := mkS 14 48 [(4, aB x4)] []
abbrev f62_t_r1 := Bool → Option (Bool × Unit)
abbrev f62_o_r1 (R : f62_S) : f62_t_r1 := (fun x4 => R (f62_s_r1 x4))
noncomputable def f62_Q_r1 (k : Nat) : f62_L := [.c (f62_p 7) 0]
noncomputable def f62_C_r1 (k : Nat) : f62_S := fun σ => f62_a k (f62_Q_r1 k) .nx σ
noncomputable def f62_F_r1 (k : Nat) : f62_L := .c (f62_p 7) 0 :: []
theorem f62_f_r1 (k : Nat) : f62_a k (f62_Q_r1 k) = f62_a k (f62_F_r1 k) := (ap_cons _ rfl)
def f62_entry_B (k : Nat) (g_r1 : f62_t_r1) (a0 : Td12) (a1 : Int) : Option (Bool × Unit) := (if 0 ≤ a1 then (g_r1 (decide (a1 < (a0.2.1.length : Int)))) else (g_r1 false))
def f62_r1_B (k : Nat) (x4 : Bool) : Option (Bool × Unit) := some (decide (x4 = true), ())
theorem f62_r1_P (k : Nat) : f62_o_r1 (fun σ => f62_a k (f62_F_r1 k) .nx σ) = f62_r1_B k := by kernel_rfl
def f62_r1 (k : Nat) : f62_t_r1 := f62_r1_B k
theorem f62_r1_E (k : Nat) : f62_o_r1 (f62_C_r1 k) = f62_r1 k :=
  Eq.trans (congrArg f62_o_r1 (ap_fn (f62_f_r1 k))) ((f62_r1_P k).trans (by rfl))
theorem f62_entry_P (k : Nat) (G_r1 : f62_S) (xs : DL f62_sig) : f62_a k (.c (f62_p 2) 0 :: .c (f62_p 6) 0 :: .j G_r1 :: f62_F_r1 k) .nx (σ0 14 48 f62_sig xs) = f62_entry_B k (f62_o_r1 G_r1) xs.1 xs.2.1 := by kernel_rfl
def f62 (k : Nat) (a0 : Td12) (a1 : Int) : Option (Bool × Unit) := f62_entry_B k (f62_r1 k) a0 a1
theorem f62_fe (k : Nat) : f62_a k [.c (f62_p 1) 0] = f62_a k (.c (f62_p 2) 0 :: .c (f62_p 6) 0 :: .j (f62_C_r1 k) :: f62_F_r1 k) := (Eq.trans ap_sq (ap_cons _ (Eq.trans ap_sq (ap_cons _ (Eq.trans (ap_pass (C := (f62_C_r1 k)) (fun _ => rfl)) (ap_cons _ (f62_f_r1 k)))))))
theorem f62_eq (k : Nat) (xs : DL f62_sig) : den T f62_Y (f62_E k) f62_A k f62_c 0 (σ0 14 48 f62_sig xs) (Kfin T f62_rs f62_ts) = f62 k xs.1 xs.2.1 :=
  Eq.trans (Eq.trans den_sb (ap_at (f62_fe k) _)) ((f62_entry_P k (f62_C_r1 k) xs).trans (by rw [f62_r1_E k] <;> rfl))
noncomputable def f62_con (k : Nat) : Con := ⟨f62_sig, f62_rs, fun xs => f62 k xs.1 xs.2.1⟩
theorem f62_ok (k : Nat) : PureOK Try.prog 62 f62_sig f62_rs (fun xs => f62 k xs.1 xs.2.1) :=
  (pure_of_den (k := k) (A := f62_A) (T := T) (Y := f62_Y) (E := f62_E k) (M := 48) (ts := f62_ts) T_ok trivial trivial mixed (f := 62) (fn := Try.f62) (c := f62_c) (by kernel_rfl) (by kernel_rfl) (by kernel_rfl) (by decide) (by kernel_rfl)).congr fun xs => (f62_eq k xs).symm
theorem f62_ent : Ent Try.prog 62 := fun args w => by kernel_rfl
/-! ### terrier/point.limit: function 105 -/
noncomputable def f105_c : Code := Try.f105.body.getD .skip
noncomputable abbrev f105_p (n : Nat) : Code := sb f105_c n
abbrev f105_sig : List PT := [(false, (.int .i64)), (false, (.int .i64))]
abbrev f105_rs : List RT := [.d false (.int .i64)]
abbrev f105_ts : List RV := [.tmp 4]
abbrev f105_S := St → Option (RDL f105_rs)
abbrev f105_L := List (Fr (RDL f105_rs))
def f105_Y : Tys := []
noncomputable def f105_E (k : Nat) : Env := []
def f105_A : Ann := {}
noncomputable abbrev f105_a (k : Nat) (F : f105_L) : Kont (RDL f105_rs) := ap T f105_Y (f105_E k) f105_A k (Kfin T f105_rs f105_ts) F
def f105_entry_B (k : Nat) (a0 : Int) (a1 : Int) : Option (Int × Unit) := some ((mx2 true (w64 (0 - a1)) (mx2 false a0 a1)), ())
theorem f105_entry_P (k : Nat) (xs : DL f105_sig) : f105_a k (.c (f105_p 1) 0 :: []) .nx (σ0 11 48 f105_sig xs) = f105_entry_B k xs.1 xs.2.1 := by kernel_rfl
def f105 (k : Nat) (a0 : Int) (a1 : Int) : Option (Int × Unit) := f105_entry_B k a0 a1
theorem f105_eq (k : Nat) (xs : DL f105_sig) : den T f105_Y (f105_E k) f105_A k f105_c 0 (σ0 11 48 f105_sig xs) (Kfin T f105_rs f105_ts) = f105 k xs.1 xs.2.1 :=
  Eq.trans (Eq.trans den_sb (ap_at (ap_cons _ rfl) _)) ((f105_entry_P k xs).trans (by rfl))
noncomputable def f105_con (k : Nat) : Con := ⟨f105_sig, f105_rs, fun xs => f105 k xs.1 xs.2.1⟩
theorem f105_ok (k : Nat) : PureOK Try.prog 105 f105_sig f105_rs (fun xs => f105 k xs.1 xs.2.1) :=
  (pure_of_den (k := k) (A := f105_A) (T := T) (Y := f105_Y) (E := f105_E k) (M := 48) (ts := f105_ts) T_ok trivial trivial mixed (f := 105) (fn := Try.f105) (c := f105_c) (by kernel_rfl) (by kernel_rfl) (by kernel_rfl) (by decide) (by kernel_rfl)).congr fun xs => (f105_eq k xs).symm
theorem f105_ent : Ent Try.prog 105 := fun args w => by kernel_rfl
/-! ### terrier/point.Clamp: function 76 -/
noncomputable def f76_c : Code := Try.f76.body.getD .skip
noncomputable abbrev f76_p (n : Nat) : Code := sb f76_c n
abbrev f76_sig : List PT := [(true, Tq2)]
abbrev f76_rs : List RT := [.d true Tq2]
abbrev f76_ts : List RV := [.cell 2 36]
abbrev f76_S := St → Option (RDL f76_rs)
abbrev f76_L := List (Fr (RDL f76_rs))
def f76_Y : Tys := []
noncomputable def f76_E (k : Nat) : Env := [(105, .c (f105_con k))]
def f76_A : Ann := {}
noncomputable abbrev f76_a (k : Nat) (F : f76_L) : Kont (RDL f76_rs) := ap T f76_Y (f76_E k) f76_A k (Kfin T f76_rs f76_ts) F
def f76_entry_B (k : Nat) (a0 : (Int × Int)) : Option ((Int × Int) × Unit) := ((f105 k a0.1 1048576).bind fun r1 => ((f105 k a0.2 1048576).bind fun r2 => some ((r1.1, r2.1), ())))
theorem f76_entry_P (k : Nat) (xs : DL f76_sig) : f76_a k (.c (f76_p 1) 0 :: []) .nx (σ0 10 32 f76_sig xs) = f76_entry_B k xs.1 := by kernel_rfl
def f76 (k : Nat) (a0 : (Int × Int)) : Option ((Int × Int) × Unit) := f76_entry_B k a0
theorem f76_eq (k : Nat) (xs : DL f76_sig) : den T f76_Y (f76_E k) f76_A k f76_c 0 (σ0 10 32 f76_sig xs) (Kfin T f76_rs f76_ts) = f76 k xs.1 :=
  Eq.trans (Eq.trans den_sb (ap_at (ap_cons _ rfl) _)) ((f76_entry_P k xs).trans (by rfl))
noncomputable def f76_con (k : Nat) : Con := ⟨f76_sig, f76_rs, fun xs => f76 k xs.1⟩
theorem f76_ok (k : Nat) : PureOK Try.prog 76 f76_sig f76_rs (fun xs => f76 k xs.1) :=
  (pure_of_den (k := k) (A := f76_A) (T := T) (Y := f76_Y) (E := f76_E k) (M := 32) (ts := f76_ts) T_ok ⟨f105_ok k, trivial⟩ ⟨f105_ent, trivial⟩ mixed (f := 76) (fn := Try.f76) (c := f76_c) (by kernel_rfl) (by kernel_rfl) (by kernel_rfl) (by decide) (by kernel_rfl)).congr fun xs => (f76_eq k xs).symm
theorem f76_ent : Ent Try.prog 76 := fun args w => by kernel_rfl
/-! ### terrier/point.Ok: function 72 -/
noncomputable def f72_c : Code := Try.f72.body.getD .skip
noncomputable abbrev f72_p (n : Nat) : Code := sb f72_c n
abbrev f72_sig : List PT := [(true, Tq2)]
abbrev f72_rs : List RT := [.d false .bool]
abbrev f72_ts : List RV := [.tmp 2]
abbrev f72_S := St → Option (RDL f72_rs)
abbrev f72_L := List (Fr (RDL f72_rs))
def f72_Y : Tys := []
noncomputable def f72_E (k : Nat) : Env := [(76, .c (f76_con k))]
def f72_A : Ann := {}
noncomputable abbrev f72_a (k : Nat) (F : f72_L) : Kont (RDL f72_rs) := ap T f72_Y (f72_E k) f72_A k (Kfin T f72_rs f72_ts) F
def f72_entry_B (k : Nat) (a0 : (Int × Int)) : Option (Bool × Unit) := ((f76 k (a0.1, a0.2)).bind fun r1 => some (decide ((a0.1 = r1.1.1) ∧ (a0.2 = r1.1.2)), ()))
theorem f72_entry_P (k : Nat) (xs : DL f72_sig) : f72_a k (.c (f72_p 1) 0 :: []) .nx (σ0 7 32 f72_sig xs) = f72_entry_B k xs.1 := by kernel_rfl
def f72 (k : Nat) (a0 : (Int × Int)) : Option (Bool × Unit) := f72_entry_B k a0
theorem f72_eq (k : Nat) (xs : DL f72_sig) : den T f72_Y (f72_E k) f72_A k f72_c 0 (σ0 7 32 f72_sig xs) (Kfin T f72_rs f72_ts) = f72 k xs.1 :=
  Eq.trans (Eq.trans den_sb (ap_at (ap_cons _ rfl) _)) ((f72_entry_P k xs).trans (by rfl))
noncomputable def f72_con (k : Nat) : Con := ⟨f72_sig, f72_rs, fun xs => f72 k xs.1⟩
theorem f72_ok (k : Nat) : PureOK Try.prog 72 f72_sig f72_rs (fun xs => f72 k xs.1) :=
  (pure_of_den (k := k) (A := f72_A) (T := T) (Y := f72_Y) (E := f72_E k) (M := 32) (ts := f72_ts) T_ok ⟨f76_ok k, trivial⟩ ⟨f76_ent, trivial⟩ mixed (f := 72) (fn := Try.f72) (c := f72_c) (by kernel_rfl) (by kernel_rfl) (by kernel_rfl) (by decide) (by kernel_rfl)).congr fun xs => (f72_eq k xs).symm
theorem f72_ent : Ent Try.prog 72 := fun args w => by kernel_rfl
/-! ### terrier/net.node: function 73 -/
noncomputable def f73_c : Code := Try.f73.body.getD .skip
noncomputable abbrev f73_p (n : Nat) : Code := sb f73_c n
abbrev f73_sig : List PT := [(true, Tq9), (false, (.int .i64))]
abbrev f73_rs : List RT := [.d false .bool]
abbrev f73_ts : List RV := [.tmp 4]
abbrev f73_S := St → Option (RDL f73_rs)
abbrev f73_L := List (Fr (RDL f73_rs))
def f73_Y : Tys := []
noncomputable def f73_E (k : Nat) : Env := []
def f73_A : Ann := { regs := [(1, { slots := [(4, .bool)] })] }
noncomputable abbrev f73_a (k : Nat) (F : f73_L) : Kont (RDL f73_rs) := ap T f73_Y (f73_E k) f73_A k (Kfin T f73_rs f73_ts) F
def f73_s_r1 (x4 : Bool) : St := mkS 14 48 [(4, aB x4)] []
abbrev f73_t_r1 := Bool → Option (Bool × Unit)
abbrev f73_o_r1 (R : f73_S) : f73_t_r1 := (fun x4 => R (f73_s_r1 x4))
noncomputable def f73_Q_r1 (k : Nat) : f73_L := [.c (f73_p 7) 0]
noncomputable def f73_C_r1 (k : Nat) : f73_S := fun σ => f73_a k (f73_Q_r1 k) .nx σ
noncomputable def f73_F_r1 (k : Nat) : f73_L := .c (f73_p 7) 0 :: []
theorem f73_f_r1 (k : Nat) : f73_a k (f73_Q_r1 k) = f73_a k (f73_F_r1 k) := (ap_cons _ rfl)
def f73_entry_B (k : Nat) (g_r1 : f73_t_r1) (a0 : Td12) (a1 : Int) : Option (Bool × Unit) := (if 0 ≤ a1 then (g_r1 (decide (a1 < (a0.1.length : Int)))) else (g_r1 false))
def f73_r1_B (k : Nat) (x4 : Bool) : Option (Bool × Unit) := some (decide (x4 = true), ())
theorem f73_r1_P (k : Nat) : f73_o_r1 (fun σ => f73_a k (f73_F_r1 k) .nx σ) = f73_r1_B k := by kernel_rfl
def f73_r1 (k : Nat) : f73_t_r1 := f73_r1_B k
theorem f73_r1_E (k : Nat) : f73_o_r1 (f73_C_r1 k) = f73_r1 k :=
  Eq.trans (congrArg f73_o_r1 (ap_fn (f73_f_r1 k))) ((f73_r1_P k).trans (by rfl))
theorem f73_entry_P (k : Nat) (G_r1 : f73_S) (xs : DL f73_sig) : f73_a k (.c (f73_p 2) 0 :: .c (f73_p 6) 0 :: .j G_r1 :: f73_F_r1 k) .nx (σ0 14 48 f73_sig xs) = f73_entry_B k (f73_o_r1 G_r1) xs.1 xs.2.1 := by kernel_rfl
def f73 (k : Nat) (a0 : Td12) (a1 : Int) : Option (Bool × Unit) := f73_entry_B k (f73_r1 k) a0 a1
theorem f73_fe (k : Nat) : f73_a k [.c (f73_p 1) 0] = f73_a k (.c (f73_p 2) 0 :: .c (f73_p 6) 0 :: .j (f73_C_r1 k) :: f73_F_r1 k) := (Eq.trans ap_sq (ap_cons _ (Eq.trans ap_sq (ap_cons _ (Eq.trans (ap_pass (C := (f73_C_r1 k)) (fun _ => rfl)) (ap_cons _ (f73_f_r1 k)))))))
theorem f73_eq (k : Nat) (xs : DL f73_sig) : den T f73_Y (f73_E k) f73_A k f73_c 0 (σ0 14 48 f73_sig xs) (Kfin T f73_rs f73_ts) = f73 k xs.1 xs.2.1 :=
  Eq.trans (Eq.trans den_sb (ap_at (f73_fe k) _)) ((f73_entry_P k (f73_C_r1 k) xs).trans (by rw [f73_r1_E k] <;> rfl))
noncomputable def f73_con (k : Nat) : Con := ⟨f73_sig, f73_rs, fun xs => f73 k xs.1 xs.2.1⟩
theorem f73_ok (k : Nat) : PureOK Try.prog 73 f73_sig f73_rs (fun xs => f73 k xs.1 xs.2.1) :=
  (pure_of_den (k := k) (A := f73_A) (T := T) (Y := f73_Y) (E := f73_E k) (M := 48) (ts := f73_ts) T_ok trivial trivial mixed (f := 73) (fn := Try.f73) (c := f73_c) (by kernel_rfl) (by kernel_rfl) (by kernel_rfl) (by decide) (by kernel_rfl)).congr fun xs => (f73_eq k xs).symm
theorem f73_ent : Ent Try.prog 73 := fun args w => by kernel_rfl
/-! ### terrier/net.Check: function 49 -/
noncomputable def f49_c : Code := Try.f49.body.getD .skip
noncomputable abbrev f49_p (n : Nat) : Code := sb f49_c n
abbrev f49_sig : List PT := [(true, Tq9)]
abbrev f49_rs : List RT := [.d false (.int .i64)]
abbrev f49_ts : List RV := [.tmp 2]
abbrev f49_S := St → Option (RDL f49_rs)
abbrev f49_L := List (Fr (RDL f49_rs))
def f49_Y : Tys := []
noncomputable def f49_E (k : Nat) : Env := [(45, .c (f45_con k)), (46, .c (f46_con k)), (62, .c (f62_con k)), (72, .c (f72_con k)), (73, .c (f73_con k))]
def f49_A : Ann := { regs := [(1, { slots := [(1, .id), (24, .bool)], keys := [(1, [.val false Tq2, .val false Tq6, .val false Tq2])] }), (14, { slots := [(1, .id), (6, .id), (44, .val false Tq6), (45, .id), (46, .id), (71, .bool)], keys := [(1, [.val false Tq2, .val false Tq6, .val false Tq2]), (6, [])] }), (22, { slots := [(1, .id), (7, .id), (8, .id), (79, .val false Tq2), (80, .id), (81, .id), (97, .bool)], keys := [(1, [.val false Tq2, .val false Tq6, .val false Tq2]), (8, [])] })], loops := [(0, { slots := [(1, .id), (26, .val false Tq2), (27, .id), (28, .id)], keys := [(1, [.val false Tq2, .val false Tq6, .val false Tq2])] }), (2, { slots := [(1, .id), (44, .val false Tq6), (45, .id), (46, .id)], keys := [(1, [.val false Tq2, .val false Tq6, .val false Tq2])] }), (4, { slots := [(1, .id), (79, .val false Tq2), (80, .id), (81, .id)], keys := [(1, [.val false Tq2, .val false Tq6, .val false Tq2])] })] }
noncomputable abbrev f49_a (k : Nat) (F : f49_L) : Kont (RDL f49_rs) := ap T f49_Y (f49_E k) f49_A k (Kfin T f49_rs f49_ts) F
def f49_s_r1 (y1_0 : (List (Int × Int))) (y1_1 : (List (Int × (Int × (Int × Int))))) (y1_2 : (List (Int × Int))) (x24 : Bool) : St := mkS 120 368 [(1, aP 1), (24, aB x24)] [(1, .box [cV Tq2 y1_0, cV Tq6 y1_1, cV Tq2 y1_2])]
abbrev f49_t_r1 := (List (Int × Int)) → (List (Int × (Int × (Int × Int)))) → (List (Int × Int)) → Bool → Option (Int × Unit)
abbrev f49_o_r1 (R : f49_S) : f49_t_r1 := (fun y1_0 y1_1 y1_2 x24 => R (f49_s_r1 y1_0 y1_1 y1_2 x24))
noncomputable def f49_Q_r1 (k : Nat) : f49_L := [.c (f49_p 13) 0, .c (f49_p 7) 0]
noncomputable def f49_C_r1 (k : Nat) : f49_S := fun σ => f49_a k (f49_Q_r1 k) .nx σ
def f49_s_l0 (y1_0 : (List (Int × Int))) (y1_1 : (List (Int × (Int × (Int × Int))))) (y1_2 : (List (Int × Int))) (x27 : Int) (x28 : Int) : St := mkS 120 368 [(1, aP 1), (26, aV Tq2 y1_0), (27, aI x27), (28, aI x28)] [(1, .box [cV Tq2 y1_0, cV Tq6 y1_1, cV Tq2 y1_2])]
abbrev f49_t_l0 := (List (Int × Int)) → (List (Int × (Int × (Int × Int)))) → (List (Int × Int)) → Int → Int → Option (Int × Unit)
abbrev f49_o_l0 (R : f49_S) : f49_t_l0 := (fun y1_0 y1_1 y1_2 x27 x28 => R (f49_s_l0 y1_0 y1_1 y1_2 x27 x28))
noncomputable def f49_Q_l0 (k : Nat) (R_l0 : f49_S) : f49_L := [.c (f49_p 116) 0, .j (fun σ => R_l0 (cut f49_A.loops 0 σ)), .blk 0, .c (f49_p 15) 0]
noncomputable def f49_C_l0 (k : Nat) (n : Nat) (σ : St) : Option (RDL f49_rs) := loopK (fun σ K => den T f49_Y (f49_E k) f49_A k (f49_p 116) 0 σ K) (cut f49_A.loops 0) (f49_a k [.blk 0, .c (f49_p 15) 0]) n σ
def f49_s_l2 (y1_0 : (List (Int × Int))) (y1_1 : (List (Int × (Int × (Int × Int))))) (y1_2 : (List (Int × Int))) (x45 : Int) (x46 : Int) : St := mkS 120 368 [(1, aP 1), (44, aV Tq6 y1_1), (45, aI x45), (46, aI x46)] [(1, .box [cV Tq2 y1_0, cV Tq6 y1_1, cV Tq2 y1_2])]
abbrev f49_t_l2 := (List (Int × Int)) → (List (Int × (Int × (Int × Int)))) → (List (Int × Int)) → Int → Int → Option (Int × Unit)
abbrev f49_o_l2 (R : f49_S) : f49_t_l2 := (fun y1_0 y1_1 y1_2 x45 x46 => R (f49_s_l2 y1_0 y1_1 y1_2 x45 x46))
noncomputable def f49_Q_l2 (k : Nat) (R_l2 : f49_S) : f49_L := [.c (f49_p 244) 2, .j (fun σ => R_l2 (cut f49_A.loops 2 σ)), .blk 2, .c (f49_p 31) 0]
noncomputable def f49_C_l2 (k : Nat) (n : Nat) (σ : St) : Option (RDL f49_rs) := loopK (fun σ K => den T f49_Y (f49_E k) f49_A k (f49_p 244) 2 σ K) (cut f49_A.loops 2) (f49_a k [.blk 2, .c (f49_p 31) 0]) n σ
def f49_s_r14 (y1_0 : (List (Int × Int))) (y1_1 : (List (Int × (Int × (Int × Int))))) (y1_2 : (List (Int × Int))) (y6_0 : Int) (y6_1 : Int) (y6_2 : Int) (y6_3 : Int) (x45 : Int) (x46 : Int) (x71 : Bool) : St := mkS 120 368 [(1, aP 1), (6, aP 6), (44, aV Tq6 y1_1), (45, aI x45), (46, aI x46), (71, aB x71)] [(1, .box [cV Tq2 y1_0, cV Tq6 y1_1, cV Tq2 y1_2]), (6, .box [cI y6_0, cI y6_1, cI y6_2, cI y6_3])]
abbrev f49_t_r14 := (List (Int × Int)) → (List (Int × (Int × (Int × Int)))) → (List (Int × Int)) → Int → Int → Int → Int → Int → Int → Bool → Option (Int × Unit)
abbrev f49_o_r14 (R : f49_S) : f49_t_r14 := (fun y1_0 y1_1 y1_2 y6_0 y6_1 y6_2 y6_3 x45 x46 x71 => R (f49_s_r14 y1_0 y1_1 y1_2 y6_0 y6_1 y6_2 y6_3 x45 x46 x71))
noncomputable def f49_Q_r14 (k : Nat) (R_l2 : f49_S) : f49_L := [.c (f49_p 31333) 3, .c (f49_p 15667) 3, .blk 3, .c (f49_p 1959) 2, .j (fun σ => R_l2 (cut f49_A.loops 2 σ)), .blk 2, .c (f49_p 31) 0]
noncomputable def f49_C_r14 (k : Nat) (R_l2 : f49_S) : f49_S := fun σ => f49_a k (f49_Q_r14 k R_l2) .nx σ
def f49_s_l4 (y1_0 : (List (Int × Int))) (y1_1 : (List (Int × (Int × (Int × Int))))) (y1_2 : (List (Int × Int))) (x80 : Int) (x81 : Int) : St := mkS 120 368 [(1, aP 1), (79, aV Tq2 y1_2), (80, aI x80), (81, aI x81)] [(1, .box [cV Tq2 y1_0, cV Tq6 y1_1, cV Tq2 y1_2])]
abbrev f49_t_l4 := (List (Int × Int)) → (List (Int × (Int × (Int × Int)))) → (List (Int × Int)) → Int → Int → Option (Int × Unit)
abbrev f49_o_l4 (R : f49_S) : f49_t_l4 := (fun y1_0 y1_1 y1_2 x80 x81 => R (f49_s_l4 y1_0 y1_1 y1_2 x80 x81))
noncomputable def f49_Q_l4 (k : Nat) (R_l4 : f49_S) : f49_L := [.c (f49_p 500) 4, .j (fun σ => R_l4 (cut f49_A.loops 4 σ)), .blk 4, .c (f49_p 63) 0]
noncomputable def f49_C_l4 (k : Nat) (n : Nat) (σ : St) : Option (RDL f49_rs) := loopK (fun σ K => den T f49_Y (f49_E k) f49_A k (f49_p 500) 4 σ K) (cut f49_A.loops 4) (f49_a k [.blk 4, .c (f49_p 63) 0]) n σ
def f49_s_r22 (y1_0 : (List (Int × Int))) (y1_1 : (List (Int × (Int × (Int × Int))))) (y1_2 : (List (Int × Int))) (y8_0 : Int) (y8_1 : Int) (x7 : Int) (x80 : Int) (x97 : Bool) : St := mkS 120 368 [(1, aP 1), (7, aI x7), (8, aP 8), (79, aV Tq2 y1_2), (80, aI x80), (81, aI x7), (97, aB x97)] [(1, .box [cV Tq2 y1_0, cV Tq6 y1_1, cV Tq2 y1_2]), (8, .box [cI y8_0, cI y8_1])]
abbrev f49_t_r22 := (List (Int × Int)) → (List (Int × (Int × (Int × Int)))) → (List (Int × Int)) → Int → Int → Int → Int → Bool → Option (Int × Unit)
abbrev f49_o_r22 (R : f49_S) : f49_t_r22 := (fun y1_0 y1_1 y1_2 y8_0 y8_1 x7 x80 x97 => R (f49_s_r22 y1_0 y1_1 y1_2 y8_0 y8_1 x7 x80 x97))
noncomputable def f49_Q_r22 (k : Nat) (R_l4 : f49_S) : f49_L := [.c (f49_p 64101) 5, .c (f49_p 32051) 5, .blk 5, .c (f49_p 4007) 4, .j (fun σ => R_l4 (cut f49_A.loops 4 σ)), .blk 4, .c (f49_p 63) 0]
noncomputable def f49_C_r22 (k : Nat) (R_l4 : f49_S) : f49_S := fun σ => f49_a k (f49_Q_r22 k R_l4) .nx σ
noncomputable def f49_F_r1 (k : Nat) (G_l0 G_l2 G_l4 : f49_S) : f49_L := .c (f49_p 13) 0 :: .c (f49_p 28) 0 :: .j (fun σ => f49_a k (.j (fun σ => G_l0 (cut f49_A.loops 0 σ)) :: .blk 0 :: .c (f49_p 60) 0 :: .j (fun σ => f49_a k (.j (fun σ => G_l2 (cut f49_A.loops 2 σ)) :: .blk 2 :: .c (f49_p 124) 0 :: .j (fun σ => f49_a k (.j (fun σ => G_l4 (cut f49_A.loops 4 σ)) :: .blk 4 :: .c (f49_p 63) 0 :: []) .nx σ) :: .c (f49_p 63) 0 :: []) .nx σ) :: .c (f49_p 124) 0 :: .j (fun σ => f49_a k (.j (fun σ => G_l4 (cut f49_A.loops 4 σ)) :: .blk 4 :: .c (f49_p 63) 0 :: []) .nx σ) :: .c (f49_p 63) 0 :: []) .nx σ) :: .c (f49_p 60) 0 :: .j (fun σ => f49_a k (.j (fun σ => G_l2 (cut f49_A.loops 2 σ)) :: .blk 2 :: .c (f49_p 124) 0 :: .j (fun σ => f49_a k (.j (fun σ => G_l4 (cut f49_A.loops 4 σ)) :: .blk 4 :: .c (f49_p 63) 0 :: []) .nx σ) :: .c (f49_p 63) 0 :: []) .nx σ) :: .c (f49_p 124) 0 :: .j (fun σ => f49_a k (.j (fun σ => G_l4 (cut f49_A.loops 4 σ)) :: .blk 4 :: .c (f49_p 63) 0 :: []) .nx σ) :: .c (f49_p 63) 0 :: []
theorem f49_f_r1 (k : Nat) : f49_a k (f49_Q_r1 k) = f49_a k (f49_F_r1 k (f49_C_l0 k k) (f49_C_l2 k k) (f49_C_l4 k k)) := (ap_cons _ (Eq.trans ap_sq (Eq.trans ap_sq (ap_cons _ (Eq.trans (ap_bl 0) (Eq.trans (ap_j (Eq.trans (ap_lp (C := (f49_C_l0 k)) (fun _ _ => rfl)) (ap_cons _ (ap_cons _ (Eq.trans ap_sq (Eq.trans ap_sq (ap_cons _ (Eq.trans (ap_bl 2) (Eq.trans (ap_j (Eq.trans (ap_lp (C := (f49_C_l2 k)) (fun _ _ => rfl)) (ap_cons _ (ap_cons _ (Eq.trans ap_sq (Eq.trans ap_sq (ap_cons _ (Eq.trans (ap_bl 4) (Eq.trans (ap_j (Eq.trans (ap_lp (C := (f49_C_l4 k)) (fun _ _ => rfl)) (ap_cons _ (ap_cons _ (ap_cons _ rfl))))) (ap_cons _ (ap_cons _ rfl))))))))))) (ap_cons _ (Eq.trans ap_sq (Eq.trans ap_sq (ap_cons _ (Eq.trans (ap_bl 4) (Eq.trans (ap_j (Eq.trans (ap_lp (C := (f49_C_l4 k)) (fun _ _ => rfl)) (ap_cons _ (ap_cons _ (ap_cons _ rfl))))) (ap_cons _ (ap_cons _ rfl))))))))))))))))) (ap_cons _ (Eq.trans ap_sq (Eq.trans ap_sq (ap_cons _ (Eq.trans (ap_bl 2) (Eq.trans (ap_j (Eq.trans (ap_lp (C := (f49_C_l2 k)) (fun _ _ => rfl)) (ap_cons _ (ap_cons _ (Eq.trans ap_sq (Eq.trans ap_sq (ap_cons _ (Eq.trans (ap_bl 4) (Eq.trans (ap_j (Eq.trans (ap_lp (C := (f49_C_l4 k)) (fun _ _ => rfl)) (ap_cons _ (ap_cons _ (ap_cons _ rfl))))) (ap_cons _ (ap_cons _ rfl))))))))))) (ap_cons _ (Eq.trans ap_sq (Eq.trans ap_sq (ap_cons _ (Eq.trans (ap_bl 4) (Eq.trans (ap_j (Eq.trans (ap_lp (C := (f49_C_l4 k)) (fun _ _ => rfl)) (ap_cons _ (ap_cons _ (ap_cons _ rfl))))) (ap_cons _ (ap_cons _ rfl))))))))))))))))))))
noncomputable def f49_F_l0 (k : Nat) (G_l0 G_l2 G_l4 : f49_S) : f49_L := .c (f49_p 116) 0 :: .j (fun σ => G_l0 (cut f49_A.loops 0 σ)) :: .blk 0 :: .c (f49_p 60) 0 :: .j (fun σ => f49_a k (.j (fun σ => G_l2 (cut f49_A.loops 2 σ)) :: .blk 2 :: .c (f49_p 124) 0 :: .j (fun σ => f49_a k (.j (fun σ => G_l4 (cut f49_A.loops 4 σ)) :: .blk 4 :: .c (f49_p 63) 0 :: []) .nx σ) :: .c (f49_p 63) 0 :: []) .nx σ) :: .c (f49_p 124) 0 :: .j (fun σ => f49_a k (.j (fun σ => G_l4 (cut f49_A.loops 4 σ)) :: .blk 4 :: .c (f49_p 63) 0 :: []) .nx σ) :: .c (f49_p 63) 0 :: []
theorem f49_f_l0 (k : Nat) (R_l0 : f49_S) : f49_a k (f49_Q_l0 k R_l0) = f49_a k (f49_F_l0 k R_l0 (f49_C_l2 k k) (f49_C_l4 k k)) := (ap_cons _ (ap_cons _ (ap_cons _ (Eq.trans ap_sq (Eq.trans ap_sq (ap_cons _ (Eq.trans (ap_bl 2) (Eq.trans (ap_j (Eq.trans (ap_lp (C := (f49_C_l2 k)) (fun _ _ => rfl)) (ap_cons _ (ap_cons _ (Eq.trans ap_sq (Eq.trans ap_sq (ap_cons _ (Eq.trans (ap_bl 4) (Eq.trans (ap_j (Eq.trans (ap_lp (C := (f49_C_l4 k)) (fun _ _ => rfl)) (ap_cons _ (ap_cons _ (ap_cons _ rfl))))) (ap_cons _ (ap_cons _ rfl))))))))))) (ap_cons _ (Eq.trans ap_sq (Eq.trans ap_sq (ap_cons _ (Eq.trans (ap_bl 4) (Eq.trans (ap_j (Eq.trans (ap_lp (C := (f49_C_l4 k)) (fun _ _ => rfl)) (ap_cons _ (ap_cons _ (ap_cons _ rfl))))) (ap_cons _ (ap_cons _ rfl))))))))))))))))
noncomputable def f49_F_r14 (k : Nat) (G_l2 G_l4 : f49_S) : f49_L := .c (f49_p 31333) 3 :: .c (f49_p 15667) 3 :: .blk 3 :: .c (f49_p 1959) 2 :: .j (fun σ => G_l2 (cut f49_A.loops 2 σ)) :: .blk 2 :: .c (f49_p 124) 0 :: .j (fun σ => f49_a k (.j (fun σ => G_l4 (cut f49_A.loops 4 σ)) :: .blk 4 :: .c (f49_p 63) 0 :: []) .nx σ) :: .c (f49_p 63) 0 :: []
theorem f49_f_r14 (k : Nat) (R_l2 : f49_S) : f49_a k (f49_Q_r14 k R_l2) = f49_a k (f49_F_r14 k R_l2 (f49_C_l4 k k)) := (ap_cons _ (ap_cons _ (ap_cons _ (ap_cons _ (ap_cons _ (ap_cons _ (Eq.trans ap_sq (Eq.trans ap_sq (ap_cons _ (Eq.trans (ap_bl 4) (Eq.trans (ap_j (Eq.trans (ap_lp (C := (f49_C_l4 k)) (fun _ _ => rfl)) (ap_cons _ (ap_cons _ (ap_cons _ rfl))))) (ap_cons _ (ap_cons _ rfl)))))))))))))
noncomputable def f49_F_l2 (k : Nat) (G_l2 G_r14 G_l4 : f49_S) : f49_L := .c (f49_p 488) 2 :: .c (f49_p 978) 2 :: .j (fun σ => f49_a k (.c (f49_p 7832) 3 :: .c (f49_p 31332) 3 :: .j G_r14 :: f49_F_r14 k G_l2 G_l4) .nx σ) :: .c (f49_p 1959) 2 :: .j (fun σ => G_l2 (cut f49_A.loops 2 σ)) :: .blk 2 :: .c (f49_p 124) 0 :: .j (fun σ => f49_a k (.j (fun σ => G_l4 (cut f49_A.loops 4 σ)) :: .blk 4 :: .c (f49_p 63) 0 :: []) .nx σ) :: .c (f49_p 63) 0 :: []
theorem f49_f_l2 (k : Nat) (R_l2 : f49_S) : f49_a k (f49_Q_l2 k R_l2) = f49_a k (f49_F_l2 k R_l2 (f49_C_r14 k R_l2) (f49_C_l4 k k)) := (Eq.trans ap_sq (ap_cons _ (Eq.trans ap_sq (ap_cons _ (Eq.trans ap_sq (Eq.trans (ap_bl 3) (Eq.trans (ap_j (Eq.trans ap_sq (ap_cons _ (Eq.trans ap_sq (Eq.trans ap_sq (ap_cons _ (Eq.trans (ap_pass (C := (f49_C_r14 k R_l2)) (fun _ => rfl)) (ap_cons _ (f49_f_r14 k R_l2))))))))) (ap_cons _ (ap_cons _ (ap_cons _ (ap_cons _ (Eq.trans ap_sq (Eq.trans ap_sq (ap_cons _ (Eq.trans (ap_bl 4) (Eq.trans (ap_j (Eq.trans (ap_lp (C := (f49_C_l4 k)) (fun _ _ => rfl)) (ap_cons _ (ap_cons _ (ap_cons _ rfl))))) (ap_cons _ (ap_cons _ rfl))))))))))))))))))
noncomputable def f49_F_r22 (k : Nat) (G_l4 : f49_S) : f49_L := .c (f49_p 64101) 5 :: .c (f49_p 32051) 5 :: .blk 5 :: .c (f49_p 4007) 4 :: .j (fun σ => G_l4 (cut f49_A.loops 4 σ)) :: .blk 4 :: .c (f49_p 63) 0 :: []
theorem f49_f_r22 (k : Nat) (R_l4 : f49_S) : f49_a k (f49_Q_r22 k R_l4) = f49_a k (f49_F_r22 k R_l4) := (ap_cons _ (ap_cons _ (ap_cons _ (ap_cons _ (ap_cons _ (ap_cons _ (ap_cons _ rfl)))))))
noncomputable def f49_F_l4 (k : Nat) (G_l4 G_r22 : f49_S) : f49_L := .c (f49_p 1000) 4 :: .c (f49_p 2002) 4 :: .j (fun σ => f49_a k (.c (f49_p 16024) 5 :: .c (f49_p 64100) 5 :: .j G_r22 :: f49_F_r22 k G_l4) .nx σ) :: .c (f49_p 4007) 4 :: .j (fun σ => G_l4 (cut f49_A.loops 4 σ)) :: .blk 4 :: .c (f49_p 63) 0 :: []
theorem f49_f_l4 (k : Nat) (R_l4 : f49_S) : f49_a k (f49_Q_l4 k R_l4) = f49_a k (f49_F_l4 k R_l4 (f49_C_r22 k R_l4)) := (Eq.trans ap_sq (ap_cons _ (Eq.trans ap_sq (ap_cons _ (Eq.trans ap_sq (Eq.trans (ap_bl 5) (Eq.trans (ap_j (Eq.trans ap_sq (ap_cons _ (Eq.trans ap_sq (Eq.trans ap_sq (ap_cons _ (Eq.trans (ap_pass (C := (f49_C_r22 k R_l4)) (fun _ => rfl)) (ap_cons _ (f49_f_r22 k R_l4))))))))) (ap_cons _ (ap_cons _ (ap_cons _ (ap_cons _ (ap_cons _ rfl))))))))))))
def f49_entry_B (k : Nat) (g_r1 : f49_t_r1) (a0 : Td12) : Option (Int × Unit) := (if 200 < (a0.1.length : Int) then (g_r1 a0.1 a0.2.1 a0.2.2 true) else (if 600 < (a0.2.1.length : Int) then (g_r1 a0.1 a0.2.1 a0.2.2 true) else (g_r1 a0.1 a0.2.1 a0.2.2 (decide (600 < (a0.2.2.length : Int))))))
def f49_r1_B (k : Nat) (g_l0 : f49_t_l0) (y1_0 : (List (Int × Int))) (y1_1 : (List (Int × (Int × (Int × Int))))) (y1_2 : (List (Int × Int))) (x24 : Bool) : Option (Int × Unit) := (if x24 = true then some (2, ()) else (g_l0 y1_0 y1_1 y1_2 (y1_0.length : Int) 0))
def f49_l0_B (k : Nat) (g_l0 : f49_t_l0) (g_l2 : f49_t_l2) (y1_0 : (List (Int × Int))) (y1_1 : (List (Int × (Int × (Int × Int))))) (y1_2 : (List (Int × Int))) (x27 : Int) (x28 : Int) : Option (Int × Unit) := (if x28 < x27 then (if 0 ≤ x28 then (if x28 < (y1_0.length : Int) then ((f72 k ((y1_0.getD (x28).toNat (0, 0)).1, (y1_0.getD (x28).toNat (0, 0)).2)).bind fun r1 => (if ¬ (r1.1 = true) then some (1, ()) else (if 0 ≤ x28 then (if x28 ≤ (y1_0.length : Int) then ((f45 k (y1_0.take (x28).toNat) ((y1_0.getD (x28).toNat (0, 0)).1, (y1_0.getD (x28).toNat (0, 0)).2)).bind fun r2 => (if r2.1 = true then some (5, ()) else (g_l0 y1_0 y1_1 y1_2 x27 (w64 (x28 + 1))))) else none) else none))) else none) else none) else (g_l2 y1_0 y1_1 y1_2 (y1_1.length : Int) 0))
def f49_l2_B (k : Nat) (g_r14 : f49_t_r14) (g_l4 : f49_t_l4) (y1_0 : (List (Int × Int))) (y1_1 : (List (Int × (Int × (Int × Int))))) (y1_2 : (List (Int × Int))) (x45 : Int) (x46 : Int) : Option (Int × Unit) := (if x46 < x45 then (if 0 ≤ x46 then (if x46 < (y1_1.length : Int) then ((f73 k (y1_0, (y1_1, y1_2)) ((y1_1.getD (x46).toNat (0, (0, (0, 0)))).1)).bind fun r1 => (if ¬ (r1.1 = true) then (g_r14 y1_0 y1_1 y1_2 ((y1_1.getD (x46).toNat (0, (0, (0, 0)))).1) (((y1_1.getD (x46).toNat (0, (0, (0, 0)))).2).1) ((((y1_1.getD (x46).toNat (0, (0, (0, 0)))).2).2).1) ((((y1_1.getD (x46).toNat (0, (0, (0, 0)))).2).2).2) x45 x46 true) else ((f73 k (y1_0, (y1_1, y1_2)) (((y1_1.getD (x46).toNat (0, (0, (0, 0)))).2).1)).bind fun r2 => (if ¬ (r2.1 = true) then (g_r14 y1_0 y1_1 y1_2 ((y1_1.getD (x46).toNat (0, (0, (0, 0)))).1) (((y1_1.getD (x46).toNat (0, (0, (0, 0)))).2).1) ((((y1_1.getD (x46).toNat (0, (0, (0, 0)))).2).2).1) ((((y1_1.getD (x46).toNat (0, (0, (0, 0)))).2).2).2) x45 x46 true) else (if ((((y1_1.getD (x46).toNat (0, (0, (0, 0)))).2).2).1) < 0 then (g_r14 y1_0 y1_1 y1_2 ((y1_1.getD (x46).toNat (0, (0, (0, 0)))).1) (((y1_1.getD (x46).toNat (0, (0, (0, 0)))).2).1) ((((y1_1.getD (x46).toNat (0, (0, (0, 0)))).2).2).1) ((((y1_1.getD (x46).toNat (0, (0, (0, 0)))).2).2).2) x45 x46 true) else (g_r14 y1_0 y1_1 y1_2 ((y1_1.getD (x46).toNat (0, (0, (0, 0)))).1) (((y1_1.getD (x46).toNat (0, (0, (0, 0)))).2).1) ((((y1_1.getD (x46).toNat (0, (0, (0, 0)))).2).2).1) ((((y1_1.getD (x46).toNat (0, (0, (0, 0)))).2).2).2) x45 x46 (decide (1099511627776 < ((((y1_1.getD (x46).toNat (0, (0, (0, 0)))).2).2).1))))))))) else none) else none) else (g_l4 y1_0 y1_1 y1_2 (y1_2.length : Int) 0))
def f49_r14_B (k : Nat) (g_l2 : f49_t_l2) (y1_0 : (List (Int × Int))) (y1_1 : (List (Int × (Int × (Int × Int))))) (y1_2 : (List (Int × Int))) (y6_0 : Int) (y6_1 : Int) (y6_2 : Int) (y6_3 : Int) (x45 : Int) (x46 : Int) (x71 : Bool) : Option (Int × Unit) := (if x71 = true then some (1, ()) else (if y6_0 = y6_1 then some (11, ()) else (g_l2 y1_0 y1_1 y1_2 x45 (w64 (x46 + 1)))))
def f49_l4_B (k : Nat) (g_r22 : f49_t_r22) (y1_0 : (List (Int × Int))) (y1_1 : (List (Int × (Int × (Int × Int))))) (y1_2 : (List (Int × Int))) (x80 : Int) (x81 : Int) : Option (Int × Unit) := (if x81 < x80 then (if 0 ≤ x81 then (if x81 < (y1_2.length : Int) then ((f62 k (y1_0, (y1_1, y1_2)) ((y1_2.getD (x81).toNat (0, 0)).1)).bind fun r1 => (if ¬ (r1.1 = true) then (g_r22 y1_0 y1_1 y1_2 ((y1_2.getD (x81).toNat (0, 0)).1) ((y1_2.getD (x81).toNat (0, 0)).2) x81 x80 true) else ((f62 k (y1_0, (y1_1, y1_2)) ((y1_2.getD (x81).toNat (0, 0)).2)).bind fun r2 => (g_r22 y1_0 y1_1 y1_2 ((y1_2.getD (x81).toNat (0, 0)).1) ((y1_2.getD (x81).toNat (0, 0)).2) x81 x80 (decide (¬ (r2.1 = true))))))) else none) else none) else some (0, ()))
def f49_r22_B (k : Nat) (g_l4 : f49_t_l4) (y1_0 : (List (Int × Int))) (y1_1 : (List (Int × (Int × (Int × Int))))) (y1_2 : (List (Int × Int))) (y8_0 : Int) (y8_1 : Int) (x7 : Int) (x80 : Int) (x97 : Bool) : Option (Int × Unit) := (if x97 = true then some (1, ()) else (if 0 ≤ y8_0 then (if y8_0 < (y1_1.length : Int) then (if 0 ≤ y8_1 then (if y8_1 < (y1_1.length : Int) then (if ¬ ((((y1_1.getD (y8_0).toNat (0, (0, (0, 0)))).2).1) = ((y1_1.getD (y8_1).toNat (0, (0, (0, 0)))).1)) then some (9, ()) else (if 0 ≤ x7 then (if x7 ≤ (y1_2.length : Int) then ((f46 k (y1_2.take (x7).toNat) (y8_0, y8_1)).bind fun r1 => (if r1.1 = true then some (5, ()) else (g_l4 y1_0 y1_1 y1_2 x80 (w64 (x7 + 1))))) else none) else none)) else none) else none) else none) else none))
theorem f49_r14_P (k : Nat) (G_l2 G_l4 : f49_S) : f49_o_r14 (fun σ => f49_a k (f49_F_r14 k G_l2 G_l4) .nx σ) = f49_r14_B k (f49_o_l2 G_l2) := by kernel_rfl
def f49_r14 (k : Nat) (r_l2 : f49_t_l2) : f49_t_r14 := f49_r14_B k r_l2
theorem f49_r14_E (k : Nat) (R_l2 : f49_S) : f49_o_r14 (f49_C_r14 k R_l2) = f49_r14 k (f49_o_l2 R_l2) :=
  Eq.trans (congrArg f49_o_r14 (ap_fn (f49_f_r14 k R_l2))) ((f49_r14_P k R_l2 (f49_C_l4 k k)).trans (by rfl))
theorem f49_r22_P (k : Nat) (G_l4 : f49_S) : f49_o_r22 (fun σ => f49_a k (f49_F_r22 k G_l4) .nx σ) = f49_r22_B k (f49_o_l4 G_l4) := by kernel_rfl
def f49_r22 (k : Nat) (r_l4 : f49_t_l4) : f49_t_r22 := f49_r22_B k r_l4
theorem f49_r22_E (k : Nat) (R_l4 : f49_S) : f49_o_r22 (f49_C_r22 k R_l4) = f49_r22 k (f49_o_l4 R_l4) :=
  Eq.trans (congrArg f49_o_r22 (ap_fn (f49_f_r22 k R_l4))) ((f49_r22_P k R_l4).trans (by rfl))
theorem f49_l4_P (k : Nat) (G_l4 G_r22 : f49_S) : f49_o_l4 (fun σ => f49_a k (f49_F_l4 k G_l4 G_r22) .nx σ) = f49_l4_B k (f49_o_r22 G_r22) := by kernel_rfl
def f49_l4 (k : Nat) : Nat → f49_t_l4
  | 0 => fun _ _ _ _ _ => none
  | n + 1 => f49_l4_B k (f49_r22 k (f49_l4 k n))
theorem f49_l4_E (k : Nat) : ∀ n, f49_o_l4 (f49_C_l4 k n) = f49_l4 k n
  | 0 => rfl
  | n + 1 =>
    Eq.trans (congrArg f49_o_l4 (Eq.trans (b := fun σ => f49_a k (f49_Q_l4 k (f49_C_l4 k n)) .nx σ) (by kernel_rfl) (ap_fn (f49_f_l4 k (f49_C_l4 k n))))) ((f49_l4_P k (f49_C_l4 k n) (f49_C_r22 k (f49_C_l4 k n))).trans (by rw [f49_r22_E k (f49_C_l4 k n), f49_l4_E k n] <;> rfl))
theorem f49_l2_P (k : Nat) (G_l2 G_r14 G_l4 : f49_S) : f49_o_l2 (fun σ => f49_a k (f49_F_l2 k G_l2 G_r14 G_l4) .nx σ) = f49_l2_B k (f49_o_r14 G_r14) (f49_o_l4 G_l4) := by kernel_rfl
def f49_l2 (k : Nat) : Nat → f49_t_l2
  | 0 => fun _ _ _ _ _ => none
  | n + 1 => f49_l2_B k (f49_r14 k (f49_l2 k n)) (f49_l4 k k)
theorem f49_l2_E (k : Nat) : ∀ n, f49_o_l2 (f49_C_l2 k n) = f49_l2 k n
  | 0 => rfl
  | n + 1 =>
    Eq.trans (congrArg f49_o_l2 (Eq.trans (b := fun σ => f49_a k (f49_Q_l2 k (f49_C_l2 k n)) .nx σ) (by kernel_rfl) (ap_fn (f49_f_l2 k (f49_C_l2 k n))))) ((f49_l2_P k (f49_C_l2 k n) (f49_C_r14 k (f49_C_l2 k n)) (f49_C_l4 k k)).trans (by rw [f49_r14_E k (f49_C_l2 k n), f49_l4_E k k, f49_l2_E k n] <;> rfl))
theorem f49_l0_P (k : Nat) (G_l0 G_l2 G_l4 : f49_S) : f49_o_l0 (fun σ => f49_a k (f49_F_l0 k G_l0 G_l2 G_l4) .nx σ) = f49_l0_B k (f49_o_l0 G_l0) (f49_o_l2 G_l2) := by kernel_rfl
def f49_l0 (k : Nat) : Nat → f49_t_l0
  | 0 => fun _ _ _ _ _ => none
  | n + 1 => f49_l0_B k (f49_l0 k n) (f49_l2 k k)
theorem f49_l0_E (k : Nat) : ∀ n, f49_o_l0 (f49_C_l0 k n) = f49_l0 k n
  | 0 => rfl
  | n + 1 =>
    Eq.trans (congrArg f49_o_l0 (Eq.trans (b := fun σ => f49_a k (f49_Q_l0 k (f49_C_l0 k n)) .nx σ) (by kernel_rfl) (ap_fn (f49_f_l0 k (f49_C_l0 k n))))) ((f49_l0_P k (f49_C_l0 k n) (f49_C_l2 k k) (f49_C_l4 k k)).trans (by rw [f49_l2_E k k, f49_l0_E k n] <;> rfl))
theorem f49_r1_P (k : Nat) (G_l0 G_l2 G_l4 : f49_S) : f49_o_r1 (fun σ => f49_a k (f49_F_r1 k G_l0 G_l2 G_l4) .nx σ) = f49_r1_B k (f49_o_l0 G_l0) := by kernel_rfl
def f49_r1 (k : Nat) : f49_t_r1 := f49_r1_B k (f49_l0 k k)
theorem f49_r1_E (k : Nat) : f49_o_r1 (f49_C_r1 k) = f49_r1 k :=
  Eq.trans (congrArg f49_o_r1 (ap_fn (f49_f_r1 k))) ((f49_r1_P k (f49_C_l0 k k) (f49_C_l2 k k) (f49_C_l4 k k)).trans (by rw [f49_l0_E k k] <;> rfl))
theorem f49_entry_P (k : Nat) (G_r1 G_l0 G_l2 G_l4 : f49_S) (xs : DL f49_sig) : f49_a k (.c (f49_p 2) 0 :: .c (f49_p 12) 0 :: .j G_r1 :: f49_F_r1 k G_l0 G_l2 G_l4) .nx (σ0 120 368 f49_sig xs) = f49_entry_B k (f49_o_r1 G_r1) xs.1 := by kernel_rfl
def f49 (k : Nat) (a0 : Td12) : Option (Int × Unit) := f49_entry_B k (f49_r1 k) a0
theorem f49_fe (k : Nat) : f49_a k [.c (f49_p 1) 0] = f49_a k (.c (f49_p 2) 0 :: .c (f49_p 12) 0 :: .j (f49_C_r1 k) :: f49_F_r1 k (f49_C_l0 k k) (f49_C_l2 k k) (f49_C_l4 k k)) := (Eq.trans ap_sq (ap_cons _ (Eq.trans ap_sq (Eq.trans ap_sq (ap_cons _ (Eq.trans (ap_pass (C := (f49_C_r1 k)) (fun _ => rfl)) (ap_cons _ (f49_f_r1 k))))))))
theorem f49_eq (k : Nat) (xs : DL f49_sig) : den T f49_Y (f49_E k) f49_A k f49_c 0 (σ0 120 368 f49_sig xs) (Kfin T f49_rs f49_ts) = f49 k xs.1 :=
  Eq.trans (Eq.trans den_sb (ap_at (f49_fe k) _)) ((f49_entry_P k (f49_C_r1 k) (f49_C_l0 k k) (f49_C_l2 k k) (f49_C_l4 k k) xs).trans (by rw [f49_r1_E k] <;> rfl))
noncomputable def f49_con (k : Nat) : Con := ⟨f49_sig, f49_rs, fun xs => f49 k xs.1⟩
theorem f49_ok (k : Nat) : PureOK Try.prog 49 f49_sig f49_rs (fun xs => f49 k xs.1) :=
  (pure_of_den (k := k) (A := f49_A) (T := T) (Y := f49_Y) (E := f49_E k) (M := 368) (ts := f49_ts) T_ok ⟨f45_ok k, f46_ok k, f62_ok k, f72_ok k, f73_ok k, trivial⟩ ⟨f45_ent, f46_ent, f62_ent, f72_ent, f73_ent, trivial⟩ mixed (f := 49) (fn := Try.f49) (c := f49_c) (by kernel_rfl) (by kernel_rfl) (by kernel_rfl) (by decide) (by kernel_rfl)).congr fun xs => (f49_eq k xs).symm
theorem f49_ent : Ent Try.prog 49 := fun args w => by kernel_rfl
/-! ### terrier/route.valid: function 57 -/
noncomputable def f57_c : Code := Try.f57.body.getD .skip
noncomputable abbrev f57_p (n : Nat) : Code := sb f57_c n
abbrev f57_sig : List PT := [(true, Tq9), (false, Tq1)]
abbrev f57_rs : List RT := [.d false (.int .i64)]
abbrev f57_ts : List RV := [.tmp 4]
abbrev f57_S := St → Option (RDL f57_rs)
abbrev f57_L := List (Fr (RDL f57_rs))
def f57_Y : Tys := []
noncomputable def f57_E (k : Nat) : Env := [(49, .c (f49_con k))]
def f57_A : Ann := { loops := [(0, { slots := [(2, .id), (13, .val false (.int .i64)), (14, .id), (15, .id)], keys := [(2, [.val false Tq2, .val false Tq6, .val false Tq2])] })], regs := [(7, { slots := [(2, .id), (13, .val false (.int .i64)), (14, .id), (15, .id), (27, .bool)], keys := [(2, [.val false Tq2, .val false Tq6, .val false Tq2])] })] }
noncomputable abbrev f57_a (k : Nat) (F : f57_L) : Kont (RDL f57_rs) := ap T f57_Y (f57_E k) f57_A k (Kfin T f57_rs f57_ts) F
def f57_s_l0 (y2_0 : (List (Int × Int))) (y2_1 : (List (Int × (Int × (Int × Int))))) (y2_2 : (List (Int × Int))) (x13 : (List Int)) (x14 : Int) (x15 : Int) : St := mkS 29 96 [(2, aP 2), (13, aV (.int .i64) x13), (14, aI x14), (15, aI x15)] [(2, .box [cV Tq2 y2_0, cV Tq6 y2_1, cV Tq2 y2_2])]
abbrev f57_t_l0 := (List (Int × Int)) → (List (Int × (Int × (Int × Int)))) → (List (Int × Int)) → (List Int) → Int → Int → Option (Int × Unit)
abbrev f57_o_l0 (R : f57_S) : f57_t_l0 := (fun y2_0 y2_1 y2_2 x13 x14 x15 => R (f57_s_l0 y2_0 y2_1 y2_2 x13 x14 x15))
noncomputable def f57_Q_l0 (k : Nat) (R_l0 : f57_S) : f57_L := [.c (f57_p 116) 0, .j (fun σ => R_l0 (cut f57_A.loops 0 σ)), .blk 0, .c (f57_p 15) 0]
noncomputable def f57_C_l0 (k : Nat) (n : Nat) (σ : St) : Option (RDL f57_rs) := loopK (fun σ K => den T f57_Y (f57_E k) f57_A k (f57_p 116) 0 σ K) (cut f57_A.loops 0) (f57_a k [.blk 0, .c (f57_p 15) 0]) n σ
def f57_s_r7 (y2_0 : (List (Int × Int))) (y2_1 : (List (Int × (Int × (Int × Int))))) (y2_2 : (List (Int × Int))) (x13 : (List Int)) (x14 : Int) (x15 : Int) (x27 : Bool) : St := mkS 29 96 [(2, aP 2), (13, aV (.int .i64) x13), (14, aI x14), (15, aI x15), (27, aB x27)] [(2, .box [cV Tq2 y2_0, cV Tq6 y2_1, cV Tq2 y2_2])]
abbrev f57_t_r7 := (List (Int × Int)) → (List (Int × (Int × (Int × Int)))) → (List (Int × Int)) → (List Int) → Int → Int → Bool → Option (Int × Unit)
abbrev f57_o_r7 (R : f57_S) : f57_t_r7 := (fun y2_0 y2_1 y2_2 x13 x14 x15 x27 => R (f57_s_r7 y2_0 y2_1 y2_2 x13 x14 x15 x27))
noncomputable def f57_Q_r7 (k : Nat) (R_l0 : f57_S) : f57_L := [.c (f57_p 7475) 1, .blk 1, .c (f57_p 935) 0, .j (fun σ => R_l0 (cut f57_A.loops 0 σ)), .blk 0, .c (f57_p 15) 0]
noncomputable def f57_C_r7 (k : Nat) (R_l0 : f57_S) : f57_S := fun σ => f57_a k (f57_Q_r7 k R_l0) .nx σ
noncomputable def f57_F_r7 (k : Nat) (G_l0 : f57_S) : f57_L := .c (f57_p 7475) 1 :: .blk 1 :: .c (f57_p 935) 0 :: .j (fun σ => G_l0 (cut f57_A.loops 0 σ)) :: .blk 0 :: .c (f57_p 15) 0 :: []
theorem f57_f_r7 (k : Nat) (R_l0 : f57_S) : f57_a k (f57_Q_r7 k R_l0) = f57_a k (f57_F_r7 k R_l0) := (ap_cons _ (ap_cons _ (ap_cons _ (ap_cons _ (ap_cons _ (ap_cons _ rfl))))))
noncomputable def f57_F_l0 (k : Nat) (G_l0 G_r7 : f57_S) : f57_L := .c (f57_p 232) 0 :: .c (f57_p 466) 0 :: .j (fun σ => f57_a k (.c (f57_p 3736) 1 :: .c (f57_p 7474) 1 :: .j G_r7 :: f57_F_r7 k G_l0) .nx σ) :: .c (f57_p 935) 0 :: .j (fun σ => G_l0 (cut f57_A.loops 0 σ)) :: .blk 0 :: .c (f57_p 15) 0 :: []
theorem f57_f_l0 (k : Nat) (R_l0 : f57_S) : f57_a k (f57_Q_l0 k R_l0) = f57_a k (f57_F_l0 k R_l0 (f57_C_r7 k R_l0)) := (Eq.trans ap_sq (ap_cons _ (Eq.trans ap_sq (ap_cons _ (Eq.trans ap_sq (Eq.trans (ap_bl 1) (Eq.trans (ap_j (Eq.trans ap_sq (ap_cons _ (Eq.trans ap_sq (ap_cons _ (Eq.trans (ap_pass (C := (f57_C_r7 k R_l0)) (fun _ => rfl)) (ap_cons _ (f57_f_r7 k R_l0)))))))) (ap_cons _ (ap_cons _ (ap_cons _ (ap_cons _ (ap_cons _ rfl))))))))))))
def f57_entry_B (k : Nat) (g_l0 : f57_t_l0) (a0 : Td12) (a1 : (List Int)) : Option (Int × Unit) := ((f49 k (a0.1, (a0.2.1, a0.2.2))).bind fun r1 => (if ¬ (r1.1 = 0) then some (r1.1, ()) else (g_l0 a0.1 a0.2.1 a0.2.2 a1 (a1.length : Int) 0)))
def f57_l0_B (k : Nat) (g_r7 : f57_t_r7) (y2_0 : (List (Int × Int))) (y2_1 : (List (Int × (Int × (Int × Int))))) (y2_2 : (List (Int × Int))) (x13 : (List Int)) (x14 : Int) (x15 : Int) : Option (Int × Unit) := (if x15 < x14 then (if 0 ≤ x15 then (if x15 < (x13.length : Int) then (if (x13.getD (x15).toNat 0) < 0 then (g_r7 y2_0 y2_1 y2_2 x13 x14 x15 true) else (g_r7 y2_0 y2_1 y2_2 x13 x14 x15 (decide ((y2_0.length : Int) ≤ (x13.getD (x15).toNat 0))))) else none) else none) else some (0, ()))
def f57_r7_B (k : Nat) (g_l0 : f57_t_l0) (y2_0 : (List (Int × Int))) (y2_1 : (List (Int × (Int × (Int × Int))))) (y2_2 : (List (Int × Int))) (x13 : (List Int)) (x14 : Int) (x15 : Int) (x27 : Bool) : Option (Int × Unit) := (if x27 = true then some (1, ()) else (g_l0 y2_0 y2_1 y2_2 x13 x14 (w64 (x15 + 1))))
theorem f57_r7_P (k : Nat) (G_l0 : f57_S) : f57_o_r7 (fun σ => f57_a k (f57_F_r7 k G_l0) .nx σ) = f57_r7_B k (f57_o_l0 G_l0) := by kernel_rfl
def f57_r7 (k : Nat) (r_l0 : f57_t_l0) : f57_t_r7 := f57_r7_B k r_l0
theorem f57_r7_E (k : Nat) (R_l0 : f57_S) : f57_o_r7 (f57_C_r7 k R_l0) = f57_r7 k (f57_o_l0 R_l0) :=
  Eq.trans (congrArg f57_o_r7 (ap_fn (f57_f_r7 k R_l0))) ((f57_r7_P k R_l0).trans (by rfl))
theorem f57_l0_P (k : Nat) (G_l0 G_r7 : f57_S) : f57_o_l0 (fun σ => f57_a k (f57_F_l0 k G_l0 G_r7) .nx σ) = f57_l0_B k (f57_o_r7 G_r7) := by kernel_rfl
def f57_l0 (k : Nat) : Nat → f57_t_l0
  | 0 => fun _ _ _ _ _ _ => none
  | n + 1 => f57_l0_B k (f57_r7 k (f57_l0 k n))
theorem f57_l0_E (k : Nat) : ∀ n, f57_o_l0 (f57_C_l0 k n) = f57_l0 k n
  | 0 => rfl
  | n + 1 =>
    Eq.trans (congrArg f57_o_l0 (Eq.trans (b := fun σ => f57_a k (f57_Q_l0 k (f57_C_l0 k n)) .nx σ) (by kernel_rfl) (ap_fn (f57_f_l0 k (f57_C_l0 k n))))) ((f57_l0_P k (f57_C_l0 k n) (f57_C_r7 k (f57_C_l0 k n))).trans (by rw [f57_r7_E k (f57_C_l0 k n), f57_l0_E k n] <;> rfl))
theorem f57_entry_P (k : Nat) (G_l0 : f57_S) (xs : DL f57_sig) : f57_a k (.c (f57_p 2) 0 :: .c (f57_p 6) 0 :: .c (f57_p 28) 0 :: .j (fun σ => f57_a k (.j (fun σ => G_l0 (cut f57_A.loops 0 σ)) :: .blk 0 :: .c (f57_p 15) 0 :: []) .nx σ) :: .c (f57_p 15) 0 :: []) .nx (σ0 29 96 f57_sig xs) = f57_entry_B k (f57_o_l0 G_l0) xs.1 xs.2.1 := by kernel_rfl
def f57 (k : Nat) (a0 : Td12) (a1 : (List Int)) : Option (Int × Unit) := f57_entry_B k (f57_l0 k k) a0 a1
theorem f57_fe (k : Nat) : f57_a k [.c (f57_p 1) 0] = f57_a k (.c (f57_p 2) 0 :: .c (f57_p 6) 0 :: .c (f57_p 28) 0 :: .j (fun σ => f57_a k (.j (fun σ => (f57_C_l0 k k) (cut f57_A.loops 0 σ)) :: .blk 0 :: .c (f57_p 15) 0 :: []) .nx σ) :: .c (f57_p 15) 0 :: []) := (Eq.trans ap_sq (ap_cons _ (Eq.trans ap_sq (ap_cons _ (Eq.trans ap_sq (Eq.trans ap_sq (ap_cons _ (Eq.trans (ap_bl 0) (Eq.trans (ap_j (Eq.trans (ap_lp (C := (f57_C_l0 k)) (fun _ _ => rfl)) (ap_cons _ (ap_cons _ (ap_cons _ rfl))))) (ap_cons _ (ap_cons _ rfl)))))))))))
theorem f57_eq (k : Nat) (xs : DL f57_sig) : den T f57_Y (f57_E k) f57_A k f57_c 0 (σ0 29 96 f57_sig xs) (Kfin T f57_rs f57_ts) = f57 k xs.1 xs.2.1 :=
  Eq.trans (Eq.trans den_sb (ap_at (f57_fe k) _)) ((f57_entry_P k (f57_C_l0 k k) xs).trans (by rw [f57_l0_E k k] <;> rfl))
noncomputable def f57_con (k : Nat) : Con := ⟨f57_sig, f57_rs, fun xs => f57 k xs.1 xs.2.1⟩
theorem f57_ok (k : Nat) : PureOK Try.prog 57 f57_sig f57_rs (fun xs => f57 k xs.1 xs.2.1) :=
  (pure_of_den (k := k) (A := f57_A) (T := T) (Y := f57_Y) (E := f57_E k) (M := 96) (ts := f57_ts) T_ok ⟨f49_ok k, trivial⟩ ⟨f49_ent, trivial⟩ mixed (f := 57) (fn := Try.f57) (c := f57_c) (by kernel_rfl) (by kernel_rfl) (by kernel_rfl) (by decide) (by kernel_rfl)).congr fun xs => (f57_eq k xs).symm
theorem f57_ent : Ent Try.prog 57 := fun args w => by kernel_rfl
/-! ### terrier/net.Out: function 21 -/
noncomputable def f21_c : Code := Try.f21.body.getD .skip
noncomputable abbrev f21_p (n : Nat) : Code := sb f21_c n
abbrev f21_sig : List PT := [(true, Tq9), (false, (.int .i64))]
abbrev f21_rs : List RT := [.new (.int .i64)]
abbrev f21_ts : List RV := [.tmp 4]
abbrev f21_S := St → Option (RDL f21_rs)
abbrev f21_L := List (Fr (RDL f21_rs))
def f21_Y : Tys := [(3, (.int .i64))]
noncomputable def f21_E (k : Nat) : Env := []
def f21_A : Ann := { loops := [(0, { mat := [(5, 23, (.int .i64))], slots := [(1, .id), (5, .id), (9, .val false Tq6), (10, .id), (11, .id)], keys := [(23, [])] })], conds := [(6, { mat := [(5, 23, (.int .i64))], slots := [(1, .id), (5, .id), (9, .val false Tq6), (10, .id), (11, .id)], keys := [(23, [])] })] }
noncomputable abbrev f21_a (k : Nat) (F : f21_L) : Kont (RDL f21_rs) := ap T f21_Y (f21_E k) f21_A k (Kfin T f21_rs f21_ts) F
def f21_s_l0 (y23 : (List Int)) (x1 : Int) (x10 : Int) (x11 : Int) (x9 : (List (Int × (Int × (Int × Int))))) : St := mkS 26 80 [(1, aI x1), (5, aO 23), (9, aV Tq6 x9), (10, aI x10), (11, aI x11)] [(23, .vec (.int .i64) y23)]
abbrev f21_t_l0 := (List Int) → Int → Int → Int → (List (Int × (Int × (Int × Int)))) → Option ((List Int) × Unit)
abbrev f21_o_l0 (R : f21_S) : f21_t_l0 := (fun y23 x1 x10 x11 x9 => R (f21_s_l0 y23 x1 x10 x11 x9))
noncomputable def f21_Q_l0 (k : Nat) (R_l0 : f21_S) : f21_L := [.c (f21_p 116) 0, .j (fun σ => R_l0 (cut f21_A.loops 0 σ)), .blk 0, .c (f21_p 15) 0]
noncomputable def f21_C_l0 (k : Nat) (n : Nat) (σ : St) : Option (RDL f21_rs) := loopK (fun σ K => den T f21_Y (f21_E k) f21_A k (f21_p 116) 0 σ K) (cut f21_A.loops 0) (f21_a k [.blk 0, .c (f21_p 15) 0]) n σ
def f21_s_c6 (y23 : (List Int)) (x1 : Int) (x10 : Int) (x11 : Int) (x9 : (List (Int × (Int × (Int × Int))))) : St := mkS 26 80 [(1, aI x1), (5, aO 23), (9, aV Tq6 x9), (10, aI x10), (11, aI x11)] [(23, .vec (.int .i64) y23)]
abbrev f21_t_c6 := (List Int) → Int → Int → Int → (List (Int × (Int × (Int × Int)))) → Option ((List Int) × Unit)
abbrev f21_o_c6 (R : f21_S) : f21_t_c6 := (fun y23 x1 x10 x11 x9 => R (f21_s_c6 y23 x1 x10 x11 x9))
noncomputable def f21_Q_c6 (k : Nat) (R_l0 : f21_S) : f21_L := [.blk 1, .c (f21_p 935) 0, .j (fun σ => R_l0 (cut f21_A.loops 0 σ)), .blk 0, .c (f21_p 15) 0]
noncomputable def f21_C_c6 (k : Nat) (R_l0 : f21_S) : f21_S := fun σ => f21_a k (f21_Q_c6 k R_l0) .nx σ
noncomputable def f21_F_c6 (k : Nat) (G_l0 : f21_S) : f21_L := .blk 1 :: .c (f21_p 935) 0 :: .j (fun σ => G_l0 (cut f21_A.loops 0 σ)) :: .blk 0 :: .c (f21_p 15) 0 :: []
theorem f21_f_c6 (k : Nat) (R_l0 : f21_S) : f21_a k (f21_Q_c6 k R_l0) = f21_a k (f21_F_c6 k R_l0) := (ap_cons _ (ap_cons _ (ap_cons _ (ap_cons _ (ap_cons _ rfl)))))
noncomputable def f21_F_l0 (k : Nat) (G_l0 G_c6 : f21_S) : f21_L := .c (f21_p 232) 0 :: .c (f21_p 466) 0 :: .j (fun σ => f21_a k (.c (f21_p 3736) 1 :: .c (f21_p 7474) 1 :: .c (f21_p 7475) 1 :: .j G_c6 :: f21_F_c6 k G_l0) .nx σ) :: .c (f21_p 935) 0 :: .j (fun σ => G_l0 (cut f21_A.loops 0 σ)) :: .blk 0 :: .c (f21_p 15) 0 :: []
theorem f21_f_l0 (k : Nat) (R_l0 : f21_S) : f21_a k (f21_Q_l0 k R_l0) = f21_a k (f21_F_l0 k R_l0 (f21_C_c6 k R_l0)) := (Eq.trans ap_sq (ap_cons _ (Eq.trans ap_sq (ap_cons _ (Eq.trans ap_sq (Eq.trans (ap_bl 1) (Eq.trans (ap_j (Eq.trans ap_sq (ap_cons _ (Eq.trans ap_sq (ap_cons _ (ap_cons _ (Eq.trans (ap_pass (C := (f21_C_c6 k R_l0)) (fun _ => rfl)) (ap_cons _ (f21_f_c6 k R_l0))))))))) (ap_cons _ (ap_cons _ (ap_cons _ (ap_cons _ (ap_cons _ rfl))))))))))))
def f21_entry_B (k : Nat) (g_l0 : f21_t_l0) (a0 : Td12) (a1 : Int) : Option ((List Int) × Unit) := (g_l0 ([] : List Int) a1 (a0.2.1.length : Int) 0 a0.2.1)
def f21_l0_B (k : Nat) (g_c6 : f21_t_c6) (y23 : (List Int)) (x1 : Int) (x10 : Int) (x11 : Int) (x9 : (List (Int × (Int × (Int × Int))))) : Option ((List Int) × Unit) := (if x11 < x10 then (if 0 ≤ x11 then (if x11 < (x9.length : Int) then (if ((x9.getD (x11).toNat (0, (0, (0, 0)))).1) = x1 then (if (y23.length + 1) * 8 ≤ 140737488355328 then (g_c6 (y23 ++ [x11]) x1 x10 x11 x9) else none) else (g_c6 y23 x1 x10 x11 x9)) else none) else none) else some (y23, ()))
def f21_c6_B (k : Nat) (g_l0 : f21_t_l0) (y23 : (List Int)) (x1 : Int) (x10 : Int) (x11 : Int) (x9 : (List (Int × (Int × (Int × Int))))) : Option ((List Int) × Unit) := (g_l0 y23 x1 x10 (w64 (x11 + 1)) x9)
theorem f21_c6_P (k : Nat) (G_l0 : f21_S) : f21_o_c6 (fun σ => f21_a k (f21_F_c6 k G_l0) .nx σ) = f21_c6_B k (f21_o_l0 G_l0) := by kernel_rfl
def f21_c6 (k : Nat) (r_l0 : f21_t_l0) : f21_t_c6 := f21_c6_B k r_l0
theorem f21_c6_E (k : Nat) (R_l0 : f21_S) : f21_o_c6 (f21_C_c6 k R_l0) = f21_c6 k (f21_o_l0 R_l0) :=
  Eq.trans (congrArg f21_o_c6 (ap_fn (f21_f_c6 k R_l0))) ((f21_c6_P k R_l0).trans (by rfl))
theorem f21_l0_P (k : Nat) (G_l0 G_c6 : f21_S) : f21_o_l0 (fun σ => f21_a k (f21_F_l0 k G_l0 G_c6) .nx σ) = f21_l0_B k (f21_o_c6 G_c6) := by kernel_rfl
def f21_l0 (k : Nat) : Nat → f21_t_l0
  | 0 => fun _ _ _ _ _ => none
  | n + 1 => f21_l0_B k (f21_c6 k (f21_l0 k n))
theorem f21_l0_E (k : Nat) : ∀ n, f21_o_l0 (f21_C_l0 k n) = f21_l0 k n
  | 0 => rfl
  | n + 1 =>
    Eq.trans (congrArg f21_o_l0 (Eq.trans (b := fun σ => f21_a k (f21_Q_l0 k (f21_C_l0 k n)) .nx σ) (by kernel_rfl) (ap_fn (f21_f_l0 k (f21_C_l0 k n))))) ((f21_l0_P k (f21_C_l0 k n) (f21_C_c6 k (f21_C_l0 k n))).trans (by rw [f21_c6_E k (f21_C_l0 k n), f21_l0_E k n] <;> rfl))
theorem f21_entry_P (k : Nat) (G_l0 : f21_S) (xs : DL f21_sig) : f21_a k (.c (f21_p 2) 0 :: .c (f21_p 6) 0 :: .c (f21_p 28) 0 :: .j (fun σ => f21_a k (.j (fun σ => G_l0 (cut f21_A.loops 0 σ)) :: .blk 0 :: .c (f21_p 15) 0 :: []) .nx σ) :: .c (f21_p 15) 0 :: []) .nx (σ0 26 80 f21_sig xs) = f21_entry_B k (f21_o_l0 G_l0) xs.1 xs.2.1 := by kernel_rfl
def f21 (k : Nat) (a0 : Td12) (a1 : Int) : Option ((List Int) × Unit) := f21_entry_B k (f21_l0 k k) a0 a1
theorem f21_fe (k : Nat) : f21_a k [.c (f21_p 1) 0] = f21_a k (.c (f21_p 2) 0 :: .c (f21_p 6) 0 :: .c (f21_p 28) 0 :: .j (fun σ => f21_a k (.j (fun σ => (f21_C_l0 k k) (cut f21_A.loops 0 σ)) :: .blk 0 :: .c (f21_p 15) 0 :: []) .nx σ) :: .c (f21_p 15) 0 :: []) := (Eq.trans ap_sq (ap_cons _ (Eq.trans ap_sq (ap_cons _ (Eq.trans ap_sq (Eq.trans ap_sq (ap_cons _ (Eq.trans (ap_bl 0) (Eq.trans (ap_j (Eq.trans (ap_lp (C := (f21_C_l0 k)) (fun _ _ => rfl)) (ap_cons _ (ap_cons _ (ap_cons _ rfl))))) (ap_cons _ (ap_cons _ rfl)))))))))))
theorem f21_eq (k : Nat) (xs : DL f21_sig) : den T f21_Y (f21_E k) f21_A k f21_c 0 (σ0 26 80 f21_sig xs) (Kfin T f21_rs f21_ts) = f21 k xs.1 xs.2.1 :=
  Eq.trans (Eq.trans den_sb (ap_at (f21_fe k) _)) ((f21_entry_P k (f21_C_l0 k k) xs).trans (by rw [f21_l0_E k k] <;> rfl))
noncomputable def f21_con (k : Nat) : Con := ⟨f21_sig, f21_rs, fun xs => f21 k xs.1 xs.2.1⟩
theorem f21_ok (k : Nat) : PureOK Try.prog 21 f21_sig f21_rs (fun xs => f21 k xs.1 xs.2.1) :=
  (pure_of_den (k := k) (A := f21_A) (T := T) (Y := f21_Y) (E := f21_E k) (M := 80) (ts := f21_ts) T_ok trivial trivial mixed (f := 21) (fn := Try.f21) (c := f21_c) (by kernel_rfl) (by kernel_rfl) (by kernel_rfl) (by decide) (by kernel_rfl)).congr fun xs => (f21_eq k xs).symm
theorem f21_ent : Ent Try.prog 21 := fun args w => by kernel_rfl
/-! ### terrier/net.Turn: function 63 -/
noncomputable def f63_c : Code := Try.f63.body.getD .skip
noncomputable abbrev f63_p (n : Nat) : Code := sb f63_c n
abbrev f63_sig : List PT := [(true, Tq9), (false, (.int .i64)), (false, (.int .i64))]
abbrev f63_rs : List RT := [.d false .bool]
abbrev f63_ts : List RV := [.tmp 6]
abbrev f63_S := St → Option (RDL f63_rs)
abbrev f63_L := List (Fr (RDL f63_rs))
def f63_Y : Tys := []
noncomputable def f63_E (k : Nat) : Env := [(46, .c (f46_con k)), (62, .c (f62_con k))]
def f63_A : Ann := { regs := [(1, { slots := [(6, .bool)] })] }
noncomputable abbrev f63_a (k : Nat) (F : f63_L) : Kont (RDL f63_rs) := ap T f63_Y (f63_E k) f63_A k (Kfin T f63_rs f63_ts) F
def f63_s_r1 (x6 : Bool) : St := mkS 39 128 [(6, aB x6)] []
abbrev f63_t_r1 := Bool → Option (Bool × Unit)
abbrev f63_o_r1 (R : f63_S) : f63_t_r1 := (fun x6 => R (f63_s_r1 x6))
noncomputable def f63_Q_r1 (k : Nat) : f63_L := [.c (f63_p 7) 0]
noncomputable def f63_C_r1 (k : Nat) : f63_S := fun σ => f63_a k (f63_Q_r1 k) .nx σ
noncomputable def f63_F_r1 (k : Nat) : f63_L := .c (f63_p 7) 0 :: []
theorem f63_f_r1 (k : Nat) : f63_a k (f63_Q_r1 k) = f63_a k (f63_F_r1 k) := (ap_cons _ rfl)
def f63_entry_B (k : Nat) (g_r1 : f63_t_r1) (a0 : Td12) (a1 : Int) (a2 : Int) : Option (Bool × Unit) := ((f62 k (a0.1, (a0.2.1, a0.2.2)) a1).bind fun r1 => (if r1.1 = true then ((f62 k (a0.1, (a0.2.1, a0.2.2)) a2).bind fun r2 => (if r2.1 = true then (if 0 ≤ a1 then (if a1 < (a0.2.1.length : Int) then (if 0 ≤ a2 then (if a2 < (a0.2.1.length : Int) then (if (((a0.2.1.getD (a1).toNat (0, (0, (0, 0)))).2).1) = ((a0.2.1.getD (a2).toNat (0, (0, (0, 0)))).1) then ((f46 k a0.2.2 (a1, a2)).bind fun r3 => (g_r1 (decide (¬ (r3.1 = true))))) else (g_r1 false)) else none) else none) else none) else none) else (g_r1 false))) else (g_r1 false)))
def f63_r1_B (k : Nat) (x6 : Bool) : Option (Bool × Unit) := some (decide (x6 = true), ())
theorem f63_r1_P (k : Nat) : f63_o_r1 (fun σ => f63_a k (f63_F_r1 k) .nx σ) = f63_r1_B k := by kernel_rfl
def f63_r1 (k : Nat) : f63_t_r1 := f63_r1_B k
theorem f63_r1_E (k : Nat) : f63_o_r1 (f63_C_r1 k) = f63_r1 k :=
  Eq.trans (congrArg f63_o_r1 (ap_fn (f63_f_r1 k))) ((f63_r1_P k).trans (by rfl))
theorem f63_entry_P (k : Nat) (G_r1 : f63_S) (xs : DL f63_sig) : f63_a k (.c (f63_p 2) 0 :: .c (f63_p 6) 0 :: .j G_r1 :: f63_F_r1 k) .nx (σ0 39 128 f63_sig xs) = f63_entry_B k (f63_o_r1 G_r1) xs.1 xs.2.1 xs.2.2.1 := by kernel_rfl
def f63 (k : Nat) (a0 : Td12) (a1 : Int) (a2 : Int) : Option (Bool × Unit) := f63_entry_B k (f63_r1 k) a0 a1 a2
theorem f63_fe (k : Nat) : f63_a k [.c (f63_p 1) 0] = f63_a k (.c (f63_p 2) 0 :: .c (f63_p 6) 0 :: .j (f63_C_r1 k) :: f63_F_r1 k) := (Eq.trans ap_sq (ap_cons _ (Eq.trans ap_sq (ap_cons _ (Eq.trans (ap_pass (C := (f63_C_r1 k)) (fun _ => rfl)) (ap_cons _ (f63_f_r1 k)))))))
theorem f63_eq (k : Nat) (xs : DL f63_sig) : den T f63_Y (f63_E k) f63_A k f63_c 0 (σ0 39 128 f63_sig xs) (Kfin T f63_rs f63_ts) = f63 k xs.1 xs.2.1 xs.2.2.1 :=
  Eq.trans (Eq.trans den_sb (ap_at (f63_fe k) _)) ((f63_entry_P k (f63_C_r1 k) xs).trans (by rw [f63_r1_E k] <;> rfl))
noncomputable def f63_con (k : Nat) : Con := ⟨f63_sig, f63_rs, fun xs => f63 k xs.1 xs.2.1 xs.2.2.1⟩
theorem f63_ok (k : Nat) : PureOK Try.prog 63 f63_sig f63_rs (fun xs => f63 k xs.1 xs.2.1 xs.2.2.1) :=
  (pure_of_den (k := k) (A := f63_A) (T := T) (Y := f63_Y) (E := f63_E k) (M := 128) (ts := f63_ts) T_ok ⟨f46_ok k, f62_ok k, trivial⟩ ⟨f46_ent, f62_ent, trivial⟩ mixed (f := 63) (fn := Try.f63) (c := f63_c) (by kernel_rfl) (by kernel_rfl) (by kernel_rfl) (by decide) (by kernel_rfl)).congr fun xs => (f63_eq k xs).symm
theorem f63_ent : Ent Try.prog 63 := fun args w => by kernel_rfl
/-! ### terrier/route.start: function 58 -/
noncomputable def f58_c : Code := Try.f58.body.getD .skip
noncomputable abbrev f58_p (n : Nat) : Code := sb f58_c n
abbrev f58_sig : List PT := [(true, Tq9)]
abbrev f58_rs : List RT := [.obj (.box [.d Tq9, .o, .d Tq13]) [.row Tq17]]
abbrev f58_ts : List RV := [.tmp 2]
abbrev f58_S := St → Option (RDL f58_rs)
abbrev f58_L := List (Fr (RDL f58_rs))
def f58_Y : Tys := [(3, (.int .i64)), (22, Tq21), (108, Tq17)]
noncomputable def f58_E (k : Nat) : Env := [(21, .c (f21_con k)), (63, .c (f63_con k))]
def f58_A : Ann := { loops := [(0, { slots := [(1, .id), (3, .id), (20, .val false Tq6), (21, .id), (22, .id)], keys := [(1, [.val false Tq2, .val false Tq6, .val false Tq2]), (12, []), (16, []), (18, [.val false Tq2, .val false Tq6, .val false Tq2, .id, .id])] }), (2, { slots := [(1, .id), (3, .id), (4, .id), (20, .val false Tq6), (21, .id), (22, .id), (30, .id), (31, .id), (32, .id)], keys := [(1, [.val false Tq2, .val false Tq6, .val false Tq2]), (12, []), (16, []), (18, [.val false Tq2, .val false Tq6, .val false Tq2, .id, .id]), (30, [])] })], blks := [(0, { unr := [16], slots := [(3, .id)], keys := [(12, []), (16, []), (18, [.val false Tq2, .val false Tq6, .val false Tq2, .id, .id])] })], conds := [(9, { slots := [(1, .id), (3, .id), (4, .id), (20, .val false Tq6), (21, .id), (22, .id), (30, .id), (31, .id), (32, .id)], keys := [(1, [.val false Tq2, .val false Tq6, .val false Tq2]), (12, []), (16, []), (18, [.val false Tq2, .val false Tq6, .val false Tq2, .id, .id]), (30, [])] })] }
noncomputable abbrev f58_a (k : Nat) (F : f58_L) : Kont (RDL f58_rs) := ap T f58_Y (f58_E k) f58_A k (Kfin T f58_rs f58_ts) F
def f58_s_l0 (y1_0 : (List (Int × Int))) (y1_1 : (List (Int × (Int × (Int × Int))))) (y1_2 : (List (Int × Int))) (y12 : (List (Int × (Int × (Int × (Bool × Bool)))))) (y16 : (List (List Int))) (x21 : Int) (x22 : Int) : St := mkS 59 192 [(1, aP 1), (3, aP 18), (20, aV Tq6 y1_1), (21, aI x21), (22, aI x22)] [(1, .box [cV Tq2 y1_0, cV Tq6 y1_1, cV Tq2 y1_2]), (12, .vec Tq17 y12), (16, .rows (.int .i64) y16 none), (18, .box [cV Tq2 y1_0, cV Tq6 y1_1, cV Tq2 y1_2, .own 12, .own 16])]
abbrev f58_t_l0 := (List (Int × Int)) → (List (Int × (Int × (Int × Int)))) → (List (Int × Int)) → (List (Int × (Int × (Int × (Bool × Bool))))) → (List (List Int)) → Int → Int → Option (((Td12 × Td18 × Unit) × (List (Int × Td20)) × Unit) × Unit)
abbrev f58_o_l0 (R : f58_S) : f58_t_l0 := (fun y1_0 y1_1 y1_2 y12 y16 x21 x22 => R (f58_s_l0 y1_0 y1_1 y1_2 y12 y16 x21 x22))
noncomputable def f58_Q_l0 (k : Nat) (R_l0 : f58_S) : f58_L := [.c (f58_p 116) 0, .j (fun σ => R_l0 (cut f58_A.loops 0 σ)), .blk 0, .c (f58_p 15) 0]
noncomputable def f58_C_l0 (k : Nat) (n : Nat) (σ : St) : Option (RDL f58_rs) := loopK (fun σ K => den T f58_Y (f58_E k) f58_A k (f58_p 116) 0 σ K) (cut f58_A.loops 0) (f58_a k [.blk 0, .c (f58_p 15) 0]) n σ
def f58_s_l2 (y1_0 : (List (Int × Int))) (y1_1 : (List (Int × (Int × (Int × Int))))) (y1_2 : (List (Int × Int))) (y12 : (List (Int × (Int × (Int × (Bool × Bool)))))) (y16 : (List (List Int))) (y30 : (List Int)) (x21 : Int) (x22 : Int) (x31 : Int) (x32 : Int) : St := mkS 59 192 [(1, aP 1), (3, aP 18), (4, aI x22), (20, aV Tq6 y1_1), (21, aI x21), (22, aI x22), (30, aO 30), (31, aI x31), (32, aI x32)] [(1, .box [cV Tq2 y1_0, cV Tq6 y1_1, cV Tq2 y1_2]), (12, .vec Tq17 y12), (16, .rows (.int .i64) y16 none), (18, .box [cV Tq2 y1_0, cV Tq6 y1_1, cV Tq2 y1_2, .own 12, .own 16]), (30, .vec (.int .i64) y30)]
abbrev f58_t_l2 := (List (Int × Int)) → (List (Int × (Int × (Int × Int)))) → (List (Int × Int)) → (List (Int × (Int × (Int × (Bool × Bool))))) → (List (List Int)) → (List Int) → Int → Int → Int → Int → Option (((Td12 × Td18 × Unit) × (List (Int × Td20)) × Unit) × Unit)
abbrev f58_o_l2 (R : f58_S) : f58_t_l2 := (fun y1_0 y1_1 y1_2 y12 y16 y30 x21 x22 x31 x32 => R (f58_s_l2 y1_0 y1_1 y1_2 y12 y16 y30 x21 x22 x31 x32))
noncomputable def f58_Q_l2 (k : Nat) (R_l0 R_l2 : f58_S) : f58_L := [.c (f58_p 29900) 2, .j (fun σ => R_l2 (cut f58_A.loops 2 σ)), .blk 2, .blk 1, .c (f58_p 935) 0, .j (fun σ => R_l0 (cut f58_A.loops 0 σ)), .blk 0, .c (f58_p 15) 0]
noncomputable def f58_C_l2 (k : Nat) (R_l0 : f58_S) (n : Nat) (σ : St) : Option (RDL f58_rs) := loopK (fun σ K => den T f58_Y (f58_E k) f58_A k (f58_p 29900) 2 σ K) (cut f58_A.loops 2) (f58_a k [.blk 2, .blk 1, .c (f58_p 935) 0, .j (fun σ => R_l0 (cut f58_A.loops 0 σ)), .blk 0, .c (f58_p 15) 0]) n σ
def f58_s_b0 (y12 : (List (Int × (Int × (Int × (Bool × Bool)))))) (y16 : (List (List Int))) (y18_0 : (List (Int × Int))) (y18_1 : (List (Int × (Int × (Int × Int))))) (y18_2 : (List (Int × Int))) : St := mkS 59 192 [(3, aP 18)] [(12, .vec Tq17 y12), (16, .vec Tq1 y16), (18, .box [cV Tq2 y18_0, cV Tq6 y18_1, cV Tq2 y18_2, .own 12, .own 16])]
abbrev f58_t_b0 := (List (Int × (Int × (Int × (Bool × Bool))))) → (List (List Int)) → (List (Int × Int)) → (List (Int × (Int × (Int × Int)))) → (List (Int × Int)) → Option (((Td12 × Td18 × Unit) × (List (Int × Td20)) × Unit) × Unit)
abbrev f58_o_b0 (R : f58_S) : f58_t_b0 := (fun y12 y16 y18_0 y18_1 y18_2 => R (f58_s_b0 y12 y16 y18_0 y18_1 y18_2))
noncomputable def f58_Q_b0 (k : Nat) : f58_L := [.c (f58_p 15) 0]
noncomputable def f58_C_b0 (k : Nat) : f58_S := fun σ => f58_a k (f58_Q_b0 k) .nx σ
def f58_s_c9 (y1_0 : (List (Int × Int))) (y1_1 : (List (Int × (Int × (Int × Int))))) (y1_2 : (List (Int × Int))) (y12 : (List (Int × (Int × (Int × (Bool × Bool)))))) (y16 : (List (List Int))) (y30 : (List Int)) (x21 : Int) (x22 : Int) (x31 : Int) (x32 : Int) : St := mkS 59 192 [(1, aP 1), (3, aP 18), (4, aI x22), (20, aV Tq6 y1_1), (21, aI x21), (22, aI x22), (30, aO 30), (31, aI x31), (32, aI x32)] [(1, .box [cV Tq2 y1_0, cV Tq6 y1_1, cV Tq2 y1_2]), (12, .vec Tq17 y12), (16, .rows (.int .i64) y16 none), (18, .box [cV Tq2 y1_0, cV Tq6 y1_1, cV Tq2 y1_2, .own 12, .own 16]), (30, .vec (.int .i64) y30)]
abbrev f58_t_c9 := (List (Int × Int)) → (List (Int × (Int × (Int × Int)))) → (List (Int × Int)) → (List (Int × (Int × (Int × (Bool × Bool))))) → (List (List Int)) → (List Int) → Int → Int → Int → Int → Option (((Td12 × Td18 × Unit) × (List (Int × Td20)) × Unit) × Unit)
abbrev f58_o_c9 (R : f58_S) : f58_t_c9 := (fun y1_0 y1_1 y1_2 y12 y16 y30 x21 x22 x31 x32 => R (f58_s_c9 y1_0 y1_1 y1_2 y12 y16 y30 x21 x22 x31 x32))
noncomputable def f58_Q_c9 (k : Nat) (R_l2 R_l0 : f58_S) : f58_L := [.blk 3, .c (f58_p 239207) 2, .j (fun σ => R_l2 (cut f58_A.loops 2 σ)), .blk 2, .blk 1, .c (f58_p 935) 0, .j (fun σ => R_l0 (cut f58_A.loops 0 σ)), .blk 0, .c (f58_p 15) 0]
noncomputable def f58_C_c9 (k : Nat) (R_l2 R_l0 : f58_S) : f58_S := fun σ => f58_a k (f58_Q_c9 k R_l2 R_l0) .nx σ
noncomputable def f58_F_b0 (k : Nat) : f58_L := .c (f58_p 15) 0 :: []
theorem f58_f_b0 (k : Nat) : f58_a k (f58_Q_b0 k) = f58_a k (f58_F_b0 k) := (ap_cons _ rfl)
noncomputable def f58_F_l0 (k : Nat) (G_l0 G_l2 G_b0 : f58_S) : f58_L := .c (f58_p 232) 0 :: .c (f58_p 466) 0 :: .j (fun σ => f58_a k (.c (f58_p 3736) 1 :: .c (f58_p 7474) 1 :: .j (fun σ => f58_a k (.j (fun σ => G_l2 (cut f58_A.loops 2 σ)) :: .blk 2 :: .blk 1 :: .c (f58_p 935) 0 :: .j (fun σ => G_l0 (cut f58_A.loops 0 σ)) :: .b 0 (fun σ => G_b0 (cut f58_A.blks 0 σ)) :: f58_F_b0 k) .nx σ) :: .blk 1 :: .c (f58_p 935) 0 :: .j (fun σ => G_l0 (cut f58_A.loops 0 σ)) :: .b 0 (fun σ => G_b0 (cut f58_A.blks 0 σ)) :: f58_F_b0 k) .nx σ) :: .c (f58_p 935) 0 :: .j (fun σ => G_l0 (cut f58_A.loops 0 σ)) :: .b 0 (fun σ => G_b0 (cut f58_A.blks 0 σ)) :: f58_F_b0 k
theorem f58_f_l0 (k : Nat) (R_l0 : f58_S) : f58_a k (f58_Q_l0 k R_l0) = f58_a k (f58_F_l0 k R_l0 (f58_C_l2 k R_l0 k) (f58_C_b0 k)) := (Eq.trans ap_sq (ap_cons _ (Eq.trans ap_sq (ap_cons _ (Eq.trans ap_sq (Eq.trans (ap_bl 1) (Eq.trans (ap_j (Eq.trans ap_sq (ap_cons _ (Eq.trans ap_sq (ap_cons _ (Eq.trans (ap_bl 2) (Eq.trans (ap_j (Eq.trans (ap_lp (C := (f58_C_l2 k R_l0)) (fun _ _ => rfl)) (ap_cons _ (ap_cons _ (ap_cons _ (ap_cons _ (ap_cons _ (Eq.trans (ap_blkb (C := (f58_C_b0 k)) (fun _ => rfl)) (ap_cons _ (f58_f_b0 k)))))))))) (ap_cons _ (ap_cons _ (ap_cons _ (ap_cons _ (Eq.trans (ap_blkb (C := (f58_C_b0 k)) (fun _ => rfl)) (ap_cons _ (f58_f_b0 k)))))))))))))) (ap_cons _ (ap_cons _ (ap_cons _ (Eq.trans (ap_blkb (C := (f58_C_b0 k)) (fun _ => rfl)) (ap_cons _ (f58_f_b0 k)))))))))))))
noncomputable def f58_F_c9 (k : Nat) (G_l0 G_l2 G_b0 : f58_S) : f58_L := .blk 3 :: .c (f58_p 239207) 2 :: .j (fun σ => G_l2 (cut f58_A.loops 2 σ)) :: .blk 2 :: .blk 1 :: .c (f58_p 935) 0 :: .j (fun σ => G_l0 (cut f58_A.loops 0 σ)) :: .b 0 (fun σ => G_b0 (cut f58_A.blks 0 σ)) :: f58_F_b0 k
theorem f58_f_c9 (k : Nat) (R_l2 R_l0 : f58_S) : f58_a k (f58_Q_c9 k R_l2 R_l0) = f58_a k (f58_F_c9 k R_l0 R_l2 (f58_C_b0 k)) := (ap_cons _ (ap_cons _ (ap_cons _ (ap_cons _ (ap_cons _ (ap_cons _ (ap_cons _ (Eq.trans (ap_blkb (C := (f58_C_b0 k)) (fun _ => rfl)) (ap_cons _ (f58_f_b0 k))))))))))
noncomputable def f58_F_l2 (k : Nat) (G_l0 G_l2 G_b0 G_c9 : f58_S) : f58_L := .c (f58_p 59800) 2 :: .c (f58_p 119602) 2 :: .j (fun σ => f58_a k (.c (f58_p 956824) 3 :: .c (f58_p 1913650) 3 :: .c (f58_p 1913651) 3 :: .j G_c9 :: f58_F_c9 k G_l0 G_l2 G_b0) .nx σ) :: .c (f58_p 239207) 2 :: .j (fun σ => G_l2 (cut f58_A.loops 2 σ)) :: .blk 2 :: .blk 1 :: .c (f58_p 935) 0 :: .j (fun σ => G_l0 (cut f58_A.loops 0 σ)) :: .b 0 (fun σ => G_b0 (cut f58_A.blks 0 σ)) :: f58_F_b0 k
theorem f58_f_l2 (k : Nat) (R_l0 R_l2 : f58_S) : f58_a k (f58_Q_l2 k R_l0 R_l2) = f58_a k (f58_F_l2 k R_l0 R_l2 (f58_C_b0 k) (f58_C_c9 k R_l2 R_l0)) := (Eq.trans ap_sq (ap_cons _ (Eq.trans ap_sq (ap_cons _ (Eq.trans ap_sq (Eq.trans (ap_bl 3) (Eq.trans (ap_j (Eq.trans ap_sq (ap_cons _ (Eq.trans ap_sq (ap_cons _ (ap_cons _ (Eq.trans (ap_pass (C := (f58_C_c9 k R_l2 R_l0)) (fun _ => rfl)) (ap_cons _ (f58_f_c9 k R_l2 R_l0))))))))) (ap_cons _ (ap_cons _ (ap_cons _ (ap_cons _ (ap_cons _ (ap_cons _ (ap_cons _ (Eq.trans (ap_blkb (C := (f58_C_b0 k)) (fun _ => rfl)) (ap_cons _ (f58_f_b0 k)))))))))))))))))
def f58_entry_B (k : Nat) (g_l0 : f58_t_l0) (a0 : Td12) : Option (((Td12 × Td18 × Unit) × (List (Int × Td20)) × Unit) × Unit) := (if 0 ≤ (a0.2.1.length : Int) then (if (a0.2.1.length : Int) ≤ 1073741824 then (if 0 ≤ (a0.2.1.length : Int) then (if (a0.2.1.length : Int) ≤ 1073741824 then (g_l0 a0.1 a0.2.1 a0.2.2 (List.replicate ((a0.2.1.length : Int)).toNat ((0, (0, (0, (false, false)))) : (Int × (Int × (Int × (Bool × Bool)))))) (List.replicate ((a0.2.1.length : Int)).toNat ([] : List Int)) (a0.2.1.length : Int) 0) else none) else none) else none) else none)
def f58_l0_B (k : Nat) (g_l2 : f58_t_l2) (g_b0 : f58_t_b0) (y1_0 : (List (Int × Int))) (y1_1 : (List (Int × (Int × (Int × Int))))) (y1_2 : (List (Int × Int))) (y12 : (List (Int × (Int × (Int × (Bool × Bool)))))) (y16 : (List (List Int))) (x21 : Int) (x22 : Int) : Option (((Td12 × Td18 × Unit) × (List (Int × Td20)) × Unit) × Unit) := (if x22 < x21 then (if 0 ≤ x22 then (if x22 < (y1_1.length : Int) then ((f21 k (y1_0, (y1_1, y1_2)) (((y1_1.getD (x22).toNat (0, (0, (0, 0)))).2).1)).bind fun r1 => (g_l2 y1_0 y1_1 y1_2 y12 y16 r1.1 x21 x22 (r1.1.length : Int) 0)) else none) else none) else (g_b0 y12 y16 y1_0 y1_1 y1_2))
def f58_l2_B (k : Nat) (g_l0 : f58_t_l0) (g_c9 : f58_t_c9) (y1_0 : (List (Int × Int))) (y1_1 : (List (Int × (Int × (Int × Int))))) (y1_2 : (List (Int × Int))) (y12 : (List (Int × (Int × (Int × (Bool × Bool)))))) (y16 : (List (List Int))) (y30 : (List Int)) (x21 : Int) (x22 : Int) (x31 : Int) (x32 : Int) : Option (((Td12 × Td18 × Unit) × (List (Int × Td20)) × Unit) × Unit) := (if x32 < x31 then (if 0 ≤ x32 then (if x32 < (y30.length : Int) then ((f63 k (y1_0, (y1_1, y1_2)) x22 (y30.getD ((x32).toNat) 0)).bind fun r1 => (if r1.1 = true then (if 0 ≤ x22 then (if x22 < (y16.length : Int) then (if ((y16.getD ((x22).toNat) []).length + 1) * 8 ≤ 140737488355328 then (if 0 ≤ x22 then (if x22 < (y16.length : Int) then (if ((x22).toNat) = ((x22).toNat) then (g_c9 y1_0 y1_1 y1_2 y12 (y16.set ((x22).toNat) ((y16.getD ((x22).toNat) []) ++ [(y30.getD ((x32).toNat) 0)])) y30 x21 x22 x31 x32) else none) else none) else none) else none) else none) else none) else (g_c9 y1_0 y1_1 y1_2 y12 y16 y30 x21 x22 x31 x32))) else none) else none) else (g_l0 y1_0 y1_1 y1_2 y12 y16 x21 (w64 (x22 + 1))))
def f58_b0_B (k : Nat) (y12 : (List (Int × (Int × (Int × (Bool × Bool)))))) (y16 : (List (List Int))) (y18_0 : (List (Int × Int))) (y18_1 : (List (Int × (Int × (Int × Int))))) (y18_2 : (List (Int × Int))) : Option (((Td12 × Td18 × Unit) × (List (Int × Td20)) × Unit) × Unit) := some ((((y18_0, (y18_1, y18_2)), y16, ()), (y12, ())), ())
def f58_c9_B (k : Nat) (g_l2 : f58_t_l2) (y1_0 : (List (Int × Int))) (y1_1 : (List (Int × (Int × (Int × Int))))) (y1_2 : (List (Int × Int))) (y12 : (List (Int × (Int × (Int × (Bool × Bool)))))) (y16 : (List (List Int))) (y30 : (List Int)) (x21 : Int) (x22 : Int) (x31 : Int) (x32 : Int) : Option (((Td12 × Td18 × Unit) × (List (Int × Td20)) × Unit) × Unit) := (g_l2 y1_0 y1_1 y1_2 y12 y16 y30 x21 x22 x31 (w64 (x32 + 1)))
theorem f58_c9_P (k : Nat) (G_l0 G_l2 G_b0 : f58_S) : f58_o_c9 (fun σ => f58_a k (f58_F_c9 k G_l0 G_l2 G_b0) .nx σ) = f58_c9_B k (f58_o_l2 G_l2) := by kernel_rfl
def f58_c9 (k : Nat) (r_l2 : f58_t_l2) (r_l0 : f58_t_l0) : f58_t_c9 := f58_c9_B k r_l2
theorem f58_c9_E (k : Nat) (R_l2 R_l0 : f58_S) : f58_o_c9 (f58_C_c9 k R_l2 R_l0) = f58_c9 k (f58_o_l2 R_l2) (f58_o_l0 R_l0) :=
  Eq.trans (congrArg f58_o_c9 (ap_fn (f58_f_c9 k R_l2 R_l0))) ((f58_c9_P k R_l0 R_l2 (f58_C_b0 k)).trans (by rfl))
theorem f58_l2_P (k : Nat) (G_l0 G_l2 G_b0 G_c9 : f58_S) : f58_o_l2 (fun σ => f58_a k (f58_F_l2 k G_l0 G_l2 G_b0 G_c9) .nx σ) = f58_l2_B k (f58_o_l0 G_l0) (f58_o_c9 G_c9) := by kernel_rfl
def f58_l2 (k : Nat) (r_l0 : f58_t_l0) : Nat → f58_t_l2
  | 0 => fun _ _ _ _ _ _ _ _ _ _ => none
  | n + 1 => f58_l2_B k r_l0 (f58_c9 k (f58_l2 k r_l0 n) r_l0)
theorem f58_l2_E (k : Nat) (R_l0 : f58_S) : ∀ n, f58_o_l2 (f58_C_l2 k R_l0 n) = f58_l2 k (f58_o_l0 R_l0) n
  | 0 => rfl
  | n + 1 =>
    Eq.trans (congrArg f58_o_l2 (Eq.trans (b := fun σ => f58_a k (f58_Q_l2 k R_l0 (f58_C_l2 k R_l0 n)) .nx σ) (by kernel_rfl) (ap_fn (f58_f_l2 k R_l0 (f58_C_l2 k R_l0 n))))) ((f58_l2_P k R_l0 (f58_C_l2 k R_l0 n) (f58_C_b0 k) (f58_C_c9 k (f58_C_l2 k R_l0 n) R_l0)).trans (by rw [f58_c9_E k (f58_C_l2 k R_l0 n) R_l0, f58_l2_E k R_l0 n] <;> rfl))
theorem f58_b0_P (k : Nat) : f58_o_b0 (fun σ => f58_a k (f58_F_b0 k) .nx σ) = f58_b0_B k := by kernel_rfl
def f58_b0 (k : Nat) : f58_t_b0 := f58_b0_B k
theorem f58_b0_E (k : Nat) : f58_o_b0 (f58_C_b0 k) = f58_b0 k :=
  Eq.trans (congrArg f58_o_b0 (ap_fn (f58_f_b0 k))) ((f58_b0_P k).trans (by rfl))
theorem f58_l0_P (k : Nat) (G_l0 G_l2 G_b0 : f58_S) : f58_o_l0 (fun σ => f58_a k (f58_F_l0 k G_l0 G_l2 G_b0) .nx σ) = f58_l0_B k (f58_o_l2 G_l2) (f58_o_b0 G_b0) := by kernel_rfl
def f58_l0 (k : Nat) : Nat → f58_t_l0
  | 0 => fun _ _ _ _ _ _ _ => none
  | n + 1 => f58_l0_B k (f58_l2 k (f58_l0 k n) k) (f58_b0 k)
theorem f58_l0_E (k : Nat) : ∀ n, f58_o_l0 (f58_C_l0 k n) = f58_l0 k n
  | 0 => rfl
  | n + 1 =>
    Eq.trans (congrArg f58_o_l0 (Eq.trans (b := fun σ => f58_a k (f58_Q_l0 k (f58_C_l0 k n)) .nx σ) (by kernel_rfl) (ap_fn (f58_f_l0 k (f58_C_l0 k n))))) ((f58_l0_P k (f58_C_l0 k n) (f58_C_l2 k (f58_C_l0 k n) k) (f58_C_b0 k)).trans (by rw [f58_l2_E k (f58_C_l0 k n) k, f58_b0_E k, f58_l0_E k n] <;> rfl))
theorem f58_entry_P (k : Nat) (G_l0 G_b0 : f58_S) (xs : DL f58_sig) : f58_a k (.c (f58_p 2) 0 :: .c (f58_p 6) 0 :: .c (f58_p 28) 0 :: .j (fun σ => f58_a k (.j (fun σ => G_l0 (cut f58_A.loops 0 σ)) :: .b 0 (fun σ => G_b0 (cut f58_A.blks 0 σ)) :: f58_F_b0 k) .nx σ) :: f58_F_b0 k) .nx (σ0 59 192 f58_sig xs) = f58_entry_B k (f58_o_l0 G_l0) xs.1 := by kernel_rfl
def f58 (k : Nat) (a0 : Td12) : Option (((Td12 × Td18 × Unit) × (List (Int × Td20)) × Unit) × Unit) := f58_entry_B k (f58_l0 k k) a0
theorem f58_fe (k : Nat) : f58_a k [.c (f58_p 1) 0] = f58_a k (.c (f58_p 2) 0 :: .c (f58_p 6) 0 :: .c (f58_p 28) 0 :: .j (fun σ => f58_a k (.j (fun σ => (f58_C_l0 k k) (cut f58_A.loops 0 σ)) :: .b 0 (fun σ => (f58_C_b0 k) (cut f58_A.blks 0 σ)) :: f58_F_b0 k) .nx σ) :: f58_F_b0 k) := (Eq.trans ap_sq (ap_cons _ (Eq.trans ap_sq (ap_cons _ (Eq.trans ap_sq (Eq.trans ap_sq (ap_cons _ (Eq.trans (ap_bl 0) (Eq.trans (ap_j (Eq.trans (ap_lp (C := (f58_C_l0 k)) (fun _ _ => rfl)) (ap_cons _ (Eq.trans (ap_blkb (C := (f58_C_b0 k)) (fun _ => rfl)) (ap_cons _ (f58_f_b0 k)))))) (ap_cons _ (f58_f_b0 k)))))))))))
theorem f58_eq (k : Nat) (xs : DL f58_sig) : den T f58_Y (f58_E k) f58_A k f58_c 0 (σ0 59 192 f58_sig xs) (Kfin T f58_rs f58_ts) = f58 k xs.1 :=
  Eq.trans (Eq.trans den_sb (ap_at (f58_fe k) _)) ((f58_entry_P k (f58_C_l0 k k) (f58_C_b0 k) xs).trans (by rw [f58_l0_E k k] <;> rfl))
noncomputable def f58_con (k : Nat) : Con := ⟨f58_sig, f58_rs, fun xs => f58 k xs.1⟩
theorem f58_ok (k : Nat) : PureOK Try.prog 58 f58_sig f58_rs (fun xs => f58 k xs.1) :=
  (pure_of_den (k := k) (A := f58_A) (T := T) (Y := f58_Y) (E := f58_E k) (M := 192) (ts := f58_ts) T_ok ⟨f21_ok k, f63_ok k, trivial⟩ ⟨f21_ent, f63_ent, trivial⟩ mixed (f := 58) (fn := Try.f58) (c := f58_c) (by kernel_rfl) (by kernel_rfl) (by kernel_rfl) (by decide) (by kernel_rfl)).congr fun xs => (f58_eq k xs).symm
theorem f58_ent : Ent Try.prog 58 := fun args w => by kernel_rfl
/-! ### slices.Reverse[[]int,int]: function 84 -/
noncomputable def f84_c : Code := Try.f84.body.getD .skip
noncomputable abbrev f84_p (n : Nat) : Code := sb f84_c n
abbrev f84_sig : List PT := []
abbrev f84_rs : List RT := []
abbrev f84_ts : List RV := []
abbrev f84_ls : List LO := [.row (.int .i64)]
abbrev f84_S := St → Option (LOD f84_ls × RDL f84_rs)
abbrev f84_L := List (Fr (LOD f84_ls × RDL f84_rs))
def f84_Y : Tys := []
noncomputable def f84_E (k : Nat) : Env := []
def f84_A : Ann := { loops := [(0, { slots := [(0, .id), (2, .id), (3, .id)], keys := [(0, [])] })] }
noncomputable abbrev f84_a (k : Nat) (F : f84_L) : Kont (LOD f84_ls × RDL f84_rs) := ap T f84_Y (f84_E k) f84_A k (KfinB T true f84_ls f84_rs f84_ts) F
def f84_s_l0 (y0 : (List Int)) (x2 : Int) (x3 : Int) : St := mkS 28 97 [(0, aO 0), (2, aI x2), (3, aI x3)] [(0, .vec (.int .i64) y0)]
abbrev f84_t_l0 := (List Int) → Int → Int → Option (((List Int) × Unit) × (Unit))
abbrev f84_o_l0 (R : f84_S) : f84_t_l0 := (fun y0 x2 x3 => R (f84_s_l0 y0 x2 x3))
noncomputable def f84_Q_l0 (k : Nat) (R_l0 : f84_S) : f84_L := [.c (f84_p 12) 0, .j (fun σ => R_l0 (cut f84_A.loops 0 σ)), .blk 0]
noncomputable def f84_C_l0 (k : Nat) (n : Nat) (σ : St) : Option (LOD f84_ls × RDL f84_rs) := loopK (fun σ K => den T f84_Y (f84_E k) f84_A k (f84_p 12) 0 σ K) (cut f84_A.loops 0) (f84_a k [.blk 0]) n σ
noncomputable def f84_F_l0 (k : Nat) (G_l0 : f84_S) : f84_L := .c (f84_p 12) 0 :: .j (fun σ => G_l0 (cut f84_A.loops 0 σ)) :: .blk 0 :: []
theorem f84_f_l0 (k : Nat) (R_l0 : f84_S) : f84_a k (f84_Q_l0 k R_l0) = f84_a k (f84_F_l0 k R_l0) := (ap_cons _ (ap_cons _ (ap_cons _ rfl)))
def f84_entry_B (k : Nat) (g_l0 : f84_t_l0) (a : (List Int)) : Option (((List Int) × Unit) × (Unit)) := (g_l0 a 0 (w64 ((a.length : Int) - 1)))
def f84_l0_B (k : Nat) (g_l0 : f84_t_l0) (y0 : (List Int)) (x2 : Int) (x3 : Int) : Option (((List Int) × Unit) × (Unit)) := (if x2 < x3 then (if 0 ≤ x3 then (if x3 < (y0.length : Int) then (if 0 ≤ x2 then (if x2 < (y0.length : Int) then (if 0 ≤ x2 then (if x2 < (y0.length : Int) then (if 0 ≤ x3 then (if x3 < ((y0.set ((x2).toNat) (y0.getD ((x3).toNat) 0)).length : Int) then (g_l0 ((y0.set ((x2).toNat) (y0.getD ((x3).toNat) 0)).set ((x3).toNat) (y0.getD ((x2).toNat) 0)) (w64 (x2 + 1)) (w64 (x3 - 1))) else none) else none) else none) else none) else none) else none) else none) else none) else some ((y0, ()), (())))
theorem f84_l0_P (k : Nat) (G_l0 : f84_S) : f84_o_l0 (fun σ => f84_a k (f84_F_l0 k G_l0) .nx σ) = f84_l0_B k (f84_o_l0 G_l0) := by kernel_rfl
def f84_l0 (k : Nat) : Nat → f84_t_l0
  | 0 => fun _ _ _ => none
  | n + 1 => f84_l0_B k (f84_l0 k n)
theorem f84_l0_E (k : Nat) : ∀ n, f84_o_l0 (f84_C_l0 k n) = f84_l0 k n
  | 0 => rfl
  | n + 1 =>
    Eq.trans (congrArg f84_o_l0 (Eq.trans (b := fun σ => f84_a k (f84_Q_l0 k (f84_C_l0 k n)) .nx σ) (by kernel_rfl) (ap_fn (f84_f_l0 k (f84_C_l0 k n))))) ((f84_l0_P k (f84_C_l0 k n)).trans (by rw [f84_l0_E k n] <;> rfl))
theorem f84_entry_P (k : Nat) (G_l0 : f84_S) (x : LOD f84_ls) (xs : DL f84_sig) : f84_a k (.c (f84_p 2) 0 :: .j (fun σ => f84_a k (.j (fun σ => G_l0 (cut f84_A.loops 0 σ)) :: .blk 0 :: []) .nx σ) :: []) .nx (σ0B 28 97 0 f84_ls x f84_sig xs) = f84_entry_B k (f84_o_l0 G_l0) x.1 := by kernel_rfl
def f84 (k : Nat) (a : (List Int)) : Option (((List Int) × Unit) × (Unit)) := f84_entry_B k (f84_l0 k k) a
theorem f84_fe (k : Nat) : f84_a k [.c (f84_p 1) 0] = f84_a k (.c (f84_p 2) 0 :: .j (fun σ => f84_a k (.j (fun σ => (f84_C_l0 k k) (cut f84_A.loops 0 σ)) :: .blk 0 :: []) .nx σ) :: []) := (Eq.trans ap_sq (ap_cons _ (Eq.trans (ap_bl 0) (Eq.trans (ap_j (Eq.trans (ap_lp (C := (f84_C_l0 k)) (fun _ _ => rfl)) (ap_cons _ (ap_cons _ rfl)))) (ap_cons _ rfl)))))
theorem f84_eq (k : Nat) (x : LOD f84_ls) (xs : DL f84_sig) : den T f84_Y (f84_E k) f84_A k f84_c 0 (σ0B 28 97 0 f84_ls x f84_sig xs) (KfinB T true f84_ls f84_rs f84_ts) = f84 k x.1 :=
  Eq.trans (Eq.trans den_sb (ap_at (f84_fe k) _)) ((f84_entry_P k (f84_C_l0 k k) x xs).trans (by rw [f84_l0_E k k] <;> rfl))
noncomputable def f84_con (k : Nat) : BCon := ⟨0, true, f84_ls, f84_sig, f84_rs, fun x xs => f84 k x.1⟩
theorem f84_ok (k : Nat) : BoxOK Try.prog 84 0 true f84_ls f84_sig f84_rs (fun x xs => f84 k x.1) :=
  (box_of_den (k := k) (A := f84_A) (T := T) (Y := f84_Y) (E := f84_E k) (M := 97) (ts := f84_ts) T_ok trivial trivial mixed (f := 84) (fn := Try.f84) (c := f84_c) (by kernel_rfl) (by kernel_rfl) (by kernel_rfl) (by decide) (by kernel_rfl) (by decide)).congr fun x xs => (f84_eq k x xs).symm
theorem f84_ent : Ent Try.prog 84 := fun args w => by kernel_rfl
/-! ### (*terrier/route.search).way: function 61 -/
noncomputable def f61_c : Code := Try.f61.body.getD .skip
noncomputable abbrev f61_p (n : Nat) : Code := sb f61_c n
abbrev f61_sig : List PT := [(false, (.ptr Tq24)), (false, (.int .i64))]
abbrev f61_rs : List RT := [.new (.int .i64)]
abbrev f61_ts : List RV := [.tmp 4]
abbrev f61_S := St → Option (RDL f61_rs)
abbrev f61_L := List (Fr (RDL f61_rs))
def f61_Y : Tys := [(3, (.int .i64))]
noncomputable def f61_E (k : Nat) : Env := [(84, .b (f84_con k))]
def f61_A : Ann := { loops := [(0, { mat := [(5, 19, (.int .i64))], slots := [(0, .id), (1, .id), (5, .id)], keys := [(19, [])] })] }
noncomputable abbrev f61_a (k : Nat) (F : f61_L) : Kont (RDL f61_rs) := ap T f61_Y (f61_E k) f61_A k (Kfin T f61_rs f61_ts) F
def f61_s_l0 (y19 : (List Int)) (x0 : (((List (Int × Int)) × ((List (Int × (Int × (Int × Int)))) × (List (Int × Int)))) × ((List (Int × (Int × (Int × (Bool × Bool))))) × (List (List Int))))) (x1 : Int) : St := mkS 23 80 [(0, .cp (.one (.fptr Tq24 x0 0))), (1, aI x1), (5, aO 19)] [(19, .vec (.int .i64) y19)]
abbrev f61_t_l0 := (List Int) → (((List (Int × Int)) × ((List (Int × (Int × (Int × Int)))) × (List (Int × Int)))) × ((List (Int × (Int × (Int × (Bool × Bool))))) × (List (List Int)))) → Int → Option ((List Int) × Unit)
abbrev f61_o_l0 (R : f61_S) : f61_t_l0 := (fun y19 x0 x1 => R (f61_s_l0 y19 x0 x1))
noncomputable def f61_Q_l0 (k : Nat) (R_l0 : f61_S) : f61_L := [.c (f61_p 56) 0, .j (fun σ => R_l0 (cut f61_A.loops 0 σ)), .blk 0, .c (f61_p 15) 0]
noncomputable def f61_C_l0 (k : Nat) (n : Nat) (σ : St) : Option (RDL f61_rs) := loopK (fun σ K => den T f61_Y (f61_E k) f61_A k (f61_p 56) 0 σ K) (cut f61_A.loops 0) (f61_a k [.blk 0, .c (f61_p 15) 0]) n σ
noncomputable def f61_F_l0 (k : Nat) (G_l0 : f61_S) : f61_L := .c (f61_p 56) 0 :: .j (fun σ => G_l0 (cut f61_A.loops 0 σ)) :: .blk 0 :: .c (f61_p 15) 0 :: []
theorem f61_f_l0 (k : Nat) (R_l0 : f61_S) : f61_a k (f61_Q_l0 k R_l0) = f61_a k (f61_F_l0 k R_l0) := (ap_cons _ (ap_cons _ (ap_cons _ (ap_cons _ rfl))))
def f61_entry_B (k : Nat) (g_l0 : f61_t_l0) (a0 : Td27) (a1 : Int) : Option ((List Int) × Unit) := (g_l0 ([] : List Int) a0 a1)
def f61_l0_B (k : Nat) (g_l0 : f61_t_l0) (y19 : (List Int)) (x0 : (((List (Int × Int)) × ((List (Int × (Int × (Int × Int)))) × (List (Int × Int)))) × ((List (Int × (Int × (Int × (Bool × Bool))))) × (List (List Int))))) (x1 : Int) : Option ((List Int) × Unit) := (if 0 ≤ x1 then (if (y19.length + 1) * 8 ≤ 140737488355328 then (if 0 ≤ x1 then (if x1 < (x0.2.1.length : Int) then (g_l0 (y19 ++ [x1]) x0 ((((x0.2.1.getD (x1).toNat (0, (0, (0, (false, false))))).2).2).1)) else none) else none) else none) else ((f84 k y19).bind fun r1 => some (r1.1.1, ())))
theorem f61_l0_P (k : Nat) (G_l0 : f61_S) : f61_o_l0 (fun σ => f61_a k (f61_F_l0 k G_l0) .nx σ) = f61_l0_B k (f61_o_l0 G_l0) := by kernel_rfl
def f61_l0 (k : Nat) : Nat → f61_t_l0
  | 0 => fun _ _ _ => none
  | n + 1 => f61_l0_B k (f61_l0 k n)
theorem f61_l0_E (k : Nat) : ∀ n, f61_o_l0 (f61_C_l0 k n) = f61_l0 k n
  | 0 => rfl
  | n + 1 =>
    Eq.trans (congrArg f61_o_l0 (Eq.trans (b := fun σ => f61_a k (f61_Q_l0 k (f61_C_l0 k n)) .nx σ) (by kernel_rfl) (ap_fn (f61_f_l0 k (f61_C_l0 k n))))) ((f61_l0_P k (f61_C_l0 k n)).trans (by rw [f61_l0_E k n] <;> rfl))
theorem f61_entry_P (k : Nat) (G_l0 : f61_S) (xs : DL f61_sig) : f61_a k (.c (f61_p 2) 0 :: .c (f61_p 6) 0 :: .j (fun σ => f61_a k (.j (fun σ => G_l0 (cut f61_A.loops 0 σ)) :: .blk 0 :: .c (f61_p 15) 0 :: []) .nx σ) :: .c (f61_p 15) 0 :: []) .nx (σ0 23 80 f61_sig xs) = f61_entry_B k (f61_o_l0 G_l0) xs.1 xs.2.1 := by kernel_rfl
def f61 (k : Nat) (a0 : Td27) (a1 : Int) : Option ((List Int) × Unit) := f61_entry_B k (f61_l0 k k) a0 a1
theorem f61_fe (k : Nat) : f61_a k [.c (f61_p 1) 0] = f61_a k (.c (f61_p 2) 0 :: .c (f61_p 6) 0 :: .j (fun σ => f61_a k (.j (fun σ => (f61_C_l0 k k) (cut f61_A.loops 0 σ)) :: .blk 0 :: .c (f61_p 15) 0 :: []) .nx σ) :: .c (f61_p 15) 0 :: []) := (Eq.trans ap_sq (ap_cons _ (Eq.trans ap_sq (ap_cons _ (Eq.trans ap_sq (Eq.trans (ap_bl 0) (Eq.trans (ap_j (Eq.trans (ap_lp (C := (f61_C_l0 k)) (fun _ _ => rfl)) (ap_cons _ (ap_cons _ (ap_cons _ rfl))))) (ap_cons _ (ap_cons _ rfl)))))))))
theorem f61_eq (k : Nat) (xs : DL f61_sig) : den T f61_Y (f61_E k) f61_A k f61_c 0 (σ0 23 80 f61_sig xs) (Kfin T f61_rs f61_ts) = f61 k xs.1 xs.2.1 :=
  Eq.trans (Eq.trans den_sb (ap_at (f61_fe k) _)) ((f61_entry_P k (f61_C_l0 k k) xs).trans (by rw [f61_l0_E k k] <;> rfl))
noncomputable def f61_con (k : Nat) : Con := ⟨f61_sig, f61_rs, fun xs => f61 k xs.1 xs.2.1⟩
theorem f61_ok (k : Nat) : PureOK Try.prog 61 f61_sig f61_rs (fun xs => f61 k xs.1 xs.2.1) :=
  (pure_of_den (k := k) (A := f61_A) (T := T) (Y := f61_Y) (E := f61_E k) (M := 80) (ts := f61_ts) T_ok ⟨f84_ok k, trivial⟩ ⟨f84_ent, trivial⟩ mixed (f := 61) (fn := Try.f61) (c := f61_c) (by kernel_rfl) (by kernel_rfl) (by kernel_rfl) (by decide) (by kernel_rfl)).congr fun xs => (f61_eq k xs).symm
theorem f61_ent : Ent Try.prog 61 := fun args w => by kernel_rfl
/-! ### cmp.isNaN[int]: function 118 -/
noncomputable def f118_c : Code := Try.f118.body.getD .skip
noncomputable abbrev f118_p (n : Nat) : Code := sb f118_c n
abbrev f118_sig : List PT := [(false, (.int .i64))]
abbrev f118_rs : List RT := [.d false .bool]
abbrev f118_ts : List RV := [.tmp 2]
abbrev f118_S := St → Option (RDL f118_rs)
abbrev f118_L := List (Fr (RDL f118_rs))
def f118_Y : Tys := []
noncomputable def f118_E (k : Nat) : Env := []
def f118_A : Ann := {}
noncomputable abbrev f118_a (k : Nat) (F : f118_L) : Kont (RDL f118_rs) := ap T f118_Y (f118_E k) f118_A k (Kfin T f118_rs f118_ts) F
def f118_entry_B (k : Nat) (a0 : Int) : Option (Bool × Unit) := some (decide (¬ (a0 = a0)), ())
theorem f118_entry_P (k : Nat) (xs : DL f118_sig) : f118_a k (.c (f118_p 1) 0 :: []) .nx (σ0 6 32 f118_sig xs) = f118_entry_B k xs.1 := by kernel_rfl
def f118 (k : Nat) (a0 : Int) : Option (Bool × Unit) := f118_entry_B k a0
theorem f118_eq (k : Nat) (xs : DL f118_sig) : den T f118_Y (f118_E k) f118_A k f118_c 0 (σ0 6 32 f118_sig xs) (Kfin T f118_rs f118_ts) = f118 k xs.1 :=
  Eq.trans (Eq.trans den_sb (ap_at (ap_cons _ rfl) _)) ((f118_entry_P k xs).trans (by rfl))
noncomputable def f118_con (k : Nat) : Con := ⟨f118_sig, f118_rs, fun xs => f118 k xs.1⟩
theorem f118_ok (k : Nat) : PureOK Try.prog 118 f118_sig f118_rs (fun xs => f118 k xs.1) :=
  (pure_of_den (k := k) (A := f118_A) (T := T) (Y := f118_Y) (E := f118_E k) (M := 32) (ts := f118_ts) T_ok trivial trivial mixed (f := 118) (fn := Try.f118) (c := f118_c) (by kernel_rfl) (by kernel_rfl) (by kernel_rfl) (by decide) (by kernel_rfl)).congr fun xs => (f118_eq k xs).symm
theorem f118_ent : Ent Try.prog 118 := fun args w => by kernel_rfl
/-! ### cmp.Compare[int]: function 111 -/
noncomputable def f111_c : Code := Try.f111.body.getD .skip
noncomputable abbrev f111_p (n : Nat) : Code := sb f111_c n
abbrev f111_sig : List PT := [(false, (.int .i64)), (false, (.int .i64))]
abbrev f111_rs : List RT := [.d false (.int .i64)]
abbrev f111_ts : List RV := [.tmp 4]
abbrev f111_S := St → Option (RDL f111_rs)
abbrev f111_L := List (Fr (RDL f111_rs))
def f111_Y : Tys := []
noncomputable def f111_E (k : Nat) : Env := [(118, .c (f118_con k))]
def f111_A : Ann := {}
noncomputable abbrev f111_a (k : Nat) (F : f111_L) : Kont (RDL f111_rs) := ap T f111_Y (f111_E k) f111_A k (Kfin T f111_rs f111_ts) F
def f111_entry_B (k : Nat) (a0 : Int) (a1 : Int) : Option (Int × Unit) := ((f118 k a0).bind fun r1 => ((f118 k a1).bind fun r2 => (if r1.1 = true then (if r2.1 = true then some (0, ()) else some ((-1), ())) else (if r2.1 = true then some (1, ()) else (if a0 < a1 then some ((-1), ()) else (if a1 < a0 then some (1, ()) else some (0, ())))))))
theorem f111_entry_P (k : Nat) (xs : DL f111_sig) : f111_a k (.c (f111_p 1) 0 :: []) .nx (σ0 20 64 f111_sig xs) = f111_entry_B k xs.1 xs.2.1 := by kernel_rfl
def f111 (k : Nat) (a0 : Int) (a1 : Int) : Option (Int × Unit) := f111_entry_B k a0 a1
theorem f111_eq (k : Nat) (xs : DL f111_sig) : den T f111_Y (f111_E k) f111_A k f111_c 0 (σ0 20 64 f111_sig xs) (Kfin T f111_rs f111_ts) = f111 k xs.1 xs.2.1 :=
  Eq.trans (Eq.trans den_sb (ap_at (ap_cons _ rfl) _)) ((f111_entry_P k xs).trans (by rfl))
noncomputable def f111_con (k : Nat) : Con := ⟨f111_sig, f111_rs, fun xs => f111 k xs.1 xs.2.1⟩
theorem f111_ok (k : Nat) : PureOK Try.prog 111 f111_sig f111_rs (fun xs => f111 k xs.1 xs.2.1) :=
  (pure_of_den (k := k) (A := f111_A) (T := T) (Y := f111_Y) (E := f111_E k) (M := 64) (ts := f111_ts) T_ok ⟨f118_ok k, trivial⟩ ⟨f118_ent, trivial⟩ mixed (f := 111) (fn := Try.f111) (c := f111_c) (by kernel_rfl) (by kernel_rfl) (by kernel_rfl) (by decide) (by kernel_rfl)).congr fun xs => (f111_eq k xs).symm
theorem f111_ent : Ent Try.prog 111 := fun args w => by kernel_rfl
/-! ### slices.Compare[[]int,int]: function 81 -/
noncomputable def f81_c : Code := Try.f81.body.getD .skip
noncomputable abbrev f81_p (n : Nat) : Code := sb f81_c n
abbrev f81_sig : List PT := [(false, Tq1), (false, Tq1)]
abbrev f81_rs : List RT := [.d false (.int .i64)]
abbrev f81_ts : List RV := [.tmp 4]
abbrev f81_S := St → Option (RDL f81_rs)
abbrev f81_L := List (Fr (RDL f81_rs))
def f81_Y : Tys := []
noncomputable def f81_E (k : Nat) : Env := [(111, .c (f111_con k))]
def f81_A : Ann := { loops := [(0, { slots := [(0, .val false (.int .i64)), (1, .val false (.int .i64)), (9, .val false (.int .i64)), (10, .id), (11, .id)] })] }
noncomputable abbrev f81_a (k : Nat) (F : f81_L) : Kont (RDL f81_rs) := ap T f81_Y (f81_E k) f81_A k (Kfin T f81_rs f81_ts) F
def f81_s_l0 (x0 : (List Int)) (x1 : (List Int)) (x10 : Int) (x11 : Int) : St := mkS 36 112 [(0, aV (.int .i64) x0), (1, aV (.int .i64) x1), (9, aV (.int .i64) x0), (10, aI x10), (11, aI x11)] []
abbrev f81_t_l0 := (List Int) → (List Int) → Int → Int → Option (Int × Unit)
abbrev f81_o_l0 (R : f81_S) : f81_t_l0 := (fun x0 x1 x10 x11 => R (f81_s_l0 x0 x1 x10 x11))
noncomputable def f81_Q_l0 (k : Nat) (R_l0 : f81_S) : f81_L := [.c (f81_p 52) 0, .j (fun σ => R_l0 (cut f81_A.loops 0 σ)), .blk 0, .c (f81_p 7) 0]
noncomputable def f81_C_l0 (k : Nat) (n : Nat) (σ : St) : Option (RDL f81_rs) := loopK (fun σ K => den T f81_Y (f81_E k) f81_A k (f81_p 52) 0 σ K) (cut f81_A.loops 0) (f81_a k [.blk 0, .c (f81_p 7) 0]) n σ
noncomputable def f81_F_l0 (k : Nat) (G_l0 : f81_S) : f81_L := .c (f81_p 52) 0 :: .j (fun σ => G_l0 (cut f81_A.loops 0 σ)) :: .blk 0 :: .c (f81_p 7) 0 :: []
theorem f81_f_l0 (k : Nat) (R_l0 : f81_S) : f81_a k (f81_Q_l0 k R_l0) = f81_a k (f81_F_l0 k R_l0) := (ap_cons _ (ap_cons _ (ap_cons _ (ap_cons _ rfl))))
def f81_entry_B (k : Nat) (g_l0 : f81_t_l0) (a0 : (List Int)) (a1 : (List Int)) : Option (Int × Unit) := (g_l0 a0 a1 (a0.length : Int) 0)
def f81_l0_B (k : Nat) (g_l0 : f81_t_l0) (x0 : (List Int)) (x1 : (List Int)) (x10 : Int) (x11 : Int) : Option (Int × Unit) := (if x11 < x10 then (if 0 ≤ x11 then (if x11 < (x0.length : Int) then (if (x1.length : Int) ≤ x11 then some (1, ()) else (if 0 ≤ x11 then (if x11 < (x1.length : Int) then ((f111 k (x0.getD (x11).toNat 0) (x1.getD (x11).toNat 0)).bind fun r1 => (if ¬ (r1.1 = 0) then some (r1.1, ()) else (g_l0 x0 x1 x10 (w64 (x11 + 1))))) else none) else none)) else none) else none) else (if (x0.length : Int) < (x1.length : Int) then some ((-1), ()) else some (0, ())))
theorem f81_l0_P (k : Nat) (G_l0 : f81_S) : f81_o_l0 (fun σ => f81_a k (f81_F_l0 k G_l0) .nx σ) = f81_l0_B k (f81_o_l0 G_l0) := by kernel_rfl
def f81_l0 (k : Nat) : Nat → f81_t_l0
  | 0 => fun _ _ _ _ => none
  | n + 1 => f81_l0_B k (f81_l0 k n)
theorem f81_l0_E (k : Nat) : ∀ n, f81_o_l0 (f81_C_l0 k n) = f81_l0 k n
  | 0 => rfl
  | n + 1 =>
    Eq.trans (congrArg f81_o_l0 (Eq.trans (b := fun σ => f81_a k (f81_Q_l0 k (f81_C_l0 k n)) .nx σ) (by kernel_rfl) (ap_fn (f81_f_l0 k (f81_C_l0 k n))))) ((f81_l0_P k (f81_C_l0 k n)).trans (by rw [f81_l0_E k n] <;> rfl))
theorem f81_entry_P (k : Nat) (G_l0 : f81_S) (xs : DL f81_sig) : f81_a k (.c (f81_p 2) 0 :: .c (f81_p 12) 0 :: .j (fun σ => f81_a k (.j (fun σ => G_l0 (cut f81_A.loops 0 σ)) :: .blk 0 :: .c (f81_p 7) 0 :: []) .nx σ) :: .c (f81_p 7) 0 :: []) .nx (σ0 36 112 f81_sig xs) = f81_entry_B k (f81_o_l0 G_l0) xs.1 xs.2.1 := by kernel_rfl
def f81 (k : Nat) (a0 : (List Int)) (a1 : (List Int)) : Option (Int × Unit) := f81_entry_B k (f81_l0 k k) a0 a1
theorem f81_fe (k : Nat) : f81_a k [.c (f81_p 1) 0] = f81_a k (.c (f81_p 2) 0 :: .c (f81_p 12) 0 :: .j (fun σ => f81_a k (.j (fun σ => (f81_C_l0 k k) (cut f81_A.loops 0 σ)) :: .blk 0 :: .c (f81_p 7) 0 :: []) .nx σ) :: .c (f81_p 7) 0 :: []) := (Eq.trans ap_sq (ap_cons _ (Eq.trans ap_sq (Eq.trans ap_sq (ap_cons _ (Eq.trans (ap_bl 0) (Eq.trans (ap_j (Eq.trans (ap_lp (C := (f81_C_l0 k)) (fun _ _ => rfl)) (ap_cons _ (ap_cons _ (ap_cons _ rfl))))) (ap_cons _ (ap_cons _ rfl)))))))))
theorem f81_eq (k : Nat) (xs : DL f81_sig) : den T f81_Y (f81_E k) f81_A k f81_c 0 (σ0 36 112 f81_sig xs) (Kfin T f81_rs f81_ts) = f81 k xs.1 xs.2.1 :=
  Eq.trans (Eq.trans den_sb (ap_at (f81_fe k) _)) ((f81_entry_P k (f81_C_l0 k k) xs).trans (by rw [f81_l0_E k k] <;> rfl))
noncomputable def f81_con (k : Nat) : Con := ⟨f81_sig, f81_rs, fun xs => f81 k xs.1 xs.2.1⟩
theorem f81_ok (k : Nat) : PureOK Try.prog 81 f81_sig f81_rs (fun xs => f81 k xs.1 xs.2.1) :=
  (pure_of_den (k := k) (A := f81_A) (T := T) (Y := f81_Y) (E := f81_E k) (M := 112) (ts := f81_ts) T_ok ⟨f111_ok k, trivial⟩ ⟨f111_ent, trivial⟩ mixed (f := 81) (fn := Try.f81) (c := f81_c) (by kernel_rfl) (by kernel_rfl) (by kernel_rfl) (by decide) (by kernel_rfl)).congr fun xs => (f81_eq k xs).symm
theorem f81_ent : Ent Try.prog 81 := fun args w => by kernel_rfl
/-! ### (*terrier/route.search).better: function 112 -/
noncomputable def f112_c : Code := Try.f112.body.getD .skip
noncomputable abbrev f112_p (n : Nat) : Code := sb f112_c n
abbrev f112_sig : List PT := [(false, (.ptr Tq24)), (false, (.int .i64)), (false, (.int .i64)), (false, (.int .i64)), (false, (.int .i64))]
abbrev f112_rs : List RT := [.d false .bool]
abbrev f112_ts : List RV := [.tmp 10]
abbrev f112_S := St → Option (RDL f112_rs)
abbrev f112_L := List (Fr (RDL f112_rs))
def f112_Y : Tys := [(3, (.int .i64))]
noncomputable def f112_E (k : Nat) : Env := [(61, .c (f61_con k)), (81, .c (f81_con k))]
def f112_A : Ann := { regs := [(2, { slots := [(0, .id), (1, .id), (3, .id), (4, .id), (11, .id), (29, .bool)], keys := [(11, [.id, .id, .id, .bool, .bool])] }), (3, { slots := [(10, .bool)] })], conds := [(3, { slots := [(0, .id), (1, .id), (4, .id), (11, .id)], keys := [(11, [.id, .id, .id, .bool, .bool])] }), (8, { frz := [47, 53], slots := [(0, .id), (11, .id), (12, .val false (.int .i64)), (13, .id)], keys := [(11, [.id, .id, .id, .bool, .bool]), (48, [])] }), (10, { frz := [48, 60], slots := [(12, .val false (.int .i64)), (13, .val false (.int .i64))] })] }
noncomputable abbrev f112_a (k : Nat) (F : f112_L) : Kont (RDL f112_rs) := ap T f112_Y (f112_E k) f112_A k (Kfin T f112_rs f112_ts) F
def f112_s_r2 (y11_0 : Int) (y11_1 : Int) (y11_2 : Int) (y11_3 : Bool) (y11_4 : Bool) (x0 : (((List (Int × Int)) × ((List (Int × (Int × (Int × Int)))) × (List (Int × Int)))) × ((List (Int × (Int × (Int × (Bool × Bool))))) × (List (List Int))))) (x1 : Int) (x29 : Bool) (x3 : Int) (x4 : Int) : St := mkS 65 208 [(0, .cp (.one (.fptr Tq24 x0 0))), (1, aI x1), (3, aI x3), (4, aI x4), (11, aP 11), (29, aB x29)] [(11, .box [cI y11_0, cI y11_1, cI y11_2, pB y11_3, pB y11_4])]
abbrev f112_t_r2 := Int → Int → Int → Bool → Bool → (((List (Int × Int)) × ((List (Int × (Int × (Int × Int)))) × (List (Int × Int)))) × ((List (Int × (Int × (Int × (Bool × Bool))))) × (List (List Int)))) → Int → Bool → Int → Int → Option (Bool × Unit)
abbrev f112_o_r2 (R : f112_S) : f112_t_r2 := (fun y11_0 y11_1 y11_2 y11_3 y11_4 x0 x1 x29 x3 x4 => R (f112_s_r2 y11_0 y11_1 y11_2 y11_3 y11_4 x0 x1 x29 x3 x4))
noncomputable def f112_Q_r2 (k : Nat) : f112_L := [.c (f112_p 29) 0, .c (f112_p 15) 0]
noncomputable def f112_C_r2 (k : Nat) : f112_S := fun σ => f112_a k (f112_Q_r2 k) .nx σ
def f112_s_r3 (x10 : Bool) : St := mkS 65 208 [(10, aB x10)] []
abbrev f112_t_r3 := Bool → Option (Bool × Unit)
abbrev f112_o_r3 (R : f112_S) : f112_t_r3 := (fun x10 => R (f112_s_r3 x10))
noncomputable def f112_Q_r3 (k : Nat) : f112_L := [.c (f112_p 117) 0, .cond 3, .c (f112_p 15) 0]
noncomputable def f112_C_r3 (k : Nat) : f112_S := fun σ => f112_a k (f112_Q_r3 k) .nx σ
def f112_s_c3 (y11_0 : Int) (y11_1 : Int) (y11_2 : Int) (y11_3 : Bool) (y11_4 : Bool) (x0 : (((List (Int × Int)) × ((List (Int × (Int × (Int × Int)))) × (List (Int × Int)))) × ((List (Int × (Int × (Int × (Bool × Bool))))) × (List (List Int))))) (x1 : Int) (x4 : Int) : St := mkS 65 208 [(0, .cp (.one (.fptr Tq24 x0 0))), (1, aI x1), (4, aI x4), (11, aP 11)] [(11, .box [cI y11_0, cI y11_1, cI y11_2, pB y11_3, pB y11_4])]
abbrev f112_t_c3 := Int → Int → Int → Bool → Bool → (((List (Int × Int)) × ((List (Int × (Int × (Int × Int)))) × (List (Int × Int)))) × ((List (Int × (Int × (Int × (Bool × Bool))))) × (List (List Int)))) → Int → Int → Option (Bool × Unit)
abbrev f112_o_c3 (R : f112_S) : f112_t_c3 := (fun y11_0 y11_1 y11_2 y11_3 y11_4 x0 x1 x4 => R (f112_s_c3 y11_0 y11_1 y11_2 y11_3 y11_4 x0 x1 x4))
noncomputable def f112_Q_c3 (k : Nat) : f112_L := [.c (f112_p 15) 0]
noncomputable def f112_C_c3 (k : Nat) : f112_S := fun σ => f112_a k (f112_Q_c3 k) .nx σ
def f112_s_c8 (y11_0 : Int) (y11_1 : Int) (y11_2 : Int) (y11_3 : Bool) (y11_4 : Bool) (y48 : (List Int)) (x0 : (((List (Int × Int)) × ((List (Int × (Int × (Int × Int)))) × (List (Int × Int)))) × ((List (Int × (Int × (Int × (Bool × Bool))))) × (List (List Int))))) (x12 : (List Int)) : St := mkS 65 208 [(0, .cp (.one (.fptr Tq24 x0 0))), (11, aP 11), (12, aV (.int .i64) x12), (13, aO 48)] [(11, .box [cI y11_0, cI y11_1, cI y11_2, pB y11_3, pB y11_4]), (48, .vec (.int .i64) y48)]
abbrev f112_t_c8 := Int → Int → Int → Bool → Bool → (List Int) → (((List (Int × Int)) × ((List (Int × (Int × (Int × Int)))) × (List (Int × Int)))) × ((List (Int × (Int × (Int × (Bool × Bool))))) × (List (List Int)))) → (List Int) → Option (Bool × Unit)
abbrev f112_o_c8 (R : f112_S) : f112_t_c8 := (fun y11_0 y11_1 y11_2 y11_3 y11_4 y48 x0 x12 => R (f112_s_c8 y11_0 y11_1 y11_2 y11_3 y11_4 y48 x0 x12))
noncomputable def f112_Q_c8 (k : Nat) : f112_L := [.c (f112_p 127) 0]
noncomputable def f112_C_c8 (k : Nat) : f112_S := fun σ => f112_a k (f112_Q_c8 k) .nx σ
def f112_s_c10 (x12 : (List Int)) (x13 : (List Int)) : St := mkS 65 208 [(12, aV (.int .i64) x12), (13, aV (.int .i64) x13)] []
abbrev f112_t_c10 := (List Int) → (List Int) → Option (Bool × Unit)
abbrev f112_o_c10 (R : f112_S) : f112_t_c10 := (fun x12 x13 => R (f112_s_c10 x12 x13))
noncomputable def f112_Q_c10 (k : Nat) : f112_L := [.c (f112_p 255) 0]
noncomputable def f112_C_c10 (k : Nat) : f112_S := fun σ => f112_a k (f112_Q_c10 k) .nx σ
noncomputable def f112_F_c10 (k : Nat) : f112_L := .c (f112_p 255) 0 :: []
theorem f112_f_c10 (k : Nat) : f112_a k (f112_Q_c10 k) = f112_a k (f112_F_c10 k) := (ap_cons _ rfl)
noncomputable def f112_F_c8 (k : Nat) (G_c10 : f112_S) : f112_L := .c (f112_p 508) 0 :: .c (f112_p 509) 0 :: .j G_c10 :: f112_F_c10 k
theorem f112_f_c8 (k : Nat) : f112_a k (f112_Q_c8 k) = f112_a k (f112_F_c8 k (f112_C_c10 k)) := (Eq.trans ap_sq (Eq.trans ap_sq (ap_cons _ (ap_cons _ (Eq.trans (ap_pass (C := (f112_C_c10 k)) (fun _ => rfl)) (ap_cons _ (f112_f_c10 k)))))))
noncomputable def f112_F_c3 (k : Nat) (G_c8 G_c10 : f112_S) : f112_L := .c (f112_p 30) 0 :: .c (f112_p 62) 0 :: .c (f112_p 252) 0 :: .c (f112_p 253) 0 :: .j G_c8 :: f112_F_c8 k G_c10
theorem f112_f_c3 (k : Nat) : f112_a k (f112_Q_c3 k) = f112_a k (f112_F_c3 k (f112_C_c8 k) (f112_C_c10 k)) := (Eq.trans ap_sq (ap_cons _ (Eq.trans ap_sq (ap_cons _ (Eq.trans ap_sq (Eq.trans ap_sq (ap_cons _ (ap_cons _ (Eq.trans (ap_pass (C := (f112_C_c8 k)) (fun _ => rfl)) (ap_cons _ (f112_f_c8 k)))))))))))
noncomputable def f112_F_r3 (k : Nat) (G_c3 G_c8 G_c10 : f112_S) : f112_L := .c (f112_p 117) 0 :: .j (fun σ => G_c3 (cut f112_A.conds 3 σ)) :: f112_F_c3 k G_c8 G_c10
theorem f112_f_r3 (k : Nat) : f112_a k (f112_Q_r3 k) = f112_a k (f112_F_r3 k (f112_C_c3 k) (f112_C_c8 k) (f112_C_c10 k)) := (ap_cons _ (Eq.trans (ap_condj (C := (f112_C_c3 k)) (fun _ => rfl)) (ap_cons _ (f112_f_c3 k))))
noncomputable def f112_F_r2 (k : Nat) (G_r3 G_c3 G_c8 G_c10 : f112_S) : f112_L := .i (.tmp 29) (fun σ => f112_a k (.c (f112_p 116) 0 :: .j G_r3 :: f112_F_r3 k G_c3 G_c8 G_c10) .nx σ) (fun σ => f112_a k (.c (f112_p 59) 0 :: .j (fun σ => G_c3 (cut f112_A.conds 3 σ)) :: f112_F_c3 k G_c8 G_c10) .nx σ) :: f112_F_c3 k G_c8 G_c10
theorem f112_f_r2 (k : Nat) : f112_a k (f112_Q_r2 k) = f112_a k (f112_F_r2 k (f112_C_r3 k) (f112_C_c3 k) (f112_C_c8 k) (f112_C_c10 k)) := (Eq.trans (ap_cn (.tmp 29) 3) (Eq.trans (ap_i (Eq.trans ap_sq (ap_cons _ (Eq.trans (ap_pass (C := (f112_C_r3 k)) (fun _ => rfl)) (ap_cons _ (f112_f_r3 k))))) (ap_cons _ (Eq.trans (ap_condj (C := (f112_C_c3 k)) (fun _ => rfl)) (ap_cons _ (f112_f_c3 k))))) (ap_cons _ (f112_f_c3 k))))
def f112_entry_B (k : Nat) (g_r2 : f112_t_r2) (a0 : Td27) (a1 : Int) (a2 : Int) (a3 : Int) (a4 : Int) : Option (Bool × Unit) := (if 0 ≤ a2 then (if a2 < (a0.2.1.length : Int) then (if ¬ ((((((a0.2.1.getD (a2).toNat (0, (0, (0, (false, false))))).2).2).2).1) = true) then (g_r2 ((a0.2.1.getD (a2).toNat (0, (0, (0, (false, false))))).1) (((a0.2.1.getD (a2).toNat (0, (0, (0, (false, false))))).2).1) ((((a0.2.1.getD (a2).toNat (0, (0, (0, (false, false))))).2).2).1) (decide ((((((a0.2.1.getD (a2).toNat (0, (0, (0, (false, false))))).2).2).2).1) = true)) (decide ((((((a0.2.1.getD (a2).toNat (0, (0, (0, (false, false))))).2).2).2).2) = true)) a0 a1 true a3 a4) else (g_r2 ((a0.2.1.getD (a2).toNat (0, (0, (0, (false, false))))).1) (((a0.2.1.getD (a2).toNat (0, (0, (0, (false, false))))).2).1) ((((a0.2.1.getD (a2).toNat (0, (0, (0, (false, false))))).2).2).1) (decide ((((((a0.2.1.getD (a2).toNat (0, (0, (0, (false, false))))).2).2).2).1) = true)) (decide ((((((a0.2.1.getD (a2).toNat (0, (0, (0, (false, false))))).2).2).2).2) = true)) a0 a1 (decide (¬ (a3 = ((a0.2.1.getD (a2).toNat (0, (0, (0, (false, false))))).1)))) a3 a4)) else none) else none)
def f112_r2_B (k : Nat) (g_r3 : f112_t_r3) (g_c3 : f112_t_c3) (y11_0 : Int) (y11_1 : Int) (y11_2 : Int) (y11_3 : Bool) (y11_4 : Bool) (x0 : (((List (Int × Int)) × ((List (Int × (Int × (Int × Int)))) × (List (Int × Int)))) × ((List (Int × (Int × (Int × (Bool × Bool))))) × (List (List Int))))) (x1 : Int) (x29 : Bool) (x3 : Int) (x4 : Int) : Option (Bool × Unit) := (if x29 = true then (if ¬ (y11_3 = true) then (g_r3 true) else (g_r3 (decide (x3 < y11_0)))) else (g_c3 y11_0 y11_1 y11_2 (decide (y11_3 = true)) (decide (y11_4 = true)) x0 x1 x4))
def f112_r3_B (k : Nat) (x10 : Bool) : Option (Bool × Unit) := some (decide (x10 = true), ())
def f112_c3_B (k : Nat) (g_c8 : f112_t_c8) (y11_0 : Int) (y11_1 : Int) (y11_2 : Int) (y11_3 : Bool) (y11_4 : Bool) (x0 : (((List (Int × Int)) × ((List (Int × (Int × (Int × Int)))) × (List (Int × Int)))) × ((List (Int × (Int × (Int × (Bool × Bool))))) × (List (List Int))))) (x1 : Int) (x4 : Int) : Option (Bool × Unit) := (if ¬ (x4 = y11_1) then some (decide (x4 < y11_1), ()) else (if 0 ≤ x1 then ((f61 k x0 x1).bind fun r1 => (g_c8 y11_0 y11_1 y11_2 (decide (y11_3 = true)) (decide (y11_4 = true)) ([] : List Int) x0 r1.1)) else (g_c8 y11_0 y11_1 y11_2 (decide (y11_3 = true)) (decide (y11_4 = true)) ([] : List Int) x0 ([] : List Int))))
def f112_c8_B (k : Nat) (g_c10 : f112_t_c10) (y11_0 : Int) (y11_1 : Int) (y11_2 : Int) (y11_3 : Bool) (y11_4 : Bool) (y48 : (List Int)) (x0 : (((List (Int × Int)) × ((List (Int × (Int × (Int × Int)))) × (List (Int × Int)))) × ((List (Int × (Int × (Int × (Bool × Bool))))) × (List (List Int))))) (x12 : (List Int)) : Option (Bool × Unit) := (if 0 ≤ y11_2 then ((f61 k x0 y11_2).bind fun r1 => (g_c10 x12 r1.1)) else (g_c10 x12 y48))
def f112_c10_B (k : Nat) (x12 : (List Int)) (x13 : (List Int)) : Option (Bool × Unit) := ((f81 k x12 x13).bind fun r1 => some (decide (r1.1 < 0), ()))
theorem f112_r3_P (k : Nat) (G_c3 G_c8 G_c10 : f112_S) : f112_o_r3 (fun σ => f112_a k (f112_F_r3 k G_c3 G_c8 G_c10) .nx σ) = f112_r3_B k := by kernel_rfl
def f112_r3 (k : Nat) : f112_t_r3 := f112_r3_B k
theorem f112_r3_E (k : Nat) : f112_o_r3 (f112_C_r3 k) = f112_r3 k :=
  Eq.trans (congrArg f112_o_r3 (ap_fn (f112_f_r3 k))) ((f112_r3_P k (f112_C_c3 k) (f112_C_c8 k) (f112_C_c10 k)).trans (by rfl))
theorem f112_c10_P (k : Nat) : f112_o_c10 (fun σ => f112_a k (f112_F_c10 k) .nx σ) = f112_c10_B k := by kernel_rfl
def f112_c10 (k : Nat) : f112_t_c10 := f112_c10_B k
theorem f112_c10_E (k : Nat) : f112_o_c10 (f112_C_c10 k) = f112_c10 k :=
  Eq.trans (congrArg f112_o_c10 (ap_fn (f112_f_c10 k))) ((f112_c10_P k).trans (by rfl))
theorem f112_c8_P (k : Nat) (G_c10 : f112_S) : f112_o_c8 (fun σ => f112_a k (f112_F_c8 k G_c10) .nx σ) = f112_c8_B k (f112_o_c10 G_c10) := by kernel_rfl
def f112_c8 (k : Nat) : f112_t_c8 := f112_c8_B k (f112_c10 k)
theorem f112_c8_E (k : Nat) : f112_o_c8 (f112_C_c8 k) = f112_c8 k :=
  Eq.trans (congrArg f112_o_c8 (ap_fn (f112_f_c8 k))) ((f112_c8_P k (f112_C_c10 k)).trans (by rw [f112_c10_E k] <;> rfl))
theorem f112_c3_P (k : Nat) (G_c8 G_c10 : f112_S) : f112_o_c3 (fun σ => f112_a k (f112_F_c3 k G_c8 G_c10) .nx σ) = f112_c3_B k (f112_o_c8 G_c8) := by kernel_rfl
def f112_c3 (k : Nat) : f112_t_c3 := f112_c3_B k (f112_c8 k)
theorem f112_c3_E (k : Nat) : f112_o_c3 (f112_C_c3 k) = f112_c3 k :=
  Eq.trans (congrArg f112_o_c3 (ap_fn (f112_f_c3 k))) ((f112_c3_P k (f112_C_c8 k) (f112_C_c10 k)).trans (by rw [f112_c8_E k] <;> rfl))
theorem f112_r2_P (k : Nat) (G_r3 G_c3 G_c8 G_c10 : f112_S) : f112_o_r2 (fun σ => f112_a k (f112_F_r2 k G_r3 G_c3 G_c8 G_c10) .nx σ) = f112_r2_B k (f112_o_r3 G_r3) (f112_o_c3 G_c3) := by kernel_rfl
def f112_r2 (k : Nat) : f112_t_r2 := f112_r2_B k (f112_r3 k) (f112_c3 k)
theorem f112_r2_E (k : Nat) : f112_o_r2 (f112_C_r2 k) = f112_r2 k :=
  Eq.trans (congrArg f112_o_r2 (ap_fn (f112_f_r2 k))) ((f112_r2_P k (f112_C_r3 k) (f112_C_c3 k) (f112_C_c8 k) (f112_C_c10 k)).trans (by rw [f112_r3_E k, f112_c3_E k] <;> rfl))
theorem f112_entry_P (k : Nat) (G_r2 G_r3 G_c3 G_c8 G_c10 : f112_S) (xs : DL f112_sig) : f112_a k (.c (f112_p 2) 0 :: .c (f112_p 6) 0 :: .c (f112_p 28) 0 :: .j G_r2 :: f112_F_r2 k G_r3 G_c3 G_c8 G_c10) .nx (σ0 65 208 f112_sig xs) = f112_entry_B k (f112_o_r2 G_r2) xs.1 xs.2.1 xs.2.2.1 xs.2.2.2.1 xs.2.2.2.2.1 := by kernel_rfl
def f112 (k : Nat) (a0 : Td27) (a1 : Int) (a2 : Int) (a3 : Int) (a4 : Int) : Option (Bool × Unit) := f112_entry_B k (f112_r2 k) a0 a1 a2 a3 a4
theorem f112_fe (k : Nat) : f112_a k [.c (f112_p 1) 0] = f112_a k (.c (f112_p 2) 0 :: .c (f112_p 6) 0 :: .c (f112_p 28) 0 :: .j (f112_C_r2 k) :: f112_F_r2 k (f112_C_r3 k) (f112_C_c3 k) (f112_C_c8 k) (f112_C_c10 k)) := (Eq.trans ap_sq (ap_cons _ (Eq.trans ap_sq (ap_cons _ (Eq.trans ap_sq (Eq.trans ap_sq (ap_cons _ (Eq.trans (ap_pass (C := (f112_C_r2 k)) (fun _ => rfl)) (ap_cons _ (f112_f_r2 k))))))))))
theorem f112_eq (k : Nat) (xs : DL f112_sig) : den T f112_Y (f112_E k) f112_A k f112_c 0 (σ0 65 208 f112_sig xs) (Kfin T f112_rs f112_ts) = f112 k xs.1 xs.2.1 xs.2.2.1 xs.2.2.2.1 xs.2.2.2.2.1 :=
  Eq.trans (Eq.trans den_sb (ap_at (f112_fe k) _)) ((f112_entry_P k (f112_C_r2 k) (f112_C_r3 k) (f112_C_c3 k) (f112_C_c8 k) (f112_C_c10 k) xs).trans (by rw [f112_r2_E k] <;> rfl))
noncomputable def f112_con (k : Nat) : Con := ⟨f112_sig, f112_rs, fun xs => f112 k xs.1 xs.2.1 xs.2.2.1 xs.2.2.2.1 xs.2.2.2.2.1⟩
theorem f112_ok (k : Nat) : PureOK Try.prog 112 f112_sig f112_rs (fun xs => f112 k xs.1 xs.2.1 xs.2.2.1 xs.2.2.2.1 xs.2.2.2.2.1) :=
  (pure_of_den (k := k) (A := f112_A) (T := T) (Y := f112_Y) (E := f112_E k) (M := 208) (ts := f112_ts) T_ok ⟨f61_ok k, f81_ok k, trivial⟩ ⟨f61_ent, f81_ent, trivial⟩ mixed (f := 112) (fn := Try.f112) (c := f112_c) (by kernel_rfl) (by kernel_rfl) (by kernel_rfl) (by decide) (by kernel_rfl)).congr fun xs => (f112_eq k xs).symm
theorem f112_ent : Ent Try.prog 112 := fun args w => by kernel_rfl
/-! ### (*terrier/route.search).offer: function 82 -/
noncomputable def f82_c : Code := Try.f82.body.getD .skip
noncomputable abbrev f82_p (n : Nat) : Code := sb f82_c n
abbrev f82_sig : List PT := [(false, (.int .i64)), (false, (.int .i64))]
abbrev f82_rs : List RT := []
abbrev f82_ts : List RV := []
abbrev f82_ls : List LO := [.box [.d Tq9, .o, .d Tq13], .row Tq17]
abbrev f82_S := St → Option (LOD f82_ls × RDL f82_rs)
abbrev f82_L := List (Fr (LOD f82_ls × RDL f82_rs))
def f82_Y : Tys := []
noncomputable def f82_E (k : Nat) : Env := [(112, .c (f112_con k))]
def f82_A : Ann := { conds := [(2, { slots := [(0, .id), (1, .id), (2, .id), (6, .id), (7, .id)], keys := [(0, [.val false Tq2, .val false Tq6, .val false Tq2, .id, .val false Tq1]), (1, [])] }), (4, { slots := [(0, .id)], keys := [(0, [.val false Tq2, .val false Tq6, .val false Tq2, .id, .val false Tq1]), (1, [])] })], regs := [(3, { slots := [(0, .id), (1, .id), (2, .id), (6, .id), (7, .id), (54, .bool)], keys := [(0, [.val false Tq2, .val false Tq6, .val false Tq2, .id, .val false Tq1]), (1, [])] })] }
noncomputable abbrev f82_a (k : Nat) (F : f82_L) : Kont (LOD f82_ls × RDL f82_rs) := ap T f82_Y (f82_E k) f82_A k (KfinB T true f82_ls f82_rs f82_ts) F
def f82_s_c2 (y0_0 : (List (Int × Int))) (y0_1 : (List (Int × (Int × (Int × Int))))) (y0_2 : (List (Int × Int))) (y0_4 : (List (List Int))) (y1 : (List (Int × (Int × (Int × (Bool × Bool)))))) (x1 : Int) (x2 : Int) (x6 : Int) (x7 : Int) : St := mkS 65 210 [(0, aP 0), (1, aI x1), (2, aI x2), (6, aI x6), (7, aI x7)] [(0, .box [cV Tq2 y0_0, cV Tq6 y0_1, cV Tq2 y0_2, .own 1, cV Tq1 y0_4]), (1, .vec Tq17 y1)]
abbrev f82_t_c2 := (List (Int × Int)) → (List (Int × (Int × (Int × Int)))) → (List (Int × Int)) → (List (List Int)) → (List (Int × (Int × (Int × (Bool × Bool))))) → Int → Int → Int → Int → Option (((Td12 × Td18 × Unit) × (List (Int × Td20)) × Unit) × (Unit))
abbrev f82_o_c2 (R : f82_S) : f82_t_c2 := (fun y0_0 y0_1 y0_2 y0_4 y1 x1 x2 x6 x7 => R (f82_s_c2 y0_0 y0_1 y0_2 y0_4 y1 x1 x2 x6 x7))
noncomputable def f82_Q_c2 (k : Nat) : f82_L := [.c (f82_p 7) 0]
noncomputable def f82_C_c2 (k : Nat) : f82_S := fun σ => f82_a k (f82_Q_c2 k) .nx σ
def f82_s_r3 (y0_0 : (List (Int × Int))) (y0_1 : (List (Int × (Int × (Int × Int))))) (y0_2 : (List (Int × Int))) (y0_4 : (List (List Int))) (y1 : (List (Int × (Int × (Int × (Bool × Bool)))))) (x1 : Int) (x2 : Int) (x54 : Bool) (x6 : Int) (x7 : Int) : St := mkS 65 210 [(0, aP 0), (1, aI x1), (2, aI x2), (6, aI x6), (7, aI x7), (54, aB x54)] [(0, .box [cV Tq2 y0_0, cV Tq6 y0_1, cV Tq2 y0_2, .own 1, cV Tq1 y0_4]), (1, .vec Tq17 y1)]
abbrev f82_t_r3 := (List (Int × Int)) → (List (Int × (Int × (Int × Int)))) → (List (Int × Int)) → (List (List Int)) → (List (Int × (Int × (Int × (Bool × Bool))))) → Int → Int → Bool → Int → Int → Option (((Td12 × Td18 × Unit) × (List (Int × Td20)) × Unit) × (Unit))
abbrev f82_o_r3 (R : f82_S) : f82_t_r3 := (fun y0_0 y0_1 y0_2 y0_4 y1 x1 x2 x54 x6 x7 => R (f82_s_r3 y0_0 y0_1 y0_2 y0_4 y1 x1 x2 x54 x6 x7))
noncomputable def f82_Q_r3 (k : Nat) : f82_L := [.c (f82_p 15) 0]
noncomputable def f82_C_r3 (k : Nat) : f82_S := fun σ => f82_a k (f82_Q_r3 k) .nx σ
def f82_s_c4 (y0_0 : (List (Int × Int))) (y0_1 : (List (Int × (Int × (Int × Int))))) (y0_2 : (List (Int × Int))) (y0_4 : (List (List Int))) (y1 : (List (Int × (Int × (Int × (Bool × Bool)))))) : St := mkS 65 210 [(0, aP 0)] [(0, .box [cV Tq2 y0_0, cV Tq6 y0_1, cV Tq2 y0_2, .own 1, cV Tq1 y0_4]), (1, .vec Tq17 y1)]
abbrev f82_t_c4 := (List (Int × Int)) → (List (Int × (Int × (Int × Int)))) → (List (Int × Int)) → (List (List Int)) → (List (Int × (Int × (Int × (Bool × Bool))))) → Option (((Td12 × Td18 × Unit) × (List (Int × Td20)) × Unit) × (Unit))
abbrev f82_o_c4 (R : f82_S) : f82_t_c4 := (fun y0_0 y0_1 y0_2 y0_4 y1 => R (f82_s_c4 y0_0 y0_1 y0_2 y0_4 y1))
noncomputable def f82_Q_c4 (k : Nat) : f82_L := []
noncomputable def f82_C_c4 (k : Nat) : f82_S := fun σ => f82_a k (f82_Q_c4 k) .nx σ
noncomputable def f82_F_c4 (k : Nat) : f82_L := []
theorem f82_f_c4 (k : Nat) : f82_a k (f82_Q_c4 k) = f82_a k (f82_F_c4 k) := rfl
noncomputable def f82_F_r3 (k : Nat) (G_c4 : f82_S) : f82_L := .c (f82_p 15) 0 :: .j G_c4 :: f82_F_c4 k
theorem f82_f_r3 (k : Nat) : f82_a k (f82_Q_r3 k) = f82_a k (f82_F_r3 k (f82_C_c4 k)) := (ap_cons _ (Eq.trans (ap_pass (C := (f82_C_c4 k)) (fun _ => rfl)) (ap_cons _ (f82_f_c4 k))))
noncomputable def f82_F_c2 (k : Nat) (G_r3 G_c4 : f82_S) : f82_L := .c (f82_p 14) 0 :: .j G_r3 :: f82_F_r3 k G_c4
theorem f82_f_c2 (k : Nat) : f82_a k (f82_Q_c2 k) = f82_a k (f82_F_c2 k (f82_C_r3 k) (f82_C_c4 k)) := (Eq.trans ap_sq (ap_cons _ (Eq.trans (ap_pass (C := (f82_C_r3 k)) (fun _ => rfl)) (ap_cons _ (f82_f_r3 k)))))
def f82_entry_B (k : Nat) (g_c2 : f82_t_c2) (l0 : Td12) (l1 : Td18) (l2 : Td25) (a0 : Int) (a1 : Int) : Option (((Td12 × Td18 × Unit) × (List (Int × Td20)) × Unit) × (Unit)) := (if 0 ≤ a1 then (if a1 < (l0.2.1.length : Int) then (if 0 ≤ a0 then (if 0 ≤ a0 then (if a0 < (l2.length : Int) then (if 0 ≤ a0 then (if a0 < (l2.length : Int) then (g_c2 l0.1 l0.2.1 l0.2.2 l1 l2 a0 a1 (w64 (((((l0.2.1.getD (a1).toNat (0, (0, (0, 0)))).2).2).1) + ((l2.getD ((a0).toNat) (0, (0, (0, (false, false))))).1))) (w64 (1 + (((l2.getD ((a0).toNat) (0, (0, (0, (false, false))))).2).1)))) else none) else none) else none) else none) else (g_c2 l0.1 l0.2.1 l0.2.2 l1 l2 a0 a1 ((((l0.2.1.getD (a1).toNat (0, (0, (0, 0)))).2).2).1) 1)) else none) else none)
def f82_c2_B (k : Nat) (g_r3 : f82_t_r3) (y0_0 : (List (Int × Int))) (y0_1 : (List (Int × (Int × (Int × Int))))) (y0_2 : (List (Int × Int))) (y0_4 : (List (List Int))) (y1 : (List (Int × (Int × (Int × (Bool × Bool)))))) (x1 : Int) (x2 : Int) (x6 : Int) (x7 : Int) : Option (((Td12 × Td18 × Unit) × (List (Int × Td20)) × Unit) × (Unit)) := (if 0 ≤ x2 then (if x2 < (y1.length : Int) then (if ¬ ((((((y1.getD ((x2).toNat) (0, (0, (0, (false, false))))).2).2).2).2) = true) then ((f112 k ((y0_0, (y0_1, y0_2)), (y1, y0_4)) x1 x2 x6 x7).bind fun r1 => (g_r3 y0_0 y0_1 y0_2 y0_4 y1 x1 x2 (decide (r1.1 = true)) x6 x7)) else (g_r3 y0_0 y0_1 y0_2 y0_4 y1 x1 x2 false x6 x7)) else none) else none)
def f82_r3_B (k : Nat) (g_c4 : f82_t_c4) (y0_0 : (List (Int × Int))) (y0_1 : (List (Int × (Int × (Int × Int))))) (y0_2 : (List (Int × Int))) (y0_4 : (List (List Int))) (y1 : (List (Int × (Int × (Int × (Bool × Bool)))))) (x1 : Int) (x2 : Int) (x54 : Bool) (x6 : Int) (x7 : Int) : Option (((Td12 × Td18 × Unit) × (List (Int × Td20)) × Unit) × (Unit)) := (if x54 = true then (if 0 ≤ x2 then (if x2 < (y1.length : Int) then (g_c4 y0_0 y0_1 y0_2 y0_4 (y1.set ((x2).toNat) (x6, (x7, (x1, (true, false)))))) else none) else none) else (g_c4 y0_0 y0_1 y0_2 y0_4 y1))
def f82_c4_B (k : Nat) (y0_0 : (List (Int × Int))) (y0_1 : (List (Int × (Int × (Int × Int))))) (y0_2 : (List (Int × Int))) (y0_4 : (List (List Int))) (y1 : (List (Int × (Int × (Int × (Bool × Bool)))))) : Option (((Td12 × Td18 × Unit) × (List (Int × Td20)) × Unit) × (Unit)) := some ((((y0_0, (y0_1, y0_2)), y0_4, ()), (y1, ())), (()))
theorem f82_c4_P (k : Nat) : f82_o_c4 (fun σ => f82_a k (f82_F_c4 k) .nx σ) = f82_c4_B k := by kernel_rfl
def f82_c4 (k : Nat) : f82_t_c4 := f82_c4_B k
theorem f82_c4_E (k : Nat) : f82_o_c4 (f82_C_c4 k) = f82_c4 k :=
  Eq.trans (congrArg f82_o_c4 (ap_fn (f82_f_c4 k))) ((f82_c4_P k).trans (by rfl))
theorem f82_r3_P (k : Nat) (G_c4 : f82_S) : f82_o_r3 (fun σ => f82_a k (f82_F_r3 k G_c4) .nx σ) = f82_r3_B k (f82_o_c4 G_c4) := by kernel_rfl
def f82_r3 (k : Nat) : f82_t_r3 := f82_r3_B k (f82_c4 k)
theorem f82_r3_E (k : Nat) : f82_o_r3 (f82_C_r3 k) = f82_r3 k :=
  Eq.trans (congrArg f82_o_r3 (ap_fn (f82_f_r3 k))) ((f82_r3_P k (f82_C_c4 k)).trans (by rw [f82_c4_E k] <;> rfl))
theorem f82_c2_P (k : Nat) (G_r3 G_c4 : f82_S) : f82_o_c2 (fun σ => f82_a k (f82_F_c2 k G_r3 G_c4) .nx σ) = f82_c2_B k (f82_o_r3 G_r3) := by kernel_rfl
def f82_c2 (k : Nat) : f82_t_c2 := f82_c2_B k (f82_r3 k)
theorem f82_c2_E (k : Nat) : f82_o_c2 (f82_C_c2 k) = f82_c2 k :=
  Eq.trans (congrArg f82_o_c2 (ap_fn (f82_f_c2 k))) ((f82_c2_P k (f82_C_r3 k) (f82_C_c4 k)).trans (by rw [f82_r3_E k] <;> rfl))
theorem f82_entry_P (k : Nat) (G_c2 G_r3 G_c4 : f82_S) (x : LOD f82_ls) (xs : DL f82_sig) : f82_a k (.c (f82_p 2) 0 :: .c (f82_p 12) 0 :: .c (f82_p 13) 0 :: .j G_c2 :: f82_F_c2 k G_r3 G_c4) .nx (σ0B 65 210 0 f82_ls x f82_sig xs) = f82_entry_B k (f82_o_c2 G_c2) x.1.1 x.1.2.1 x.2.1 xs.1 xs.2.1 := by kernel_rfl
def f82 (k : Nat) (l0 : Td12) (l1 : Td18) (l2 : Td25) (a0 : Int) (a1 : Int) : Option (((Td12 × Td18 × Unit) × (List (Int × Td20)) × Unit) × (Unit)) := f82_entry_B k (f82_c2 k) l0 l1 l2 a0 a1
theorem f82_fe (k : Nat) : f82_a k [.c (f82_p 1) 0] = f82_a k (.c (f82_p 2) 0 :: .c (f82_p 12) 0 :: .c (f82_p 13) 0 :: .j (f82_C_c2 k) :: f82_F_c2 k (f82_C_r3 k) (f82_C_c4 k)) := (Eq.trans ap_sq (ap_cons _ (Eq.trans ap_sq (Eq.trans ap_sq (ap_cons _ (ap_cons _ (Eq.trans (ap_pass (C := (f82_C_c2 k)) (fun _ => rfl)) (ap_cons _ (f82_f_c2 k)))))))))
theorem f82_eq (k : Nat) (x : LOD f82_ls) (xs : DL f82_sig) : den T f82_Y (f82_E k) f82_A k f82_c 0 (σ0B 65 210 0 f82_ls x f82_sig xs) (KfinB T true f82_ls f82_rs f82_ts) = f82 k x.1.1 x.1.2.1 x.2.1 xs.1 xs.2.1 :=
  Eq.trans (Eq.trans den_sb (ap_at (f82_fe k) _)) ((f82_entry_P k (f82_C_c2 k) (f82_C_r3 k) (f82_C_c4 k) x xs).trans (by rw [f82_c2_E k] <;> rfl))
noncomputable def f82_con (k : Nat) : BCon := ⟨0, true, f82_ls, f82_sig, f82_rs, fun x xs => f82 k x.1.1 x.1.2.1 x.2.1 xs.1 xs.2.1⟩
theorem f82_ok (k : Nat) : BoxOK Try.prog 82 0 true f82_ls f82_sig f82_rs (fun x xs => f82 k x.1.1 x.1.2.1 x.2.1 xs.1 xs.2.1) :=
  (box_of_den (k := k) (A := f82_A) (T := T) (Y := f82_Y) (E := f82_E k) (M := 210) (ts := f82_ts) T_ok ⟨f112_ok k, trivial⟩ ⟨f112_ent, trivial⟩ mixed (f := 82) (fn := Try.f82) (c := f82_c) (by kernel_rfl) (by kernel_rfl) (by kernel_rfl) (by decide) (by kernel_rfl) (by decide)).congr fun x xs => (f82_eq k x xs).symm
theorem f82_ent : Ent Try.prog 82 := fun args w => by kernel_rfl
/-! ### (*terrier/route.search).before: function 60 -/
noncomputable def f60_c : Code := Try.f60.body.getD .skip
noncomputable abbrev f60_p (n : Nat) : Code := sb f60_c n
abbrev f60_sig : List PT := [(false, (.ptr Tq24)), (false, (.int .i64)), (false, (.int .i64))]
abbrev f60_rs : List RT := [.d false .bool]
abbrev f60_ts : List RV := [.tmp 6]
abbrev f60_S := St → Option (RDL f60_rs)
abbrev f60_L := List (Fr (RDL f60_rs))
def f60_Y : Tys := []
noncomputable def f60_E (k : Nat) : Env := [(61, .c (f61_con k)), (81, .c (f81_con k))]
def f60_A : Ann := {}
noncomputable abbrev f60_a (k : Nat) (F : f60_L) : Kont (RDL f60_rs) := ap T f60_Y (f60_E k) f60_A k (Kfin T f60_rs f60_ts) F
def f60_entry_B (k : Nat) (a0 : Td27) (a1 : Int) (a2 : Int) : Option (Bool × Unit) := (if 0 ≤ a1 then (if a1 < (a0.2.1.length : Int) then (if 0 ≤ a2 then (if a2 < (a0.2.1.length : Int) then (if ¬ (((a0.2.1.getD (a1).toNat (0, (0, (0, (false, false))))).1) = ((a0.2.1.getD (a2).toNat (0, (0, (0, (false, false))))).1)) then some (decide (((a0.2.1.getD (a1).toNat (0, (0, (0, (false, false))))).1) < ((a0.2.1.getD (a2).toNat (0, (0, (0, (false, false))))).1)), ()) else (if ¬ ((((a0.2.1.getD (a1).toNat (0, (0, (0, (false, false))))).2).1) = (((a0.2.1.getD (a2).toNat (0, (0, (0, (false, false))))).2).1)) then some (decide ((((a0.2.1.getD (a1).toNat (0, (0, (0, (false, false))))).2).1) < (((a0.2.1.getD (a2).toNat (0, (0, (0, (false, false))))).2).1)), ()) else ((f61 k a0 a1).bind fun r1 => ((f61 k a0 a2).bind fun r2 => ((f81 k r1.1 r2.1).bind fun r3 => some (decide (r3.1 < 0), ())))))) else none) else none) else none) else none)
theorem f60_entry_P (k : Nat) (xs : DL f60_sig) : f60_a k (.c (f60_p 1) 0 :: []) .nx (σ0 51 160 f60_sig xs) = f60_entry_B k xs.1 xs.2.1 xs.2.2.1 := by kernel_rfl
def f60 (k : Nat) (a0 : Td27) (a1 : Int) (a2 : Int) : Option (Bool × Unit) := f60_entry_B k a0 a1 a2
theorem f60_eq (k : Nat) (xs : DL f60_sig) : den T f60_Y (f60_E k) f60_A k f60_c 0 (σ0 51 160 f60_sig xs) (Kfin T f60_rs f60_ts) = f60 k xs.1 xs.2.1 xs.2.2.1 :=
  Eq.trans (Eq.trans den_sb (ap_at (ap_cons _ rfl) _)) ((f60_entry_P k xs).trans (by rfl))
noncomputable def f60_con (k : Nat) : Con := ⟨f60_sig, f60_rs, fun xs => f60 k xs.1 xs.2.1 xs.2.2.1⟩
theorem f60_ok (k : Nat) : PureOK Try.prog 60 f60_sig f60_rs (fun xs => f60 k xs.1 xs.2.1 xs.2.2.1) :=
  (pure_of_den (k := k) (A := f60_A) (T := T) (Y := f60_Y) (E := f60_E k) (M := 160) (ts := f60_ts) T_ok ⟨f61_ok k, f81_ok k, trivial⟩ ⟨f61_ent, f81_ent, trivial⟩ mixed (f := 60) (fn := Try.f60) (c := f60_c) (by kernel_rfl) (by kernel_rfl) (by kernel_rfl) (by decide) (by kernel_rfl)).congr fun xs => (f60_eq k xs).symm
theorem f60_ent : Ent Try.prog 60 := fun args w => by kernel_rfl
/-! ### (*terrier/route.search).least: function 83 -/
noncomputable def f83_c : Code := Try.f83.body.getD .skip
noncomputable abbrev f83_p (n : Nat) : Code := sb f83_c n
abbrev f83_sig : List PT := [(false, (.ptr Tq24))]
abbrev f83_rs : List RT := [.d false (.int .i64)]
abbrev f83_ts : List RV := [.tmp 2]
abbrev f83_S := St → Option (RDL f83_rs)
abbrev f83_L := List (Fr (RDL f83_rs))
def f83_Y : Tys := []
noncomputable def f83_E (k : Nat) : Env := [(60, .c (f60_con k))]
def f83_A : Ann := { loops := [(0, { slots := [(0, .id), (3, .id), (9, .val false Tq17), (10, .id), (11, .id)] })], regs := [(5, { slots := [(0, .id), (3, .id), (4, .id), (9, .val false Tq17), (10, .id), (11, .id), (22, .bool)] }), (6, { slots := [(0, .id), (3, .id), (4, .id), (9, .val false Tq17), (10, .id), (11, .id), (30, .bool)] })], blks := [(1, { slots := [(0, .id), (3, .id), (9, .val false Tq17), (10, .id), (11, .id)] })], conds := [(7, { slots := [(0, .id), (3, .id), (9, .val false Tq17), (10, .id), (11, .id)] })] }
noncomputable abbrev f83_a (k : Nat) (F : f83_L) : Kont (RDL f83_rs) := ap T f83_Y (f83_E k) f83_A k (Kfin T f83_rs f83_ts) F
def f83_s_l0 (x0 : (((List (Int × Int)) × ((List (Int × (Int × (Int × Int)))) × (List (Int × Int)))) × ((List (Int × (Int × (Int × (Bool × Bool))))) × (List (List Int))))) (x10 : Int) (x11 : Int) (x3 : Int) (x9 : (List (Int × (Int × (Int × (Bool × Bool)))))) : St := mkS 34 112 [(0, .cp (.one (.fptr Tq24 x0 0))), (3, aI x3), (9, aV Tq17 x9), (10, aI x10), (11, aI x11)] []
abbrev f83_t_l0 := (((List (Int × Int)) × ((List (Int × (Int × (Int × Int)))) × (List (Int × Int)))) × ((List (Int × (Int × (Int × (Bool × Bool))))) × (List (List Int)))) → Int → Int → Int → (List (Int × (Int × (Int × (Bool × Bool))))) → Option (Int × Unit)
abbrev f83_o_l0 (R : f83_S) : f83_t_l0 := (fun x0 x10 x11 x3 x9 => R (f83_s_l0 x0 x10 x11 x3 x9))
noncomputable def f83_Q_l0 (k : Nat) (R_l0 : f83_S) : f83_L := [.c (f83_p 116) 0, .j (fun σ => R_l0 (cut f83_A.loops 0 σ)), .blk 0, .c (f83_p 15) 0]
noncomputable def f83_C_l0 (k : Nat) (n : Nat) (σ : St) : Option (RDL f83_rs) := loopK (fun σ K => den T f83_Y (f83_E k) f83_A k (f83_p 116) 0 σ K) (cut f83_A.loops 0) (f83_a k [.blk 0, .c (f83_p 15) 0]) n σ
def f83_s_r5 (x0 : (((List (Int × Int)) × ((List (Int × (Int × (Int × Int)))) × (List (Int × Int)))) × ((List (Int × (Int × (Int × (Bool × Bool))))) × (List (List Int))))) (x10 : Int) (x11 : Int) (x22 : Bool) (x3 : Int) (x9 : (List (Int × (Int × (Int × (Bool × Bool)))))) : St := mkS 34 112 [(0, .cp (.one (.fptr Tq24 x0 0))), (3, aI x3), (4, aI x11), (9, aV Tq17 x9), (10, aI x10), (11, aI x11), (22, aB x22)] []
abbrev f83_t_r5 := (((List (Int × Int)) × ((List (Int × (Int × (Int × Int)))) × (List (Int × Int)))) × ((List (Int × (Int × (Int × (Bool × Bool))))) × (List (List Int)))) → Int → Int → Bool → Int → (List (Int × (Int × (Int × (Bool × Bool))))) → Option (Int × Unit)
abbrev f83_o_r5 (R : f83_S) : f83_t_r5 := (fun x0 x10 x11 x22 x3 x9 => R (f83_s_r5 x0 x10 x11 x22 x3 x9))
noncomputable def f83_Q_r5 (k : Nat) (R_l0 : f83_S) : f83_L := [.c (f83_p 14949) 1, .c (f83_p 7475) 1, .blk 1, .c (f83_p 935) 0, .j (fun σ => R_l0 (cut f83_A.loops 0 σ)), .blk 0, .c (f83_p 15) 0]
noncomputable def f83_C_r5 (k : Nat) (R_l0 : f83_S) : f83_S := fun σ => f83_a k (f83_Q_r5 k R_l0) .nx σ
def f83_s_b1 (x0 : (((List (Int × Int)) × ((List (Int × (Int × (Int × Int)))) × (List (Int × Int)))) × ((List (Int × (Int × (Int × (Bool × Bool))))) × (List (List Int))))) (x10 : Int) (x11 : Int) (x3 : Int) (x9 : (List (Int × (Int × (Int × (Bool × Bool)))))) : St := mkS 34 112 [(0, .cp (.one (.fptr Tq24 x0 0))), (3, aI x3), (9, aV Tq17 x9), (10, aI x10), (11, aI x11)] []
abbrev f83_t_b1 := (((List (Int × Int)) × ((List (Int × (Int × (Int × Int)))) × (List (Int × Int)))) × ((List (Int × (Int × (Int × (Bool × Bool))))) × (List (List Int)))) → Int → Int → Int → (List (Int × (Int × (Int × (Bool × Bool))))) → Option (Int × Unit)
abbrev f83_o_b1 (R : f83_S) : f83_t_b1 := (fun x0 x10 x11 x3 x9 => R (f83_s_b1 x0 x10 x11 x3 x9))
noncomputable def f83_Q_b1 (k : Nat) (R_l0 : f83_S) : f83_L := [.c (f83_p 935) 0, .j (fun σ => R_l0 (cut f83_A.loops 0 σ)), .blk 0, .c (f83_p 15) 0]
noncomputable def f83_C_b1 (k : Nat) (R_l0 : f83_S) : f83_S := fun σ => f83_a k (f83_Q_b1 k R_l0) .nx σ
def f83_s_r6 (x0 : (((List (Int × Int)) × ((List (Int × (Int × (Int × Int)))) × (List (Int × Int)))) × ((List (Int × (Int × (Int × (Bool × Bool))))) × (List (List Int))))) (x10 : Int) (x11 : Int) (x3 : Int) (x30 : Bool) (x9 : (List (Int × (Int × (Int × (Bool × Bool)))))) : St := mkS 34 112 [(0, .cp (.one (.fptr Tq24 x0 0))), (3, aI x3), (4, aI x11), (9, aV Tq17 x9), (10, aI x10), (11, aI x11), (30, aB x30)] []
abbrev f83_t_r6 := (((List (Int × Int)) × ((List (Int × (Int × (Int × Int)))) × (List (Int × Int)))) × ((List (Int × (Int × (Int × (Bool × Bool))))) × (List (List Int)))) → Int → Int → Int → Bool → (List (Int × (Int × (Int × (Bool × Bool))))) → Option (Int × Unit)
abbrev f83_o_r6 (R : f83_S) : f83_t_r6 := (fun x0 x10 x11 x3 x30 x9 => R (f83_s_r6 x0 x10 x11 x3 x30 x9))
noncomputable def f83_Q_r6 (k : Nat) (R_l0 : f83_S) : f83_L := [.c (f83_p 14951) 1, .blk 1, .c (f83_p 935) 0, .j (fun σ => R_l0 (cut f83_A.loops 0 σ)), .blk 0, .c (f83_p 15) 0]
noncomputable def f83_C_r6 (k : Nat) (R_l0 : f83_S) : f83_S := fun σ => f83_a k (f83_Q_r6 k R_l0) .nx σ
def f83_s_c7 (x0 : (((List (Int × Int)) × ((List (Int × (Int × (Int × Int)))) × (List (Int × Int)))) × ((List (Int × (Int × (Int × (Bool × Bool))))) × (List (List Int))))) (x10 : Int) (x11 : Int) (x3 : Int) (x9 : (List (Int × (Int × (Int × (Bool × Bool)))))) : St := mkS 34 112 [(0, .cp (.one (.fptr Tq24 x0 0))), (3, aI x3), (9, aV Tq17 x9), (10, aI x10), (11, aI x11)] []
abbrev f83_t_c7 := (((List (Int × Int)) × ((List (Int × (Int × (Int × Int)))) × (List (Int × Int)))) × ((List (Int × (Int × (Int × (Bool × Bool))))) × (List (List Int)))) → Int → Int → Int → (List (Int × (Int × (Int × (Bool × Bool))))) → Option (Int × Unit)
abbrev f83_o_c7 (R : f83_S) : f83_t_c7 := (fun x0 x10 x11 x3 x9 => R (f83_s_c7 x0 x10 x11 x3 x9))
noncomputable def f83_Q_c7 (k : Nat) (R_l0 : f83_S) : f83_L := [.blk 1, .c (f83_p 935) 0, .j (fun σ => R_l0 (cut f83_A.loops 0 σ)), .blk 0, .c (f83_p 15) 0]
noncomputable def f83_C_c7 (k : Nat) (R_l0 : f83_S) : f83_S := fun σ => f83_a k (f83_Q_c7 k R_l0) .nx σ
noncomputable def f83_F_b1 (k : Nat) (G_l0 : f83_S) : f83_L := .c (f83_p 935) 0 :: .j (fun σ => G_l0 (cut f83_A.loops 0 σ)) :: .blk 0 :: .c (f83_p 15) 0 :: []
theorem f83_f_b1 (k : Nat) (R_l0 : f83_S) : f83_a k (f83_Q_b1 k R_l0) = f83_a k (f83_F_b1 k R_l0) := (ap_cons _ (ap_cons _ (ap_cons _ (ap_cons _ rfl))))
noncomputable def f83_F_c7 (k : Nat) (G_l0 G_b1 : f83_S) : f83_L := .b 1 (fun σ => G_b1 (cut f83_A.blks 1 σ)) :: f83_F_b1 k G_l0
theorem f83_f_c7 (k : Nat) (R_l0 : f83_S) : f83_a k (f83_Q_c7 k R_l0) = f83_a k (f83_F_c7 k R_l0 (f83_C_b1 k R_l0)) := (Eq.trans (ap_blkb (C := (f83_C_b1 k R_l0)) (fun _ => rfl)) (ap_cons _ (f83_f_b1 k R_l0)))
noncomputable def f83_F_r6 (k : Nat) (G_l0 G_b1 G_c7 : f83_S) : f83_L := .c (f83_p 14951) 1 :: .j G_c7 :: f83_F_c7 k G_l0 G_b1
theorem f83_f_r6 (k : Nat) (R_l0 : f83_S) : f83_a k (f83_Q_r6 k R_l0) = f83_a k (f83_F_r6 k R_l0 (f83_C_b1 k R_l0) (f83_C_c7 k R_l0)) := (ap_cons _ (Eq.trans (ap_pass (C := (f83_C_c7 k R_l0)) (fun _ => rfl)) (ap_cons _ (f83_f_c7 k R_l0))))
noncomputable def f83_F_r5 (k : Nat) (G_l0 G_b1 G_r6 G_c7 : f83_S) : f83_L := .c (f83_p 14949) 1 :: .c (f83_p 14950) 1 :: .j G_r6 :: f83_F_r6 k G_l0 G_b1 G_c7
theorem f83_f_r5 (k : Nat) (R_l0 : f83_S) : f83_a k (f83_Q_r5 k R_l0) = f83_a k (f83_F_r5 k R_l0 (f83_C_b1 k R_l0) (f83_C_r6 k R_l0) (f83_C_c7 k R_l0)) := (ap_cons _ (Eq.trans ap_sq (ap_cons _ (Eq.trans (ap_pass (C := (f83_C_r6 k R_l0)) (fun _ => rfl)) (ap_cons _ (f83_f_r6 k R_l0))))))
noncomputable def f83_F_l0 (k : Nat) (G_l0 G_r5 G_b1 G_r6 G_c7 : f83_S) : f83_L := .c (f83_p 232) 0 :: .c (f83_p 466) 0 :: .j (fun σ => f83_a k (.c (f83_p 3736) 1 :: .c (f83_p 14948) 1 :: .j G_r5 :: f83_F_r5 k G_l0 G_b1 G_r6 G_c7) .nx σ) :: f83_F_b1 k G_l0
theorem f83_f_l0 (k : Nat) (R_l0 : f83_S) : f83_a k (f83_Q_l0 k R_l0) = f83_a k (f83_F_l0 k R_l0 (f83_C_r5 k R_l0) (f83_C_b1 k R_l0) (f83_C_r6 k R_l0) (f83_C_c7 k R_l0)) := (Eq.trans ap_sq (ap_cons _ (Eq.trans ap_sq (ap_cons _ (Eq.trans ap_sq (Eq.trans (ap_bl 1) (Eq.trans (ap_j (Eq.trans ap_sq (ap_cons _ (Eq.trans ap_sq (Eq.trans ap_sq (ap_cons _ (Eq.trans (ap_pass (C := (f83_C_r5 k R_l0)) (fun _ => rfl)) (ap_cons _ (f83_f_r5 k R_l0))))))))) (ap_cons _ (f83_f_b1 k R_l0)))))))))
def f83_entry_B (k : Nat) (g_l0 : f83_t_l0) (a0 : Td27) : Option (Int × Unit) := (g_l0 a0 (a0.2.1.length : Int) 0 (-1) a0.2.1)
def f83_l0_B (k : Nat) (g_r5 : f83_t_r5) (x0 : (((List (Int × Int)) × ((List (Int × (Int × (Int × Int)))) × (List (Int × Int)))) × ((List (Int × (Int × (Int × (Bool × Bool))))) × (List (List Int))))) (x10 : Int) (x11 : Int) (x3 : Int) (x9 : (List (Int × (Int × (Int × (Bool × Bool)))))) : Option (Int × Unit) := (if x11 < x10 then (if 0 ≤ x11 then (if x11 < (x9.length : Int) then (if ¬ ((((((x9.getD (x11).toNat (0, (0, (0, (false, false))))).2).2).2).1) = true) then (g_r5 x0 x10 x11 true x3 x9) else (g_r5 x0 x10 x11 (decide ((((((x9.getD (x11).toNat (0, (0, (0, (false, false))))).2).2).2).2) = true)) x3 x9)) else none) else none) else some (x3, ()))
def f83_r5_B (k : Nat) (g_b1 : f83_t_b1) (g_r6 : f83_t_r6) (x0 : (((List (Int × Int)) × ((List (Int × (Int × (Int × Int)))) × (List (Int × Int)))) × ((List (Int × (Int × (Int × (Bool × Bool))))) × (List (List Int))))) (x10 : Int) (x11 : Int) (x22 : Bool) (x3 : Int) (x9 : (List (Int × (Int × (Int × (Bool × Bool)))))) : Option (Int × Unit) := (if x22 = true then (g_b1 x0 x10 x11 x3 x9) else (if x3 < 0 then (g_r6 x0 x10 x11 x3 true x9) else ((f60 k x0 x11 x3).bind fun r1 => (g_r6 x0 x10 x11 x3 (decide (r1.1 = true)) x9))))
def f83_b1_B (k : Nat) (g_l0 : f83_t_l0) (x0 : (((List (Int × Int)) × ((List (Int × (Int × (Int × Int)))) × (List (Int × Int)))) × ((List (Int × (Int × (Int × (Bool × Bool))))) × (List (List Int))))) (x10 : Int) (x11 : Int) (x3 : Int) (x9 : (List (Int × (Int × (Int × (Bool × Bool)))))) : Option (Int × Unit) := (g_l0 x0 x10 (w64 (x11 + 1)) x3 x9)
def f83_r6_B (k : Nat) (g_c7 : f83_t_c7) (x0 : (((List (Int × Int)) × ((List (Int × (Int × (Int × Int)))) × (List (Int × Int)))) × ((List (Int × (Int × (Int × (Bool × Bool))))) × (List (List Int))))) (x10 : Int) (x11 : Int) (x3 : Int) (x30 : Bool) (x9 : (List (Int × (Int × (Int × (Bool × Bool)))))) : Option (Int × Unit) := (if x30 = true then (g_c7 x0 x10 x11 x11 x9) else (g_c7 x0 x10 x11 x3 x9))
def f83_c7_B (k : Nat) (g_b1 : f83_t_b1) (x0 : (((List (Int × Int)) × ((List (Int × (Int × (Int × Int)))) × (List (Int × Int)))) × ((List (Int × (Int × (Int × (Bool × Bool))))) × (List (List Int))))) (x10 : Int) (x11 : Int) (x3 : Int) (x9 : (List (Int × (Int × (Int × (Bool × Bool)))))) : Option (Int × Unit) := (g_b1 x0 x10 x11 x3 x9)
theorem f83_b1_P (k : Nat) (G_l0 : f83_S) : f83_o_b1 (fun σ => f83_a k (f83_F_b1 k G_l0) .nx σ) = f83_b1_B k (f83_o_l0 G_l0) := by kernel_rfl
def f83_b1 (k : Nat) (r_l0 : f83_t_l0) : f83_t_b1 := f83_b1_B k r_l0
theorem f83_b1_E (k : Nat) (R_l0 : f83_S) : f83_o_b1 (f83_C_b1 k R_l0) = f83_b1 k (f83_o_l0 R_l0) :=
  Eq.trans (congrArg f83_o_b1 (ap_fn (f83_f_b1 k R_l0))) ((f83_b1_P k R_l0).trans (by rfl))
theorem f83_c7_P (k : Nat) (G_l0 G_b1 : f83_S) : f83_o_c7 (fun σ => f83_a k (f83_F_c7 k G_l0 G_b1) .nx σ) = f83_c7_B k (f83_o_b1 G_b1) := by kernel_rfl
def f83_c7 (k : Nat) (r_l0 : f83_t_l0) : f83_t_c7 := f83_c7_B k (f83_b1 k r_l0)
theorem f83_c7_E (k : Nat) (R_l0 : f83_S) : f83_o_c7 (f83_C_c7 k R_l0) = f83_c7 k (f83_o_l0 R_l0) :=
  Eq.trans (congrArg f83_o_c7 (ap_fn (f83_f_c7 k R_l0))) ((f83_c7_P k R_l0 (f83_C_b1 k R_l0)).trans (by rw [f83_b1_E k R_l0] <;> rfl))
theorem f83_r6_P (k : Nat) (G_l0 G_b1 G_c7 : f83_S) : f83_o_r6 (fun σ => f83_a k (f83_F_r6 k G_l0 G_b1 G_c7) .nx σ) = f83_r6_B k (f83_o_c7 G_c7) := by kernel_rfl
def f83_r6 (k : Nat) (r_l0 : f83_t_l0) : f83_t_r6 := f83_r6_B k (f83_c7 k r_l0)
theorem f83_r6_E (k : Nat) (R_l0 : f83_S) : f83_o_r6 (f83_C_r6 k R_l0) = f83_r6 k (f83_o_l0 R_l0) :=
  Eq.trans (congrArg f83_o_r6 (ap_fn (f83_f_r6 k R_l0))) ((f83_r6_P k R_l0 (f83_C_b1 k R_l0) (f83_C_c7 k R_l0)).trans (by rw [f83_c7_E k R_l0] <;> rfl))
theorem f83_r5_P (k : Nat) (G_l0 G_b1 G_r6 G_c7 : f83_S) : f83_o_r5 (fun σ => f83_a k (f83_F_r5 k G_l0 G_b1 G_r6 G_c7) .nx σ) = f83_r5_B k (f83_o_b1 G_b1) (f83_o_r6 G_r6) := by kernel_rfl
def f83_r5 (k : Nat) (r_l0 : f83_t_l0) : f83_t_r5 := f83_r5_B k (f83_b1 k r_l0) (f83_r6 k r_l0)
theorem f83_r5_E (k : Nat) (R_l0 : f83_S) : f83_o_r5 (f83_C_r5 k R_l0) = f83_r5 k (f83_o_l0 R_l0) :=
  Eq.trans (congrArg f83_o_r5 (ap_fn (f83_f_r5 k R_l0))) ((f83_r5_P k R_l0 (f83_C_b1 k R_l0) (f83_C_r6 k R_l0) (f83_C_c7 k R_l0)).trans (by rw [f83_b1_E k R_l0, f83_r6_E k R_l0] <;> rfl))
theorem f83_l0_P (k : Nat) (G_l0 G_r5 G_b1 G_r6 G_c7 : f83_S) : f83_o_l0 (fun σ => f83_a k (f83_F_l0 k G_l0 G_r5 G_b1 G_r6 G_c7) .nx σ) = f83_l0_B k (f83_o_r5 G_r5) := by kernel_rfl
def f83_l0 (k : Nat) : Nat → f83_t_l0
  | 0 => fun _ _ _ _ _ => none
  | n + 1 => f83_l0_B k (f83_r5 k (f83_l0 k n))
theorem f83_l0_E (k : Nat) : ∀ n, f83_o_l0 (f83_C_l0 k n) = f83_l0 k n
  | 0 => rfl
  | n + 1 =>
    Eq.trans (congrArg f83_o_l0 (Eq.trans (b := fun σ => f83_a k (f83_Q_l0 k (f83_C_l0 k n)) .nx σ) (by kernel_rfl) (ap_fn (f83_f_l0 k (f83_C_l0 k n))))) ((f83_l0_P k (f83_C_l0 k n) (f83_C_r5 k (f83_C_l0 k n)) (f83_C_b1 k (f83_C_l0 k n)) (f83_C_r6 k (f83_C_l0 k n)) (f83_C_c7 k (f83_C_l0 k n))).trans (by rw [f83_r5_E k (f83_C_l0 k n), f83_l0_E k n] <;> rfl))
theorem f83_entry_P (k : Nat) (G_l0 : f83_S) (xs : DL f83_sig) : f83_a k (.c (f83_p 2) 0 :: .c (f83_p 6) 0 :: .c (f83_p 28) 0 :: .j (fun σ => f83_a k (.j (fun σ => G_l0 (cut f83_A.loops 0 σ)) :: .blk 0 :: .c (f83_p 15) 0 :: []) .nx σ) :: .c (f83_p 15) 0 :: []) .nx (σ0 34 112 f83_sig xs) = f83_entry_B k (f83_o_l0 G_l0) xs.1 := by kernel_rfl
def f83 (k : Nat) (a0 : Td27) : Option (Int × Unit) := f83_entry_B k (f83_l0 k k) a0
theorem f83_fe (k : Nat) : f83_a k [.c (f83_p 1) 0] = f83_a k (.c (f83_p 2) 0 :: .c (f83_p 6) 0 :: .c (f83_p 28) 0 :: .j (fun σ => f83_a k (.j (fun σ => (f83_C_l0 k k) (cut f83_A.loops 0 σ)) :: .blk 0 :: .c (f83_p 15) 0 :: []) .nx σ) :: .c (f83_p 15) 0 :: []) := (Eq.trans ap_sq (ap_cons _ (Eq.trans ap_sq (ap_cons _ (Eq.trans ap_sq (Eq.trans ap_sq (ap_cons _ (Eq.trans (ap_bl 0) (Eq.trans (ap_j (Eq.trans (ap_lp (C := (f83_C_l0 k)) (fun _ _ => rfl)) (ap_cons _ (ap_cons _ (ap_cons _ rfl))))) (ap_cons _ (ap_cons _ rfl)))))))))))
theorem f83_eq (k : Nat) (xs : DL f83_sig) : den T f83_Y (f83_E k) f83_A k f83_c 0 (σ0 34 112 f83_sig xs) (Kfin T f83_rs f83_ts) = f83 k xs.1 :=
  Eq.trans (Eq.trans den_sb (ap_at (f83_fe k) _)) ((f83_entry_P k (f83_C_l0 k k) xs).trans (by rw [f83_l0_E k k] <;> rfl))
noncomputable def f83_con (k : Nat) : Con := ⟨f83_sig, f83_rs, fun xs => f83 k xs.1⟩
theorem f83_ok (k : Nat) : PureOK Try.prog 83 f83_sig f83_rs (fun xs => f83 k xs.1) :=
  (pure_of_den (k := k) (A := f83_A) (T := T) (Y := f83_Y) (E := f83_E k) (M := 112) (ts := f83_ts) T_ok ⟨f60_ok k, trivial⟩ ⟨f60_ent, trivial⟩ mixed (f := 83) (fn := Try.f83) (c := f83_c) (by kernel_rfl) (by kernel_rfl) (by kernel_rfl) (by decide) (by kernel_rfl)).congr fun xs => (f83_eq k xs).symm
theorem f83_ent : Ent Try.prog 83 := fun args w => by kernel_rfl
/-! ### (*terrier/route.search).run: function 59 -/
noncomputable def f59_c : Code := Try.f59.body.getD .skip
noncomputable abbrev f59_p (n : Nat) : Code := sb f59_c n
abbrev f59_sig : List PT := [(false, (.int .i64))]
abbrev f59_rs : List RT := []
abbrev f59_ts : List RV := []
abbrev f59_ls : List LO := [.box [.d Tq9, .o, .d Tq13], .row Tq17]
abbrev f59_S := St → Option (LOD f59_ls × RDL f59_rs)
abbrev f59_L := List (Fr (LOD f59_ls × RDL f59_rs))
def f59_Y : Tys := []
noncomputable def f59_E (k : Nat) : Env := [(21, .c (f21_con k)), (82, .b (f82_con k)), (83, .c (f83_con k))]
def f59_A : Ann := { loops := [(0, { slots := [(0, .id), (14, .id), (15, .id), (16, .id)], keys := [(0, [.val false Tq2, .val false Tq6, .val false Tq2, .id, .val false Tq1]), (1, []), (14, [])] }), (2, { slots := [(0, .id), (6, .id)], keys := [(0, [.val false Tq2, .val false Tq6, .val false Tq2, .id, .val false Tq1]), (1, [])] }), (4, { slots := [(0, .id), (6, .id), (43, .val false (.int .i64)), (44, .id), (45, .id)], keys := [(0, [.val false Tq2, .val false Tq6, .val false Tq2, .id, .val false Tq1]), (1, [])] })] }
noncomputable abbrev f59_a (k : Nat) (F : f59_L) : Kont (LOD f59_ls × RDL f59_rs) := ap T f59_Y (f59_E k) f59_A k (KfinB T true f59_ls f59_rs f59_ts) F
def f59_s_l0 (y0_0 : (List (Int × Int))) (y0_1 : (List (Int × (Int × (Int × Int))))) (y0_2 : (List (Int × Int))) (y0_4 : (List (List Int))) (y1 : (List (Int × (Int × (Int × (Bool × Bool)))))) (y14 : (List Int)) (x15 : Int) (x16 : Int) : St := mkS 54 162 [(0, aP 0), (14, aO 14), (15, aI x15), (16, aI x16)] [(0, .box [cV Tq2 y0_0, cV Tq6 y0_1, cV Tq2 y0_2, .own 1, cV Tq1 y0_4]), (1, .vec Tq17 y1), (14, .vec (.int .i64) y14)]
abbrev f59_t_l0 := (List (Int × Int)) → (List (Int × (Int × (Int × Int)))) → (List (Int × Int)) → (List (List Int)) → (List (Int × (Int × (Int × (Bool × Bool))))) → (List Int) → Int → Int → Option (((Td12 × Td18 × Unit) × (List (Int × Td20)) × Unit) × (Unit))
abbrev f59_o_l0 (R : f59_S) : f59_t_l0 := (fun y0_0 y0_1 y0_2 y0_4 y1 y14 x15 x16 => R (f59_s_l0 y0_0 y0_1 y0_2 y0_4 y1 y14 x15 x16))
noncomputable def f59_Q_l0 (k : Nat) (R_l0 : f59_S) : f59_L := [.c (f59_p 20) 0, .j (fun σ => R_l0 (cut f59_A.loops 0 σ)), .blk 0, .c (f59_p 3) 0]
noncomputable def f59_C_l0 (k : Nat) (n : Nat) (σ : St) : Option (LOD f59_ls × RDL f59_rs) := loopK (fun σ K => den T f59_Y (f59_E k) f59_A k (f59_p 20) 0 σ K) (cut f59_A.loops 0) (f59_a k [.blk 0, .c (f59_p 3) 0]) n σ
def f59_s_l2 (y0_0 : (List (Int × Int))) (y0_1 : (List (Int × (Int × (Int × Int))))) (y0_2 : (List (Int × Int))) (y0_4 : (List (List Int))) (y1 : (List (Int × (Int × (Int × (Bool × Bool)))))) (x6 : Int) : St := mkS 54 162 [(0, aP 0), (6, aI x6)] [(0, .box [cV Tq2 y0_0, cV Tq6 y0_1, cV Tq2 y0_2, .own 1, cV Tq1 y0_4]), (1, .vec Tq17 y1)]
abbrev f59_t_l2 := (List (Int × Int)) → (List (Int × (Int × (Int × Int)))) → (List (Int × Int)) → (List (List Int)) → (List (Int × (Int × (Int × (Bool × Bool))))) → Int → Option (((Td12 × Td18 × Unit) × (List (Int × Td20)) × Unit) × (Unit))
abbrev f59_o_l2 (R : f59_S) : f59_t_l2 := (fun y0_0 y0_1 y0_2 y0_4 y1 x6 => R (f59_s_l2 y0_0 y0_1 y0_2 y0_4 y1 x6))
noncomputable def f59_Q_l2 (k : Nat) (R_l2 : f59_S) : f59_L := [.c (f59_p 28) 2, .j (fun σ => R_l2 (cut f59_A.loops 2 σ)), .blk 2]
noncomputable def f59_C_l2 (k : Nat) (n : Nat) (σ : St) : Option (LOD f59_ls × RDL f59_rs) := loopK (fun σ K => den T f59_Y (f59_E k) f59_A k (f59_p 28) 2 σ K) (cut f59_A.loops 2) (f59_a k [.blk 2]) n σ
def f59_s_l4 (y0_0 : (List (Int × Int))) (y0_1 : (List (Int × (Int × (Int × Int))))) (y0_2 : (List (Int × Int))) (y0_4 : (List (List Int))) (y1 : (List (Int × (Int × (Int × (Bool × Bool)))))) (x43 : (List Int)) (x44 : Int) (x45 : Int) (x6 : Int) : St := mkS 54 162 [(0, aP 0), (6, aI x6), (43, aV (.int .i64) x43), (44, aI x44), (45, aI x45)] [(0, .box [cV Tq2 y0_0, cV Tq6 y0_1, cV Tq2 y0_2, .own 1, cV Tq1 y0_4]), (1, .vec Tq17 y1)]
abbrev f59_t_l4 := (List (Int × Int)) → (List (Int × (Int × (Int × Int)))) → (List (Int × Int)) → (List (List Int)) → (List (Int × (Int × (Int × (Bool × Bool))))) → (List Int) → Int → Int → Int → Option (((Td12 × Td18 × Unit) × (List (Int × Td20)) × Unit) × (Unit))
abbrev f59_o_l4 (R : f59_S) : f59_t_l4 := (fun y0_0 y0_1 y0_2 y0_4 y1 x43 x44 x45 x6 => R (f59_s_l4 y0_0 y0_1 y0_2 y0_4 y1 x43 x44 x45 x6))
noncomputable def f59_Q_l4 (k : Nat) (R_l2 R_l4 : f59_S) : f59_L := [.c (f59_p 3660) 4, .j (fun σ => R_l4 (cut f59_A.loops 4 σ)), .blk 4, .blk 3, .c (f59_p 115) 2, .j (fun σ => R_l2 (cut f59_A.loops 2 σ)), .blk 2]
noncomputable def f59_C_l4 (k : Nat) (R_l2 : f59_S) (n : Nat) (σ : St) : Option (LOD f59_ls × RDL f59_rs) := loopK (fun σ K => den T f59_Y (f59_E k) f59_A k (f59_p 3660) 4 σ K) (cut f59_A.loops 4) (f59_a k [.blk 4, .blk 3, .c (f59_p 115) 2, .j (fun σ => R_l2 (cut f59_A.loops 2 σ)), .blk 2]) n σ
noncomputable def f59_F_l0 (k : Nat) (G_l0 G_l2 : f59_S) : f59_L := .c (f59_p 20) 0 :: .j (fun σ => G_l0 (cut f59_A.loops 0 σ)) :: .blk 0 :: .c (f59_p 6) 0 :: .j (fun σ => f59_a k (.j (fun σ => G_l2 (cut f59_A.loops 2 σ)) :: .blk 2 :: []) .nx σ) :: []
theorem f59_f_l0 (k : Nat) (R_l0 : f59_S) : f59_a k (f59_Q_l0 k R_l0) = f59_a k (f59_F_l0 k R_l0 (f59_C_l2 k k)) := (ap_cons _ (ap_cons _ (ap_cons _ (Eq.trans ap_sq (ap_cons _ (Eq.trans (ap_bl 2) (Eq.trans (ap_j (Eq.trans (ap_lp (C := (f59_C_l2 k)) (fun _ _ => rfl)) (ap_cons _ (ap_cons _ rfl)))) (ap_cons _ rfl))))))))
noncomputable def f59_F_l2 (k : Nat) (G_l2 G_l4 : f59_S) : f59_L := .c (f59_p 56) 2 :: .j (fun σ => f59_a k (.c (f59_p 456) 3 :: .c (f59_p 914) 3 :: .j (fun σ => f59_a k (.j (fun σ => G_l4 (cut f59_A.loops 4 σ)) :: .blk 4 :: .blk 3 :: .c (f59_p 115) 2 :: .j (fun σ => G_l2 (cut f59_A.loops 2 σ)) :: .blk 2 :: []) .nx σ) :: .blk 3 :: .c (f59_p 115) 2 :: .j (fun σ => G_l2 (cut f59_A.loops 2 σ)) :: .blk 2 :: []) .nx σ) :: .c (f59_p 115) 2 :: .j (fun σ => G_l2 (cut f59_A.loops 2 σ)) :: .blk 2 :: []
theorem f59_f_l2 (k : Nat) (R_l2 : f59_S) : f59_a k (f59_Q_l2 k R_l2) = f59_a k (f59_F_l2 k R_l2 (f59_C_l4 k R_l2 k)) := (Eq.trans ap_sq (ap_cons _ (Eq.trans ap_sq (Eq.trans (ap_bl 3) (Eq.trans (ap_j (Eq.trans ap_sq (ap_cons _ (Eq.trans ap_sq (ap_cons _ (Eq.trans (ap_bl 4) (Eq.trans (ap_j (Eq.trans (ap_lp (C := (f59_C_l4 k R_l2)) (fun _ _ => rfl)) (ap_cons _ (ap_cons _ (ap_cons _ (ap_cons _ (ap_cons _ (ap_cons _ rfl)))))))) (ap_cons _ (ap_cons _ (ap_cons _ (ap_cons _ (ap_cons _ rfl)))))))))))) (ap_cons _ (ap_cons _ (ap_cons _ (ap_cons _ rfl)))))))))
noncomputable def f59_F_l4 (k : Nat) (G_l2 G_l4 : f59_S) : f59_L := .c (f59_p 3660) 4 :: .j (fun σ => G_l4 (cut f59_A.loops 4 σ)) :: .blk 4 :: .blk 3 :: .c (f59_p 115) 2 :: .j (fun σ => G_l2 (cut f59_A.loops 2 σ)) :: .blk 2 :: []
theorem f59_f_l4 (k : Nat) (R_l2 R_l4 : f59_S) : f59_a k (f59_Q_l4 k R_l2 R_l4) = f59_a k (f59_F_l4 k R_l2 R_l4) := (ap_cons _ (ap_cons _ (ap_cons _ (ap_cons _ (ap_cons _ (ap_cons _ (ap_cons _ rfl)))))))
def f59_entry_B (k : Nat) (g_l0 : f59_t_l0) (l0 : Td12) (l1 : Td18) (l2 : Td25) (a0 : Int) : Option (((Td12 × Td18 × Unit) × (List (Int × Td20)) × Unit) × (Unit)) := ((f21 k (l0.1, (l0.2.1, l0.2.2)) a0).bind fun r1 => (g_l0 l0.1 l0.2.1 l0.2.2 l1 l2 r1.1 (r1.1.length : Int) 0))
def f59_l0_B (k : Nat) (g_l0 : f59_t_l0) (g_l2 : f59_t_l2) (y0_0 : (List (Int × Int))) (y0_1 : (List (Int × (Int × (Int × Int))))) (y0_2 : (List (Int × Int))) (y0_4 : (List (List Int))) (y1 : (List (Int × (Int × (Int × (Bool × Bool)))))) (y14 : (List Int)) (x15 : Int) (x16 : Int) : Option (((Td12 × Td18 × Unit) × (List (Int × Td20)) × Unit) × (Unit)) := (if x16 < x15 then (if 0 ≤ x16 then (if x16 < (y14.length : Int) then ((f82 k (y0_0, (y0_1, y0_2)) y0_4 y1 (-1) (y14.getD ((x16).toNat) 0)).bind fun r1 => (g_l0 r1.1.1.1.1 r1.1.1.1.2.1 r1.1.1.1.2.2 r1.1.1.2.1 r1.1.2.1 y14 x15 (w64 (x16 + 1)))) else none) else none) else ((f83 k ((y0_0, (y0_1, y0_2)), (y1, y0_4))).bind fun r2 => (g_l2 y0_0 y0_1 y0_2 y0_4 y1 r2.1)))
def f59_l2_B (k : Nat) (g_l4 : f59_t_l4) (y0_0 : (List (Int × Int))) (y0_1 : (List (Int × (Int × (Int × Int))))) (y0_2 : (List (Int × Int))) (y0_4 : (List (List Int))) (y1 : (List (Int × (Int × (Int × (Bool × Bool)))))) (x6 : Int) : Option (((Td12 × Td18 × Unit) × (List (Int × Td20)) × Unit) × (Unit)) := (if 0 ≤ x6 then (if 0 ≤ x6 then (if x6 < (y1.length : Int) then (if 0 ≤ x6 then (if x6 < (y0_4.length : Int) then (g_l4 y0_0 y0_1 y0_2 y0_4 (y1.set ((x6).toNat) ((y1.getD ((x6).toNat) (0, (0, (0, (false, false))))).1, (((y1.getD ((x6).toNat) (0, (0, (0, (false, false))))).2).1, ((((y1.getD ((x6).toNat) (0, (0, (0, (false, false))))).2).2).1, (decide ((((((y1.getD ((x6).toNat) (0, (0, (0, (false, false))))).2).2).2).1) = true), true))))) (y0_4.getD (x6).toNat []) ((y0_4.getD (x6).toNat []).length : Int) 0 x6) else none) else none) else none) else none) else some ((((y0_0, (y0_1, y0_2)), y0_4, ()), (y1, ())), (())))
def f59_l4_B (k : Nat) (g_l2 : f59_t_l2) (g_l4 : f59_t_l4) (y0_0 : (List (Int × Int))) (y0_1 : (List (Int × (Int × (Int × Int))))) (y0_2 : (List (Int × Int))) (y0_4 : (List (List Int))) (y1 : (List (Int × (Int × (Int × (Bool × Bool)))))) (x43 : (List Int)) (x44 : Int) (x45 : Int) (x6 : Int) : Option (((Td12 × Td18 × Unit) × (List (Int × Td20)) × Unit) × (Unit)) := (if x45 < x44 then (if 0 ≤ x45 then (if x45 < (x43.length : Int) then ((f82 k (y0_0, (y0_1, y0_2)) y0_4 y1 x6 (x43.getD (x45).toNat 0)).bind fun r1 => (g_l4 r1.1.1.1.1 r1.1.1.1.2.1 r1.1.1.1.2.2 r1.1.1.2.1 r1.1.2.1 x43 x44 (w64 (x45 + 1)) x6)) else none) else none) else ((f83 k ((y0_0, (y0_1, y0_2)), (y1, y0_4))).bind fun r2 => (g_l2 y0_0 y0_1 y0_2 y0_4 y1 r2.1)))
theorem f59_l4_P (k : Nat) (G_l2 G_l4 : f59_S) : f59_o_l4 (fun σ => f59_a k (f59_F_l4 k G_l2 G_l4) .nx σ) = f59_l4_B k (f59_o_l2 G_l2) (f59_o_l4 G_l4) := by kernel_rfl
def f59_l4 (k : Nat) (r_l2 : f59_t_l2) : Nat → f59_t_l4
  | 0 => fun _ _ _ _ _ _ _ _ _ => none
  | n + 1 => f59_l4_B k r_l2 (f59_l4 k r_l2 n)
theorem f59_l4_E (k : Nat) (R_l2 : f59_S) : ∀ n, f59_o_l4 (f59_C_l4 k R_l2 n) = f59_l4 k (f59_o_l2 R_l2) n
  | 0 => rfl
  | n + 1 =>
    Eq.trans (congrArg f59_o_l4 (Eq.trans (b := fun σ => f59_a k (f59_Q_l4 k R_l2 (f59_C_l4 k R_l2 n)) .nx σ) (by kernel_rfl) (ap_fn (f59_f_l4 k R_l2 (f59_C_l4 k R_l2 n))))) ((f59_l4_P k R_l2 (f59_C_l4 k R_l2 n)).trans (by rw [f59_l4_E k R_l2 n] <;> rfl))
theorem f59_l2_P (k : Nat) (G_l2 G_l4 : f59_S) : f59_o_l2 (fun σ => f59_a k (f59_F_l2 k G_l2 G_l4) .nx σ) = f59_l2_B k (f59_o_l4 G_l4) := by kernel_rfl
def f59_l2 (k : Nat) : Nat → f59_t_l2
  | 0 => fun _ _ _ _ _ _ => none
  | n + 1 => f59_l2_B k (f59_l4 k (f59_l2 k n) k)
theorem f59_l2_E (k : Nat) : ∀ n, f59_o_l2 (f59_C_l2 k n) = f59_l2 k n
  | 0 => rfl
  | n + 1 =>
    Eq.trans (congrArg f59_o_l2 (Eq.trans (b := fun σ => f59_a k (f59_Q_l2 k (f59_C_l2 k n)) .nx σ) (by kernel_rfl) (ap_fn (f59_f_l2 k (f59_C_l2 k n))))) ((f59_l2_P k (f59_C_l2 k n) (f59_C_l4 k (f59_C_l2 k n) k)).trans (by rw [f59_l4_E k (f59_C_l2 k n) k, f59_l2_E k n] <;> rfl))
theorem f59_l0_P (k : Nat) (G_l0 G_l2 : f59_S) : f59_o_l0 (fun σ => f59_a k (f59_F_l0 k G_l0 G_l2) .nx σ) = f59_l0_B k (f59_o_l0 G_l0) (f59_o_l2 G_l2) := by kernel_rfl
def f59_l0 (k : Nat) : Nat → f59_t_l0
  | 0 => fun _ _ _ _ _ _ _ _ => none
  | n + 1 => f59_l0_B k (f59_l0 k n) (f59_l2 k k)
theorem f59_l0_E (k : Nat) : ∀ n, f59_o_l0 (f59_C_l0 k n) = f59_l0 k n
  | 0 => rfl
  | n + 1 =>
    Eq.trans (congrArg f59_o_l0 (Eq.trans (b := fun σ => f59_a k (f59_Q_l0 k (f59_C_l0 k n)) .nx σ) (by kernel_rfl) (ap_fn (f59_f_l0 k (f59_C_l0 k n))))) ((f59_l0_P k (f59_C_l0 k n) (f59_C_l2 k k)).trans (by rw [f59_l2_E k k, f59_l0_E k n] <;> rfl))
theorem f59_entry_P (k : Nat) (G_l0 G_l2 : f59_S) (x : LOD f59_ls) (xs : DL f59_sig) : f59_a k (.c (f59_p 4) 0 :: .j (fun σ => f59_a k (.j (fun σ => G_l0 (cut f59_A.loops 0 σ)) :: .blk 0 :: .c (f59_p 6) 0 :: .j (fun σ => f59_a k (.j (fun σ => G_l2 (cut f59_A.loops 2 σ)) :: .blk 2 :: []) .nx σ) :: []) .nx σ) :: .c (f59_p 6) 0 :: .j (fun σ => f59_a k (.j (fun σ => G_l2 (cut f59_A.loops 2 σ)) :: .blk 2 :: []) .nx σ) :: []) .nx (σ0B 54 162 0 f59_ls x f59_sig xs) = f59_entry_B k (f59_o_l0 G_l0) x.1.1 x.1.2.1 x.2.1 xs.1 := by kernel_rfl
def f59 (k : Nat) (l0 : Td12) (l1 : Td18) (l2 : Td25) (a0 : Int) : Option (((Td12 × Td18 × Unit) × (List (Int × Td20)) × Unit) × (Unit)) := f59_entry_B k (f59_l0 k k) l0 l1 l2 a0
theorem f59_fe (k : Nat) : f59_a k [.c (f59_p 1) 0] = f59_a k (.c (f59_p 4) 0 :: .j (fun σ => f59_a k (.j (fun σ => (f59_C_l0 k k) (cut f59_A.loops 0 σ)) :: .blk 0 :: .c (f59_p 6) 0 :: .j (fun σ => f59_a k (.j (fun σ => (f59_C_l2 k k) (cut f59_A.loops 2 σ)) :: .blk 2 :: []) .nx σ) :: []) .nx σ) :: .c (f59_p 6) 0 :: .j (fun σ => f59_a k (.j (fun σ => (f59_C_l2 k k) (cut f59_A.loops 2 σ)) :: .blk 2 :: []) .nx σ) :: []) := (Eq.trans ap_sq (Eq.trans ap_sq (ap_cons _ (Eq.trans (ap_bl 0) (Eq.trans (ap_j (Eq.trans (ap_lp (C := (f59_C_l0 k)) (fun _ _ => rfl)) (ap_cons _ (ap_cons _ (Eq.trans ap_sq (ap_cons _ (Eq.trans (ap_bl 2) (Eq.trans (ap_j (Eq.trans (ap_lp (C := (f59_C_l2 k)) (fun _ _ => rfl)) (ap_cons _ (ap_cons _ rfl)))) (ap_cons _ rfl))))))))) (ap_cons _ (Eq.trans ap_sq (ap_cons _ (Eq.trans (ap_bl 2) (Eq.trans (ap_j (Eq.trans (ap_lp (C := (f59_C_l2 k)) (fun _ _ => rfl)) (ap_cons _ (ap_cons _ rfl)))) (ap_cons _ rfl)))))))))))
theorem f59_eq (k : Nat) (x : LOD f59_ls) (xs : DL f59_sig) : den T f59_Y (f59_E k) f59_A k f59_c 0 (σ0B 54 162 0 f59_ls x f59_sig xs) (KfinB T true f59_ls f59_rs f59_ts) = f59 k x.1.1 x.1.2.1 x.2.1 xs.1 :=
  Eq.trans (Eq.trans den_sb (ap_at (f59_fe k) _)) ((f59_entry_P k (f59_C_l0 k k) (f59_C_l2 k k) x xs).trans (by rw [f59_l0_E k k] <;> rfl))
noncomputable def f59_con (k : Nat) : BCon := ⟨0, true, f59_ls, f59_sig, f59_rs, fun x xs => f59 k x.1.1 x.1.2.1 x.2.1 xs.1⟩
theorem f59_ok (k : Nat) : BoxOK Try.prog 59 0 true f59_ls f59_sig f59_rs (fun x xs => f59 k x.1.1 x.1.2.1 x.2.1 xs.1) :=
  (box_of_den (k := k) (A := f59_A) (T := T) (Y := f59_Y) (E := f59_E k) (M := 162) (ts := f59_ts) T_ok ⟨f21_ok k, f82_ok k, f83_ok k, trivial⟩ ⟨f21_ent, f82_ent, f83_ent, trivial⟩ mixed (f := 59) (fn := Try.f59) (c := f59_c) (by kernel_rfl) (by kernel_rfl) (by kernel_rfl) (by decide) (by kernel_rfl) (by decide)).congr fun x xs => (f59_eq k x xs).symm
theorem f59_ent : Ent Try.prog 59 := fun args w => by kernel_rfl
/-! ### terrier/route.Ends: function 29 -/
noncomputable def f29_c : Code := Try.f29.body.getD .skip
noncomputable abbrev f29_p (n : Nat) : Code := sb f29_c n
abbrev f29_sig : List PT := [(true, Tq9), (false, (.int .i64))]
abbrev f29_rs : List RT := [.new (.int .i64)]
abbrev f29_ts : List RV := [.tmp 4]
abbrev f29_S := St → Option (RDL f29_rs)
abbrev f29_L := List (Fr (RDL f29_rs))
def f29_Y : Tys := [(3, (.int .i64))]
noncomputable def f29_E (k : Nat) : Env := [(57, .c (f57_con k)), (58, .c (f58_con k)), (59, .b (f59_con k))]
def f29_A : Ann := { loops := [(0, { slots := [(6, .id), (26, .id), (27, .id), (28, .id)], keys := [(22, []), (60, [])] })], conds := [(11, { slots := [(6, .id), (26, .id), (27, .id), (28, .id)], keys := [(22, []), (60, [])] })] }
noncomputable abbrev f29_a (k : Nat) (F : f29_L) : Kont (RDL f29_rs) := ap T f29_Y (f29_E k) f29_A k (Kfin T f29_rs f29_ts) F
def f29_s_l0 (y22 : (List Int)) (y60 : (List (Int × (Int × (Int × (Bool × Bool)))))) (x27 : Int) (x28 : Int) : St := mkS 45 144 [(6, aO 22), (26, aO 60), (27, aI x27), (28, aI x28)] [(22, .vec (.int .i64) y22), (60, .vec Tq17 y60)]
abbrev f29_t_l0 := (List Int) → (List (Int × (Int × (Int × (Bool × Bool))))) → Int → Int → Option ((List Int) × Unit)
abbrev f29_o_l0 (R : f29_S) : f29_t_l0 := (fun y22 y60 x27 x28 => R (f29_s_l0 y22 y60 x27 x28))
noncomputable def f29_Q_l0 (k : Nat) (R_l0 : f29_S) : f29_L := [.c (f29_p 1012) 0, .j (fun σ => R_l0 (cut f29_A.loops 0 σ)), .blk 0, .c (f29_p 127) 0]
noncomputable def f29_C_l0 (k : Nat) (n : Nat) (σ : St) : Option (RDL f29_rs) := loopK (fun σ K => den T f29_Y (f29_E k) f29_A k (f29_p 1012) 0 σ K) (cut f29_A.loops 0) (f29_a k [.blk 0, .c (f29_p 127) 0]) n σ
def f29_s_c11 (y22 : (List Int)) (y60 : (List (Int × (Int × (Int × (Bool × Bool)))))) (x27 : Int) (x28 : Int) : St := mkS 45 144 [(6, aO 22), (26, aO 60), (27, aI x27), (28, aI x28)] [(22, .vec (.int .i64) y22), (60, .vec Tq17 y60)]
abbrev f29_t_c11 := (List Int) → (List (Int × (Int × (Int × (Bool × Bool))))) → Int → Int → Option ((List Int) × Unit)
abbrev f29_o_c11 (R : f29_S) : f29_t_c11 := (fun y22 y60 x27 x28 => R (f29_s_c11 y22 y60 x27 x28))
noncomputable def f29_Q_c11 (k : Nat) (R_l0 : f29_S) : f29_L := [.blk 1, .c (f29_p 8103) 0, .j (fun σ => R_l0 (cut f29_A.loops 0 σ)), .blk 0, .c (f29_p 127) 0]
noncomputable def f29_C_c11 (k : Nat) (R_l0 : f29_S) : f29_S := fun σ => f29_a k (f29_Q_c11 k R_l0) .nx σ
noncomputable def f29_F_c11 (k : Nat) (G_l0 : f29_S) : f29_L := .blk 1 :: .c (f29_p 8103) 0 :: .j (fun σ => G_l0 (cut f29_A.loops 0 σ)) :: .blk 0 :: .c (f29_p 127) 0 :: []
theorem f29_f_c11 (k : Nat) (R_l0 : f29_S) : f29_a k (f29_Q_c11 k R_l0) = f29_a k (f29_F_c11 k R_l0) := (ap_cons _ (ap_cons _ (ap_cons _ (ap_cons _ (ap_cons _ rfl)))))
noncomputable def f29_F_l0 (k : Nat) (G_l0 G_c11 : f29_S) : f29_L := .c (f29_p 2024) 0 :: .c (f29_p 4050) 0 :: .j (fun σ => f29_a k (.c (f29_p 32408) 1 :: .c (f29_p 64818) 1 :: .c (f29_p 129638) 1 :: .c (f29_p 129639) 1 :: .j G_c11 :: f29_F_c11 k G_l0) .nx σ) :: .c (f29_p 8103) 0 :: .j (fun σ => G_l0 (cut f29_A.loops 0 σ)) :: .blk 0 :: .c (f29_p 127) 0 :: []
theorem f29_f_l0 (k : Nat) (R_l0 : f29_S) : f29_a k (f29_Q_l0 k R_l0) = f29_a k (f29_F_l0 k R_l0 (f29_C_c11 k R_l0)) := (Eq.trans ap_sq (ap_cons _ (Eq.trans ap_sq (ap_cons _ (Eq.trans ap_sq (Eq.trans (ap_bl 1) (Eq.trans (ap_j (Eq.trans ap_sq (ap_cons _ (Eq.trans ap_sq (ap_cons _ (Eq.trans ap_sq (ap_cons _ (ap_cons _ (Eq.trans (ap_pass (C := (f29_C_c11 k R_l0)) (fun _ => rfl)) (ap_cons _ (f29_f_c11 k R_l0))))))))))) (ap_cons _ (ap_cons _ (ap_cons _ (ap_cons _ (ap_cons _ rfl))))))))))))
def f29_entry_B (k : Nat) (g_l0 : f29_t_l0) (a0 : Td12) (a1 : Int) : Option ((List Int) × Unit) := ((f57 k (a0.1, (a0.2.1, a0.2.2)) ([a1])).bind fun r1 => (if ¬ (r1.1 = 0) then some ([], ()) else ((f58 k (a0.1, (a0.2.1, a0.2.2))).bind fun r2 => ((f59 k (r2.1.1.1.1, (r2.1.1.1.2.1, r2.1.1.1.2.2)) r2.1.1.2.1 r2.1.2.1 a1).bind fun r3 => (if 0 ≤ (a0.2.1.length : Int) then (if (a0.2.1.length : Int) ≤ 1073741824 then (g_l0 (List.replicate ((a0.2.1.length : Int)).toNat (0 : Int)) r3.1.2.1 (r3.1.2.1.length : Int) 0) else none) else none)))))
def f29_l0_B (k : Nat) (g_c11 : f29_t_c11) (y22 : (List Int)) (y60 : (List (Int × (Int × (Int × (Bool × Bool)))))) (x27 : Int) (x28 : Int) : Option ((List Int) × Unit) := (if x28 < x27 then (if 0 ≤ x28 then (if x28 < (y60.length : Int) then (if 0 ≤ x28 then (if x28 < (y22.length : Int) then (if (((((y60.getD ((x28).toNat) (0, (0, (0, (false, false))))).2).2).2).1) = true then (if 0 ≤ x28 then (if x28 < ((y22.set ((x28).toNat) (-1)).length : Int) then (g_c11 ((y22.set ((x28).toNat) (-1)).set ((x28).toNat) ((y60.getD ((x28).toNat) (0, (0, (0, (false, false))))).1)) y60 x27 x28) else none) else none) else (g_c11 (y22.set ((x28).toNat) (-1)) y60 x27 x28)) else none) else none) else none) else none) else some (y22, ()))
def f29_c11_B (k : Nat) (g_l0 : f29_t_l0) (y22 : (List Int)) (y60 : (List (Int × (Int × (Int × (Bool × Bool)))))) (x27 : Int) (x28 : Int) : Option ((List Int) × Unit) := (g_l0 y22 y60 x27 (w64 (x28 + 1)))
theorem f29_c11_P (k : Nat) (G_l0 : f29_S) : f29_o_c11 (fun σ => f29_a k (f29_F_c11 k G_l0) .nx σ) = f29_c11_B k (f29_o_l0 G_l0) := by kernel_rfl
def f29_c11 (k : Nat) (r_l0 : f29_t_l0) : f29_t_c11 := f29_c11_B k r_l0
theorem f29_c11_E (k : Nat) (R_l0 : f29_S) : f29_o_c11 (f29_C_c11 k R_l0) = f29_c11 k (f29_o_l0 R_l0) :=
  Eq.trans (congrArg f29_o_c11 (ap_fn (f29_f_c11 k R_l0))) ((f29_c11_P k R_l0).trans (by rfl))
theorem f29_l0_P (k : Nat) (G_l0 G_c11 : f29_S) : f29_o_l0 (fun σ => f29_a k (f29_F_l0 k G_l0 G_c11) .nx σ) = f29_l0_B k (f29_o_c11 G_c11) := by kernel_rfl
def f29_l0 (k : Nat) : Nat → f29_t_l0
  | 0 => fun _ _ _ _ => none
  | n + 1 => f29_l0_B k (f29_c11 k (f29_l0 k n))
theorem f29_l0_E (k : Nat) : ∀ n, f29_o_l0 (f29_C_l0 k n) = f29_l0 k n
  | 0 => rfl
  | n + 1 =>
    Eq.trans (congrArg f29_o_l0 (Eq.trans (b := fun σ => f29_a k (f29_Q_l0 k (f29_C_l0 k n)) .nx σ) (by kernel_rfl) (ap_fn (f29_f_l0 k (f29_C_l0 k n))))) ((f29_l0_P k (f29_C_l0 k n) (f29_C_c11 k (f29_C_l0 k n))).trans (by rw [f29_c11_E k (f29_C_l0 k n), f29_l0_E k n] <;> rfl))
theorem f29_entry_P (k : Nat) (G_l0 : f29_S) (xs : DL f29_sig) : f29_a k (.c (f29_p 2) 0 :: .c (f29_p 6) 0 :: .c (f29_p 14) 0 :: .c (f29_p 30) 0 :: .c (f29_p 62) 0 :: .c (f29_p 252) 0 :: .j (fun σ => f29_a k (.j (fun σ => G_l0 (cut f29_A.loops 0 σ)) :: .blk 0 :: .c (f29_p 127) 0 :: []) .nx σ) :: .c (f29_p 127) 0 :: []) .nx (σ0 45 144 f29_sig xs) = f29_entry_B k (f29_o_l0 G_l0) xs.1 xs.2.1 := by kernel_rfl
def f29 (k : Nat) (a0 : Td12) (a1 : Int) : Option ((List Int) × Unit) := f29_entry_B k (f29_l0 k k) a0 a1
theorem f29_fe (k : Nat) : f29_a k [.c (f29_p 1) 0] = f29_a k (.c (f29_p 2) 0 :: .c (f29_p 6) 0 :: .c (f29_p 14) 0 :: .c (f29_p 30) 0 :: .c (f29_p 62) 0 :: .c (f29_p 252) 0 :: .j (fun σ => f29_a k (.j (fun σ => (f29_C_l0 k k) (cut f29_A.loops 0 σ)) :: .blk 0 :: .c (f29_p 127) 0 :: []) .nx σ) :: .c (f29_p 127) 0 :: []) := (Eq.trans ap_sq (ap_cons _ (Eq.trans ap_sq (ap_cons _ (Eq.trans ap_sq (ap_cons _ (Eq.trans ap_sq (ap_cons _ (Eq.trans ap_sq (ap_cons _ (Eq.trans ap_sq (Eq.trans ap_sq (ap_cons _ (Eq.trans (ap_bl 0) (Eq.trans (ap_j (Eq.trans (ap_lp (C := (f29_C_l0 k)) (fun _ _ => rfl)) (ap_cons _ (ap_cons _ (ap_cons _ rfl))))) (ap_cons _ (ap_cons _ rfl)))))))))))))))))
theorem f29_eq (k : Nat) (xs : DL f29_sig) : den T f29_Y (f29_E k) f29_A k f29_c 0 (σ0 45 144 f29_sig xs) (Kfin T f29_rs f29_ts) = f29 k xs.1 xs.2.1 :=
  Eq.trans (Eq.trans den_sb (ap_at (f29_fe k) _)) ((f29_entry_P k (f29_C_l0 k k) xs).trans (by rw [f29_l0_E k k] <;> rfl))
noncomputable def f29_con (k : Nat) : Con := ⟨f29_sig, f29_rs, fun xs => f29 k xs.1 xs.2.1⟩
theorem f29_ok (k : Nat) : PureOK Try.prog 29 f29_sig f29_rs (fun xs => f29 k xs.1 xs.2.1) :=
  (pure_of_den (k := k) (A := f29_A) (T := T) (Y := f29_Y) (E := f29_E k) (M := 144) (ts := f29_ts) T_ok ⟨f57_ok k, f58_ok k, f59_ok k, trivial⟩ ⟨f57_ent, f58_ent, f59_ent, trivial⟩ mixed (f := 29) (fn := Try.f29) (c := f29_c) (by kernel_rfl) (by kernel_rfl) (by kernel_rfl) (by decide) (by kernel_rfl)).congr fun xs => (f29_eq k xs).symm
theorem f29_ent : Ent Try.prog 29 := fun args w => by kernel_rfl
end Go.Proofs.Ytoebjlimpnmaoaa.Rw
