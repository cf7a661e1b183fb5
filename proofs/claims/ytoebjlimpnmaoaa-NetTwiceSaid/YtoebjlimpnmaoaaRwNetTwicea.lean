/- What the functions that the law NetTwice reaches come to, part 1. No condition. -/
import Derived.Test.YtoebjlimpnmaoaaRxEv
import Derived.Test.YtoebjlimpnmaoaaProg
namespace Go.Proofs.Ytoebjlimpnmaoaa.Rw
open Go.Rx Go.Proofs
set_option linter.unusedVariables false
set_option maxRecDepth 100000
def T : Tab := [(3, ⟨.int .i64, 1, 8, some (false, [cI 0]), false⟩),
  (5, ⟨.int .u8, 1, 1, some (false, [.int .u8 0]), false⟩),
  (9, ⟨.str, 1, 16, some (false, [.str ByteArray.empty]), false⟩),
  (22, ⟨.slice 3, 1, 24, some (false, [.nil]), false⟩),
  (23, ⟨.slice 36, 1, 24, some (false, [.nil]), false⟩),
  (24, ⟨.slice 39, 1, 24, some (false, [.nil]), false⟩),
  (25, ⟨.slice 42, 1, 24, some (false, [.nil]), false⟩),
  (27, ⟨.struct [(0, 23), (1, 24), (2, 25)], 3, 72, some (true, [.nil, .nil, .nil]), true⟩),
  (29, ⟨.int .i64, 1, 8, some (false, [cI 0]), false⟩),
  (36, ⟨.struct [(0, 3), (1, 3)], 2, 16, some (true, [cI 0, cI 0]), true⟩),
  (39, ⟨.struct [(0, 3), (1, 3), (2, 3), (3, 3)], 4, 32, some (true, [cI 0, cI 0, cI 0, cI 0]), true⟩),
  (42, ⟨.struct [(0, 3), (1, 3)], 2, 16, some (true, [cI 0, cI 0]), true⟩),
  (76, ⟨.struct [(0, 22)], 1, 24, some (true, [.nil]), true⟩),
  (117, ⟨.int .u64, 1, 8, some (false, [.int .u64 0]), false⟩),
  (132, ⟨.int .i64, 1, 8, some (false, [cI 0]), false⟩),
  (141, ⟨.int .u64, 1, 8, some (false, [.int .u64 0]), false⟩)]
theorem T_ok : TabOK Try.prog T := ⟨by kernel_rfl, by kernel_rfl, by kernel_rfl, by kernel_rfl, by kernel_rfl, by kernel_rfl, by kernel_rfl, by kernel_rfl, by kernel_rfl, by kernel_rfl, by kernel_rfl, by kernel_rfl, by kernel_rfl, by kernel_rfl, by kernel_rfl, by kernel_rfl, trivial⟩
theorem mixed : Try.prog.follows .mixedOrders = true := by kernel_rfl
abbrev Ts0 : ByteArray := ⟨[0, 1, 2, 2, 3, 3, 3, 3, 4, 4, 4, 4, 4, 4, 4, 4, 5, 5, 5, 5, 5, 5, 5, 5, 5, 5, 5, 5, 5, 5, 5, 5, 6, 6, 6, 6, 6, 6, 6, 6, 6, 6, 6, 6, 6, 6, 6, 6, 6, 6, 6, 6, 6, 6, 6, 6, 6, 6, 6, 6, 6, 6, 6, 6, 7, 7, 7, 7, 7, 7, 7, 7, 7, 7, 7, 7, 7, 7, 7, 7, 7, 7, 7, 7, 7, 7, 7, 7, 7, 7, 7, 7, 7, 7, 7, 7, 7, 7, 7, 7, 7, 7, 7, 7, 7, 7, 7, 7, 7, 7, 7, 7, 7, 7, 7, 7, 7, 7, 7, 7, 7, 7, 7, 7, 7, 7, 7, 7, 8, 8, 8, 8, 8, 8, 8, 8, 8, 8, 8, 8, 8, 8, 8, 8, 8, 8, 8, 8, 8, 8, 8, 8, 8, 8, 8, 8, 8, 8, 8, 8, 8, 8, 8, 8, 8, 8, 8, 8, 8, 8, 8, 8, 8, 8, 8, 8, 8, 8, 8, 8, 8, 8, 8, 8, 8, 8, 8, 8, 8, 8, 8, 8, 8, 8, 8, 8, 8, 8, 8, 8, 8, 8, 8, 8, 8, 8, 8, 8, 8, 8, 8, 8, 8, 8, 8, 8, 8, 8, 8, 8, 8, 8, 8, 8, 8, 8, 8, 8, 8, 8, 8, 8, 8, 8, 8, 8, 8, 8, 8, 8, 8, 8, 8, 8, 8, 8, 8, 8, 8, 8, 8, 8, 8, 8, 8, 8].toArray⟩
abbrev Tq1 : Ty := (.sl false (.int .i64))
abbrev Tq2 : Ty := (.pair (.int .i64) (.int .i64))
abbrev Tq3 : Ty := (.sl false Tq2)
abbrev Td4 : Type := (List (Int × Int))
abbrev Tq5 : Ty := (.pair (.int .i64) Tq2)
abbrev Tq6 : Ty := (.pair (.int .i64) Tq5)
abbrev Tq7 : Ty := (.sl false Tq6)
abbrev Tq8 : Ty := (.pair Tq7 Tq3)
abbrev Tq9 : Ty := (.pair Tq3 Tq8)
abbrev Td10 : Type := (Int × (Int × Int))
abbrev Td11 : Type := (List (Int × Td10))
abbrev Td12 : Type := (Td4 × (Td11 × Td4))
abbrev Tq13 : Ty := (.sl true Tq2)
abbrev Td14 : Type := (Option (List (Int × Int)))
/-! ### terrier/terrmake.Below: function 15 -/
noncomputable def f15_c : Code := Try.f15.body.getD .skip
noncomputable abbrev f15_p (n : Nat) : Code := sb f15_c n
abbrev f15_sig : List PT := [(false, (.int .i64)), (false, (.int .i64))]
abbrev f15_rs : List RT := [.d false (.int .i64)]
abbrev f15_ts : List RV := [.tmp 4]
abbrev f15_S := St → Option (RDL f15_rs)
abbrev f15_L := List (Fr (RDL f15_rs))
def f15_Y : Tys := []
noncomputable def f15_E (k : Nat) : Env := []
def f15_A : Ann := { conds := [(3, { slots := [(0, .id)] })] }
noncomputable abbrev f15_a (k : Nat) (F : f15_L) : Kont (RDL f15_rs) := ap T f15_Y (f15_E k) f15_A k (Kfin T f15_rs f15_ts) F
def f15_s_c3 (x0 : Int) : St := mkS 14 48 [(0, aI x0)] []
abbrev f15_t_c3 := Int → Option (Int × Unit)
abbrev f15_o_c3 (R : f15_S) : f15_t_c3 := (fun x0 => R (f15_s_c3 x0))
noncomputable def f15_Q_c3 (k : Nat) : f15_L := [.c (f15_p 15) 0]
noncomputable def f15_C_c3 (k : Nat) : f15_S := fun σ => f15_a k (f15_Q_c3 k) .nx σ
noncomputable def f15_F_c3 (k : Nat) : f15_L := .c (f15_p 15) 0 :: []
theorem f15_f_c3 (k : Nat) : f15_a k (f15_Q_c3 k) = f15_a k (f15_F_c3 k) := (ap_cons _ rfl)
def f15_entry_B (k : Nat) (g_c3 : f15_t_c3) (a0 : Int) (a1 : Int) : Option (Int × Unit) := (if ¬ a1 = 0 then (if (a0.tmod a1) < 0 then (g_c3 (w64 ((a0.tmod a1) + a1))) else (g_c3 (a0.tmod a1))) else none)
def f15_c3_B (k : Nat) (x0 : Int) : Option (Int × Unit) := some (x0, ())
theorem f15_c3_P (k : Nat) : f15_o_c3 (fun σ => f15_a k (f15_F_c3 k) .nx σ) = f15_c3_B k := by kernel_rfl
def f15_c3 (k : Nat) : f15_t_c3 := f15_c3_B k
theorem f15_c3_E (k : Nat) : f15_o_c3 (f15_C_c3 k) = f15_c3 k :=
  Eq.trans (congrArg f15_o_c3 (ap_fn (f15_f_c3 k))) ((f15_c3_P k).trans (by rfl))
theorem f15_entry_P (k : Nat) (G_c3 : f15_S) (xs : DL f15_sig) : f15_a k (.c (f15_p 2) 0 :: .c (f15_p 6) 0 :: .c (f15_p 28) 0 :: .c (f15_p 29) 0 :: .j G_c3 :: f15_F_c3 k) .nx (σ0 14 48 f15_sig xs) = f15_entry_B k (f15_o_c3 G_c3) xs.1 xs.2.1 := by kernel_rfl
def f15 (k : Nat) (a0 : Int) (a1 : Int) : Option (Int × Unit) := f15_entry_B k (f15_c3 k) a0 a1
theorem f15_fe (k : Nat) : f15_a k [.c (f15_p 1) 0] = f15_a k (.c (f15_p 2) 0 :: .c (f15_p 6) 0 :: .c (f15_p 28) 0 :: .c (f15_p 29) 0 :: .j (f15_C_c3 k) :: f15_F_c3 k) := (Eq.trans ap_sq (ap_cons _ (Eq.trans ap_sq (ap_cons _ (Eq.trans ap_sq (Eq.trans ap_sq (ap_cons _ (ap_cons _ (Eq.trans (ap_pass (C := (f15_C_c3 k)) (fun _ => rfl)) (ap_cons _ (f15_f_c3 k)))))))))))
theorem f15_eq (k : Nat) (xs : DL f15_sig) : den T f15_Y (f15_E k) f15_A k f15_c 0 (σ0 14 48 f15_sig xs) (Kfin T f15_rs f15_ts) = f15 k xs.1 xs.2.1 :=
  Eq.trans (Eq.trans den_sb (ap_at (f15_fe k) _)) ((f15_entry_P k (f15_C_c3 k) xs).trans (by rw [f15_c3_E k] <;> rfl))
noncomputable def f15_con (k : Nat) : Con := ⟨f15_sig, f15_rs, fun xs => f15 k xs.1 xs.2.1⟩
theorem f15_ok (k : Nat) : PureOK Try.prog 15 f15_sig f15_rs (fun xs => f15 k xs.1 xs.2.1) :=
  (pure_of_den (k := k) (A := f15_A) (T := T) (Y := f15_Y) (E := f15_E k) (M := 48) (ts := f15_ts) T_ok trivial trivial mixed (f := 15) (fn := Try.f15) (c := f15_c) (by kernel_rfl) (by kernel_rfl) (by kernel_rfl) (by decide) (by kernel_rfl)).congr fun xs => (f15_eq k xs).symm
theorem f15_ent : Ent Try.prog 15 := fun args w => by kernel_rfl
/-! ### (*terrier/terrmake.Stream).Next: function 43 -/
noncomputable def f43_c : Code := Try.f43.body.getD .skip
noncomputable abbrev f43_p (n : Nat) : Code := sb f43_c n
abbrev f43_sig : List PT := [(false, (.int .i64))]
abbrev f43_rs : List RT := [.d false (.int .i64)]
abbrev f43_ts : List RV := [.tmp 4]
abbrev f43_ls : List LO := [.box [.d Tq1]]
abbrev f43_S := St → Option (LOD f43_ls × RDL f43_rs)
abbrev f43_L := List (Fr (LOD f43_ls × RDL f43_rs))
def f43_Y : Tys := []
noncomputable def f43_E (k : Nat) : Env := [(15, .c (f15_con k))]
def f43_A : Ann := { regs := [(1, { slots := [(0, .id), (1, .id), (15, .bool)], keys := [(0, [.val false (.int .i64)])] })] }
noncomputable abbrev f43_a (k : Nat) (F : f43_L) : Kont (LOD f43_ls × RDL f43_rs) := ap T f43_Y (f43_E k) f43_A k (KfinB T f43_ls f43_rs f43_ts) F
def f43_s_r1 (y0_0 : (List Int)) (x1 : Int) (x15 : Bool) : St := mkS 33 113 [(0, aP 0), (1, aI x1), (15, aB x15)] [(0, .box [cV (.int .i64) y0_0])]
abbrev f43_t_r1 := (List Int) → Int → Bool → Option ((((List Int) × Unit) × Unit) × (Int × Unit))
abbrev f43_o_r1 (R : f43_S) : f43_t_r1 := (fun y0_0 x1 x15 => R (f43_s_r1 y0_0 x1 x15))
noncomputable def f43_Q_r1 (k : Nat) : f43_L := [.c (f43_p 13) 0, .c (f43_p 7) 0]
noncomputable def f43_C_r1 (k : Nat) : f43_S := fun σ => f43_a k (f43_Q_r1 k) .nx σ
noncomputable def f43_F_r1 (k : Nat) : f43_L := .c (f43_p 13) 0 :: .c (f43_p 7) 0 :: []
theorem f43_f_r1 (k : Nat) : f43_a k (f43_Q_r1 k) = f43_a k (f43_F_r1 k) := (ap_cons _ (ap_cons _ rfl))
def f43_entry_B (k : Nat) (g_r1 : f43_t_r1) (a : (List Int)) (a0 : Int) : Option ((((List Int) × Unit) × Unit) × (Int × Unit)) := (if (a.length : Int) = 0 then (g_r1 a a0 true) else (g_r1 a a0 (decide (a0 < 1))))
def f43_r1_B (k : Nat) (y0_0 : (List Int)) (x1 : Int) (x15 : Bool) : Option ((((List Int) × Unit) × Unit) × (Int × Unit)) := (if x15 = true then some (((y0_0, ()), ()), (0, ())) else (if 0 < (y0_0.length : Int) then (if (1 : Int) ≤ (y0_0.length : Int) then ((f15 k (y0_0.getD (0 : Int).toNat 0) x1).bind fun r1 => some ((((y0_0.drop (1 : Int).toNat), ()), ()), (r1.1, ()))) else none) else none))
theorem f43_r1_P (k : Nat) : f43_o_r1 (fun σ => f43_a k (f43_F_r1 k) .nx σ) = f43_r1_B k := by kernel_rfl
def f43_r1 (k : Nat) : f43_t_r1 := f43_r1_B k
theorem f43_r1_E (k : Nat) : f43_o_r1 (f43_C_r1 k) = f43_r1 k :=
  Eq.trans (congrArg f43_o_r1 (ap_fn (f43_f_r1 k))) ((f43_r1_P k).trans (by rfl))
theorem f43_entry_P (k : Nat) (G_r1 : f43_S) (x : LOD f43_ls) (xs : DL f43_sig) : f43_a k (.c (f43_p 2) 0 :: .c (f43_p 12) 0 :: .j G_r1 :: f43_F_r1 k) .nx (σ0B 33 113 0 f43_ls x f43_sig xs) = f43_entry_B k (f43_o_r1 G_r1) x.1.1 xs.1 := by kernel_rfl
def f43 (k : Nat) (a : (List Int)) (a0 : Int) : Option ((((List Int) × Unit) × Unit) × (Int × Unit)) := f43_entry_B k (f43_r1 k) a a0
theorem f43_fe (k : Nat) : f43_a k [.c (f43_p 1) 0] = f43_a k (.c (f43_p 2) 0 :: .c (f43_p 12) 0 :: .j (f43_C_r1 k) :: f43_F_r1 k) := (Eq.trans ap_sq (ap_cons _ (Eq.trans ap_sq (Eq.trans ap_sq (ap_cons _ (Eq.trans (ap_pass (C := (f43_C_r1 k)) (fun _ => rfl)) (ap_cons _ (f43_f_r1 k))))))))
theorem f43_eq (k : Nat) (x : LOD f43_ls) (xs : DL f43_sig) : den T f43_Y (f43_E k) f43_A k f43_c 0 (σ0B 33 113 0 f43_ls x f43_sig xs) (KfinB T f43_ls f43_rs f43_ts) = f43 k x.1.1 xs.1 :=
  Eq.trans (Eq.trans den_sb (ap_at (f43_fe k) _)) ((f43_entry_P k (f43_C_r1 k) x xs).trans (by rw [f43_r1_E k] <;> rfl))
noncomputable def f43_con (k : Nat) : BCon := ⟨0, f43_ls, f43_sig, f43_rs, fun x xs => f43 k x.1.1 xs.1⟩
theorem f43_ok (k : Nat) : BoxOK Try.prog 43 0 f43_ls f43_sig f43_rs (fun x xs => f43 k x.1.1 xs.1) :=
  (box_of_den (k := k) (A := f43_A) (T := T) (Y := f43_Y) (E := f43_E k) (M := 113) (ts := f43_ts) T_ok ⟨f15_ok k, trivial⟩ ⟨f15_ent, trivial⟩ mixed (f := 43) (fn := Try.f43) (c := f43_c) (by kernel_rfl) (by kernel_rfl) (by kernel_rfl) (by decide) (by kernel_rfl) (by decide)).congr fun x xs => (f43_eq k x xs).symm
theorem f43_ent : Ent Try.prog 43 := fun args w => by kernel_rfl
/-! ### (*terrier/terrmake.Stream).point: function 44 -/
noncomputable def f44_c : Code := Try.f44.body.getD .skip
noncomputable abbrev f44_p (n : Nat) : Code := sb f44_c n
abbrev f44_sig : List PT := []
abbrev f44_rs : List RT := [.d true Tq2]
abbrev f44_ts : List RV := [.cell 2 36]
abbrev f44_ls : List LO := [.box [.d Tq1]]
abbrev f44_S := St → Option (LOD f44_ls × RDL f44_rs)
abbrev f44_L := List (Fr (LOD f44_ls × RDL f44_rs))
def f44_Y : Tys := []
noncomputable def f44_E (k : Nat) : Env := [(43, .b (f43_con k))]
def f44_A : Ann := {}
noncomputable abbrev f44_a (k : Nat) (F : f44_L) : Kont (LOD f44_ls × RDL f44_rs) := ap T f44_Y (f44_E k) f44_A k (KfinB T f44_ls f44_rs f44_ts) F
def f44_entry_B (k : Nat) (a : (List Int)) : Option ((((List Int) × Unit) × Unit) × ((Int × Int) × Unit)) := ((f43 k a 81).bind fun r1 => ((f43 k r1.1.1.1 81).bind fun r2 => some (((r2.1.1.1, ()), ()), ((w64 (r1.2.1 - 40), w64 (r2.2.1 - 40)), ()))))
theorem f44_entry_P (k : Nat) (x : LOD f44_ls) (xs : DL f44_sig) : f44_a k (.c (f44_p 1) 0 :: []) .nx (σ0B 10 33 0 f44_ls x f44_sig xs) = f44_entry_B k x.1.1 := by kernel_rfl
def f44 (k : Nat) (a : (List Int)) : Option ((((List Int) × Unit) × Unit) × ((Int × Int) × Unit)) := f44_entry_B k a
theorem f44_eq (k : Nat) (x : LOD f44_ls) (xs : DL f44_sig) : den T f44_Y (f44_E k) f44_A k f44_c 0 (σ0B 10 33 0 f44_ls x f44_sig xs) (KfinB T f44_ls f44_rs f44_ts) = f44 k x.1.1 :=
  Eq.trans (Eq.trans den_sb (ap_at (ap_cons _ rfl) _)) ((f44_entry_P k x xs).trans (by rfl))
noncomputable def f44_con (k : Nat) : BCon := ⟨0, f44_ls, f44_sig, f44_rs, fun x xs => f44 k x.1.1⟩
theorem f44_ok (k : Nat) : BoxOK Try.prog 44 0 f44_ls f44_sig f44_rs (fun x xs => f44 k x.1.1) :=
  (box_of_den (k := k) (A := f44_A) (T := T) (Y := f44_Y) (E := f44_E k) (M := 33) (ts := f44_ts) T_ok ⟨f43_ok k, trivial⟩ ⟨f43_ent, trivial⟩ mixed (f := 44) (fn := Try.f44) (c := f44_c) (by kernel_rfl) (by kernel_rfl) (by kernel_rfl) (by decide) (by kernel_rfl) (by decide)).congr fun x xs => (f44_eq k x xs).symm
theorem f44_ent : Ent Try.prog 44 := fun args w => by kernel_rfl
/-! ### slices.Index[[]terrier/api.Point,terrier/api.Point]: function 69 -/
noncomputable def f69_c : Code := Try.f69.body.getD .skip
noncomputable abbrev f69_p (n : Nat) : Code := sb f69_c n
abbrev f69_sig : List PT := [(false, Tq3), (true, Tq2)]
abbrev f69_rs : List RT := [.d false (.int .i64)]
abbrev f69_ts : List RV := [.tmp 4]
abbrev f69_S := St → Option (RDL f69_rs)
abbrev f69_L := List (Fr (RDL f69_rs))
def f69_Y : Tys := []
noncomputable def f69_E (k : Nat) : Env := []
def f69_A : Ann := { loops := [(0, { slots := [(0, .val false Tq2), (3, .id), (7, .id), (8, .id)], keys := [(3, [])] })] }
noncomputable abbrev f69_a (k : Nat) (F : f69_L) : Kont (RDL f69_rs) := ap T f69_Y (f69_E k) f69_A k (Kfin T f69_rs f69_ts) F
def f69_s_l0 (y3_0 : Int) (y3_1 : Int) (x0 : (List (Int × Int))) (x7 : Int) (x8 : Int) : St := mkS 19 64 [(0, aV Tq2 x0), (3, aP 3), (7, aI x7), (8, aI x8)] [(3, .box [cI y3_0, cI y3_1])]
abbrev f69_t_l0 := Int → Int → (List (Int × Int)) → Int → Int → Option (Int × Unit)
abbrev f69_o_l0 (R : f69_S) : f69_t_l0 := (fun y3_0 y3_1 x0 x7 x8 => R (f69_s_l0 y3_0 y3_1 x0 x7 x8))
noncomputable def f69_Q_l0 (k : Nat) (R_l0 : f69_S) : f69_L := [.c (f69_p 52) 0, .j (fun σ => R_l0 (cut f69_A.loops 0 σ)), .blk 0, .c (f69_p 7) 0]
noncomputable def f69_C_l0 (k : Nat) (n : Nat) (σ : St) : Option (RDL f69_rs) := loopK (fun σ K => den T f69_Y (f69_E k) f69_A k (f69_p 52) 0 σ K) (cut f69_A.loops 0) (f69_a k [.blk 0, .c (f69_p 7) 0]) n σ
noncomputable def f69_F_l0 (k : Nat) (G_l0 : f69_S) : f69_L := .c (f69_p 52) 0 :: .j (fun σ => G_l0 (cut f69_A.loops 0 σ)) :: .blk 0 :: .c (f69_p 7) 0 :: []
theorem f69_f_l0 (k : Nat) (R_l0 : f69_S) : f69_a k (f69_Q_l0 k R_l0) = f69_a k (f69_F_l0 k R_l0) := (ap_cons _ (ap_cons _ (ap_cons _ (ap_cons _ rfl))))
def f69_entry_B (k : Nat) (g_l0 : f69_t_l0) (a0 : Td4) (a1 : (Int × Int)) : Option (Int × Unit) := (g_l0 a1.1 a1.2 a0 (a0.length : Int) 0)
def f69_l0_B (k : Nat) (g_l0 : f69_t_l0) (y3_0 : Int) (y3_1 : Int) (x0 : (List (Int × Int))) (x7 : Int) (x8 : Int) : Option (Int × Unit) := (if x8 < x7 then (if 0 ≤ x8 then (if x8 < (x0.length : Int) then (if (y3_0 = ((x0.getD (x8).toNat (0, 0)).1)) ∧ (y3_1 = ((x0.getD (x8).toNat (0, 0)).2)) then some (x8, ()) else (g_l0 y3_0 y3_1 x0 x7 (w64 (x8 + 1)))) else none) else none) else some ((-1), ()))
theorem f69_l0_P (k : Nat) (G_l0 : f69_S) : f69_o_l0 (fun σ => f69_a k (f69_F_l0 k G_l0) .nx σ) = f69_l0_B k (f69_o_l0 G_l0) := by kernel_rfl
def f69_l0 (k : Nat) : Nat → f69_t_l0
  | 0 => fun _ _ _ _ _ => none
  | n + 1 => f69_l0_B k (f69_l0 k n)
theorem f69_l0_E (k : Nat) : ∀ n, f69_o_l0 (f69_C_l0 k n) = f69_l0 k n
  | 0 => rfl
  | n + 1 =>
    Eq.trans (congrArg f69_o_l0 (Eq.trans (b := fun σ => f69_a k (f69_Q_l0 k (f69_C_l0 k n)) .nx σ) (by kernel_rfl) (ap_fn (f69_f_l0 k (f69_C_l0 k n))))) ((f69_l0_P k (f69_C_l0 k n)).trans (by rw [f69_l0_E k n] <;> rfl))
theorem f69_entry_P (k : Nat) (G_l0 : f69_S) (xs : DL f69_sig) : f69_a k (.c (f69_p 2) 0 :: .c (f69_p 12) 0 :: .j (fun σ => f69_a k (.j (fun σ => G_l0 (cut f69_A.loops 0 σ)) :: .blk 0 :: .c (f69_p 7) 0 :: []) .nx σ) :: .c (f69_p 7) 0 :: []) .nx (σ0 19 64 f69_sig xs) = f69_entry_B k (f69_o_l0 G_l0) xs.1 xs.2.1 := by kernel_rfl
def f69 (k : Nat) (a0 : Td4) (a1 : (Int × Int)) : Option (Int × Unit) := f69_entry_B k (f69_l0 k k) a0 a1
theorem f69_fe (k : Nat) : f69_a k [.c (f69_p 1) 0] = f69_a k (.c (f69_p 2) 0 :: .c (f69_p 12) 0 :: .j (fun σ => f69_a k (.j (fun σ => (f69_C_l0 k k) (cut f69_A.loops 0 σ)) :: .blk 0 :: .c (f69_p 7) 0 :: []) .nx σ) :: .c (f69_p 7) 0 :: []) := (Eq.trans ap_sq (ap_cons _ (Eq.trans ap_sq (Eq.trans ap_sq (ap_cons _ (Eq.trans (ap_bl 0) (Eq.trans (ap_j (Eq.trans (ap_lp (C := (f69_C_l0 k)) (fun _ _ => rfl)) (ap_cons _ (ap_cons _ (ap_cons _ rfl))))) (ap_cons _ (ap_cons _ rfl)))))))))
theorem f69_eq (k : Nat) (xs : DL f69_sig) : den T f69_Y (f69_E k) f69_A k f69_c 0 (σ0 19 64 f69_sig xs) (Kfin T f69_rs f69_ts) = f69 k xs.1 xs.2.1 :=
  Eq.trans (Eq.trans den_sb (ap_at (f69_fe k) _)) ((f69_entry_P k (f69_C_l0 k k) xs).trans (by rw [f69_l0_E k k] <;> rfl))
noncomputable def f69_con (k : Nat) : Con := ⟨f69_sig, f69_rs, fun xs => f69 k xs.1 xs.2.1⟩
theorem f69_ok (k : Nat) : PureOK Try.prog 69 f69_sig f69_rs (fun xs => f69 k xs.1 xs.2.1) :=
  (pure_of_den (k := k) (A := f69_A) (T := T) (Y := f69_Y) (E := f69_E k) (M := 64) (ts := f69_ts) T_ok trivial trivial mixed (f := 69) (fn := Try.f69) (c := f69_c) (by kernel_rfl) (by kernel_rfl) (by kernel_rfl) (by decide) (by kernel_rfl)).congr fun xs => (f69_eq k xs).symm
theorem f69_ent : Ent Try.prog 69 := fun args w => by kernel_rfl
/-! ### slices.Contains[[]terrier/api.Point,terrier/api.Point]: function 45 -/
noncomputable def f45_c : Code := Try.f45.body.getD .skip
noncomputable abbrev f45_p (n : Nat) : Code := sb f45_c n
abbrev f45_sig : List PT := [(false, Tq3), (true, Tq2)]
abbrev f45_rs : List RT := [.d false .bool]
abbrev f45_ts : List RV := [.tmp 4]
abbrev f45_S := St → Option (RDL f45_rs)
abbrev f45_L := List (Fr (RDL f45_rs))
def f45_Y : Tys := []
noncomputable def f45_E (k : Nat) : Env := [(69, .c (f69_con k))]
def f45_A : Ann := {}
noncomputable abbrev f45_a (k : Nat) (F : f45_L) : Kont (RDL f45_rs) := ap T f45_Y (f45_E k) f45_A k (Kfin T f45_rs f45_ts) F
def f45_entry_B (k : Nat) (a0 : Td4) (a1 : (Int × Int)) : Option (Bool × Unit) := ((f69 k a0 (a1.1, a1.2)).bind fun r1 => some (decide (0 ≤ r1.1), ()))
theorem f45_entry_P (k : Nat) (xs : DL f45_sig) : f45_a k (.c (f45_p 1) 0 :: []) .nx (σ0 9 32 f45_sig xs) = f45_entry_B k xs.1 xs.2.1 := by kernel_rfl
def f45 (k : Nat) (a0 : Td4) (a1 : (Int × Int)) : Option (Bool × Unit) := f45_entry_B k a0 a1
theorem f45_eq (k : Nat) (xs : DL f45_sig) : den T f45_Y (f45_E k) f45_A k f45_c 0 (σ0 9 32 f45_sig xs) (Kfin T f45_rs f45_ts) = f45 k xs.1 xs.2.1 :=
  Eq.trans (Eq.trans den_sb (ap_at (ap_cons _ rfl) _)) ((f45_entry_P k xs).trans (by rfl))
noncomputable def f45_con (k : Nat) : Con := ⟨f45_sig, f45_rs, fun xs => f45 k xs.1 xs.2.1⟩
theorem f45_ok (k : Nat) : PureOK Try.prog 45 f45_sig f45_rs (fun xs => f45 k xs.1 xs.2.1) :=
  (pure_of_den (k := k) (A := f45_A) (T := T) (Y := f45_Y) (E := f45_E k) (M := 32) (ts := f45_ts) T_ok ⟨f69_ok k, trivial⟩ ⟨f69_ent, trivial⟩ mixed (f := 45) (fn := Try.f45) (c := f45_c) (by kernel_rfl) (by kernel_rfl) (by kernel_rfl) (by decide) (by kernel_rfl)).congr fun xs => (f45_eq k xs).symm
theorem f45_ent : Ent Try.prog 45 := fun args w => by kernel_rfl
/-! ### slices.Index[[]terrier/api.Ban,terrier/api.Ban]: function 70 -/
noncomputable def f70_c : Code := Try.f70.body.getD .skip
noncomputable abbrev f70_p (n : Nat) : Code := sb f70_c n
abbrev f70_sig : List PT := [(false, Tq3), (true, Tq2)]
abbrev f70_rs : List RT := [.d false (.int .i64)]
abbrev f70_ts : List RV := [.tmp 4]
abbrev f70_S := St → Option (RDL f70_rs)
abbrev f70_L := List (Fr (RDL f70_rs))
def f70_Y : Tys := []
noncomputable def f70_E (k : Nat) : Env := []
def f70_A : Ann := { loops := [(0, { slots := [(0, .val false Tq2), (3, .id), (7, .id), (8, .id)], keys := [(3, [])] })] }
noncomputable abbrev f70_a (k : Nat) (F : f70_L) : Kont (RDL f70_rs) := ap T f70_Y (f70_E k) f70_A k (Kfin T f70_rs f70_ts) F
def f70_s_l0 (y3_0 : Int) (y3_1 : Int) (x0 : (List (Int × Int))) (x7 : Int) (x8 : Int) : St := mkS 19 64 [(0, aV Tq2 x0), (3, aP 3), (7, aI x7), (8, aI x8)] [(3, .box [cI y3_0, cI y3_1])]
abbrev f70_t_l0 := Int → Int → (List (Int × Int)) → Int → Int → Option (Int × Unit)
abbrev f70_o_l0 (R : f70_S) : f70_t_l0 := (fun y3_0 y3_1 x0 x7 x8 => R (f70_s_l0 y3_0 y3_1 x0 x7 x8))
noncomputable def f70_Q_l0 (k : Nat) (R_l0 : f70_S) : f70_L := [.c (f70_p 52) 0, .j (fun σ => R_l0 (cut f70_A.loops 0 σ)), .blk 0, .c (f70_p 7) 0]
noncomputable def f70_C_l0 (k : Nat) (n : Nat) (σ : St) : Option (RDL f70_rs) := loopK (fun σ K => den T f70_Y (f70_E k) f70_A k (f70_p 52) 0 σ K) (cut f70_A.loops 0) (f70_a k [.blk 0, .c (f70_p 7) 0]) n σ
noncomputable def f70_F_l0 (k : Nat) (G_l0 : f70_S) : f70_L := .c (f70_p 52) 0 :: .j (fun σ => G_l0 (cut f70_A.loops 0 σ)) :: .blk 0 :: .c (f70_p 7) 0 :: []
theorem f70_f_l0 (k : Nat) (R_l0 : f70_S) : f70_a k (f70_Q_l0 k R_l0) = f70_a k (f70_F_l0 k R_l0) := (ap_cons _ (ap_cons _ (ap_cons _ (ap_cons _ rfl))))
def f70_entry_B (k : Nat) (g_l0 : f70_t_l0) (a0 : Td4) (a1 : (Int × Int)) : Option (Int × Unit) := (g_l0 a1.1 a1.2 a0 (a0.length : Int) 0)
def f70_l0_B (k : Nat) (g_l0 : f70_t_l0) (y3_0 : Int) (y3_1 : Int) (x0 : (List (Int × Int))) (x7 : Int) (x8 : Int) : Option (Int × Unit) := (if x8 < x7 then (if 0 ≤ x8 then (if x8 < (x0.length : Int) then (if (y3_0 = ((x0.getD (x8).toNat (0, 0)).1)) ∧ (y3_1 = ((x0.getD (x8).toNat (0, 0)).2)) then some (x8, ()) else (g_l0 y3_0 y3_1 x0 x7 (w64 (x8 + 1)))) else none) else none) else some ((-1), ()))
theorem f70_l0_P (k : Nat) (G_l0 : f70_S) : f70_o_l0 (fun σ => f70_a k (f70_F_l0 k G_l0) .nx σ) = f70_l0_B k (f70_o_l0 G_l0) := by kernel_rfl
def f70_l0 (k : Nat) : Nat → f70_t_l0
  | 0 => fun _ _ _ _ _ => none
  | n + 1 => f70_l0_B k (f70_l0 k n)
theorem f70_l0_E (k : Nat) : ∀ n, f70_o_l0 (f70_C_l0 k n) = f70_l0 k n
  | 0 => rfl
  | n + 1 =>
    Eq.trans (congrArg f70_o_l0 (Eq.trans (b := fun σ => f70_a k (f70_Q_l0 k (f70_C_l0 k n)) .nx σ) (by kernel_rfl) (ap_fn (f70_f_l0 k (f70_C_l0 k n))))) ((f70_l0_P k (f70_C_l0 k n)).trans (by rw [f70_l0_E k n] <;> rfl))
theorem f70_entry_P (k : Nat) (G_l0 : f70_S) (xs : DL f70_sig) : f70_a k (.c (f70_p 2) 0 :: .c (f70_p 12) 0 :: .j (fun σ => f70_a k (.j (fun σ => G_l0 (cut f70_A.loops 0 σ)) :: .blk 0 :: .c (f70_p 7) 0 :: []) .nx σ) :: .c (f70_p 7) 0 :: []) .nx (σ0 19 64 f70_sig xs) = f70_entry_B k (f70_o_l0 G_l0) xs.1 xs.2.1 := by kernel_rfl
def f70 (k : Nat) (a0 : Td4) (a1 : (Int × Int)) : Option (Int × Unit) := f70_entry_B k (f70_l0 k k) a0 a1
theorem f70_fe (k : Nat) : f70_a k [.c (f70_p 1) 0] = f70_a k (.c (f70_p 2) 0 :: .c (f70_p 12) 0 :: .j (fun σ => f70_a k (.j (fun σ => (f70_C_l0 k k) (cut f70_A.loops 0 σ)) :: .blk 0 :: .c (f70_p 7) 0 :: []) .nx σ) :: .c (f70_p 7) 0 :: []) := (Eq.trans ap_sq (ap_cons _ (Eq.trans ap_sq (Eq.trans ap_sq (ap_cons _ (Eq.trans (ap_bl 0) (Eq.trans (ap_j (Eq.trans (ap_lp (C := (f70_C_l0 k)) (fun _ _ => rfl)) (ap_cons _ (ap_cons _ (ap_cons _ rfl))))) (ap_cons _ (ap_cons _ rfl)))))))))
theorem f70_eq (k : Nat) (xs : DL f70_sig) : den T f70_Y (f70_E k) f70_A k f70_c 0 (σ0 19 64 f70_sig xs) (Kfin T f70_rs f70_ts) = f70 k xs.1 xs.2.1 :=
  Eq.trans (Eq.trans den_sb (ap_at (f70_fe k) _)) ((f70_entry_P k (f70_C_l0 k k) xs).trans (by rw [f70_l0_E k k] <;> rfl))
noncomputable def f70_con (k : Nat) : Con := ⟨f70_sig, f70_rs, fun xs => f70 k xs.1 xs.2.1⟩
theorem f70_ok (k : Nat) : PureOK Try.prog 70 f70_sig f70_rs (fun xs => f70 k xs.1 xs.2.1) :=
  (pure_of_den (k := k) (A := f70_A) (T := T) (Y := f70_Y) (E := f70_E k) (M := 64) (ts := f70_ts) T_ok trivial trivial mixed (f := 70) (fn := Try.f70) (c := f70_c) (by kernel_rfl) (by kernel_rfl) (by kernel_rfl) (by decide) (by kernel_rfl)).congr fun xs => (f70_eq k xs).symm
theorem f70_ent : Ent Try.prog 70 := fun args w => by kernel_rfl
/-! ### slices.Contains[[]terrier/api.Ban,terrier/api.Ban]: function 46 -/
noncomputable def f46_c : Code := Try.f46.body.getD .skip
noncomputable abbrev f46_p (n : Nat) : Code := sb f46_c n
abbrev f46_sig : List PT := [(false, Tq3), (true, Tq2)]
abbrev f46_rs : List RT := [.d false .bool]
abbrev f46_ts : List RV := [.tmp 4]
abbrev f46_S := St → Option (RDL f46_rs)
abbrev f46_L := List (Fr (RDL f46_rs))
def f46_Y : Tys := []
noncomputable def f46_E (k : Nat) : Env := [(70, .c (f70_con k))]
def f46_A : Ann := {}
noncomputable abbrev f46_a (k : Nat) (F : f46_L) : Kont (RDL f46_rs) := ap T f46_Y (f46_E k) f46_A k (Kfin T f46_rs f46_ts) F
def f46_entry_B (k : Nat) (a0 : Td4) (a1 : (Int × Int)) : Option (Bool × Unit) := ((f70 k a0 (a1.1, a1.2)).bind fun r1 => some (decide (0 ≤ r1.1), ()))
theorem f46_entry_P (k : Nat) (xs : DL f46_sig) : f46_a k (.c (f46_p 1) 0 :: []) .nx (σ0 9 32 f46_sig xs) = f46_entry_B k xs.1 xs.2.1 := by kernel_rfl
def f46 (k : Nat) (a0 : Td4) (a1 : (Int × Int)) : Option (Bool × Unit) := f46_entry_B k a0 a1
theorem f46_eq (k : Nat) (xs : DL f46_sig) : den T f46_Y (f46_E k) f46_A k f46_c 0 (σ0 9 32 f46_sig xs) (Kfin T f46_rs f46_ts) = f46 k xs.1 xs.2.1 :=
  Eq.trans (Eq.trans den_sb (ap_at (ap_cons _ rfl) _)) ((f46_entry_P k xs).trans (by rfl))
noncomputable def f46_con (k : Nat) : Con := ⟨f46_sig, f46_rs, fun xs => f46 k xs.1 xs.2.1⟩
theorem f46_ok (k : Nat) : PureOK Try.prog 46 f46_sig f46_rs (fun xs => f46 k xs.1 xs.2.1) :=
  (pure_of_den (k := k) (A := f46_A) (T := T) (Y := f46_Y) (E := f46_E k) (M := 32) (ts := f46_ts) T_ok ⟨f70_ok k, trivial⟩ ⟨f70_ent, trivial⟩ mixed (f := 46) (fn := Try.f46) (c := f46_c) (by kernel_rfl) (by kernel_rfl) (by kernel_rfl) (by decide) (by kernel_rfl)).congr fun xs => (f46_eq k xs).symm
theorem f46_ent : Ent Try.prog 46 := fun args w => by kernel_rfl
/-! ### math/bits.Len64: function 95 -/
noncomputable def f95_c : Code := Try.f95.body.getD .skip
noncomputable abbrev f95_p (n : Nat) : Code := sb f95_c n
abbrev f95_sig : List PT := [(false, (.int .u64))]
abbrev f95_rs : List RT := [.d false (.int .i64)]
abbrev f95_ts : List RV := [.tmp 2]
abbrev f95_S := St → Option (RDL f95_rs)
abbrev f95_L := List (Fr (RDL f95_rs))
def f95_Y : Tys := []
noncomputable def f95_E (k : Nat) : Env := []
def f95_A : Ann := { conds := [(2, { slots := [(0, .id), (2, .id)] }), (5, { slots := [(0, .id), (2, .id)] }), (8, { slots := [(0, .id), (2, .id)] })] }
noncomputable abbrev f95_a (k : Nat) (F : f95_L) : Kont (RDL f95_rs) := ap T f95_Y (f95_E k) f95_A k (Kfin T f95_rs f95_ts) F
def f95_s_c2 (x0 : Int) (x2 : Int) : St := mkS 25 80 [(0, .cp (.one (.int .u64 x0))), (2, aI x2)] []
abbrev f95_t_c2 := Int → Int → Option (Int × Unit)
abbrev f95_o_c2 (R : f95_S) : f95_t_c2 := (fun x0 x2 => R (f95_s_c2 x0 x2))
noncomputable def f95_Q_c2 (k : Nat) : f95_L := [.c (f95_p 7) 0]
noncomputable def f95_C_c2 (k : Nat) : f95_S := fun σ => f95_a k (f95_Q_c2 k) .nx σ
def f95_s_c5 (x0 : Int) (x2 : Int) : St := mkS 25 80 [(0, .cp (.one (.int .u64 x0))), (2, aI x2)] []
abbrev f95_t_c5 := Int → Int → Option (Int × Unit)
abbrev f95_o_c5 (R : f95_S) : f95_t_c5 := (fun x0 x2 => R (f95_s_c5 x0 x2))
noncomputable def f95_Q_c5 (k : Nat) : f95_L := [.c (f95_p 15) 0]
noncomputable def f95_C_c5 (k : Nat) : f95_S := fun σ => f95_a k (f95_Q_c5 k) .nx σ
def f95_s_c8 (x0 : Int) (x2 : Int) : St := mkS 25 80 [(0, .cp (.one (.int .u64 x0))), (2, aI x2)] []
abbrev f95_t_c8 := Int → Int → Option (Int × Unit)
abbrev f95_o_c8 (R : f95_S) : f95_t_c8 := (fun x0 x2 => R (f95_s_c8 x0 x2))
noncomputable def f95_Q_c8 (k : Nat) : f95_L := [.c (f95_p 31) 0]
noncomputable def f95_C_c8 (k : Nat) : f95_S := fun σ => f95_a k (f95_Q_c8 k) .nx σ
noncomputable def f95_F_c8 (k : Nat) : f95_L := .c (f95_p 31) 0 :: []
theorem f95_f_c8 (k : Nat) : f95_a k (f95_Q_c8 k) = f95_a k (f95_F_c8 k) := (ap_cons _ rfl)
noncomputable def f95_F_c5 (k : Nat) (G_c8 : f95_S) : f95_L := .c (f95_p 60) 0 :: .c (f95_p 61) 0 :: .j G_c8 :: f95_F_c8 k
theorem f95_f_c5 (k : Nat) : f95_a k (f95_Q_c5 k) = f95_a k (f95_F_c5 k (f95_C_c8 k)) := (Eq.trans ap_sq (Eq.trans ap_sq (ap_cons _ (ap_cons _ (Eq.trans (ap_pass (C := (f95_C_c8 k)) (fun _ => rfl)) (ap_cons _ (f95_f_c8 k)))))))
noncomputable def f95_F_c2 (k : Nat) (G_c5 G_c8 : f95_S) : f95_L := .c (f95_p 28) 0 :: .c (f95_p 29) 0 :: .j G_c5 :: f95_F_c5 k G_c8
theorem f95_f_c2 (k : Nat) : f95_a k (f95_Q_c2 k) = f95_a k (f95_F_c2 k (f95_C_c5 k) (f95_C_c8 k)) := (Eq.trans ap_sq (Eq.trans ap_sq (ap_cons _ (ap_cons _ (Eq.trans (ap_pass (C := (f95_C_c5 k)) (fun _ => rfl)) (ap_cons _ (f95_f_c5 k)))))))
def f95_entry_B (k : Nat) (g_c2 : f95_t_c2) (a0 : Int) : Option (Int × Unit) := (if 4294967296 ≤ a0 then (g_c2 (a0.fdiv (2 ^ min (32 : Int).toNat (IntKind.bits .u64))) 32) else (g_c2 a0 0))
def f95_c2_B (k : Nat) (g_c5 : f95_t_c5) (x0 : Int) (x2 : Int) : Option (Int × Unit) := (if 65536 ≤ x0 then (g_c5 (x0.fdiv (2 ^ min (16 : Int).toNat (IntKind.bits .u64))) (w64 (x2 + 16))) else (g_c5 x0 x2))
def f95_c5_B (k : Nat) (g_c8 : f95_t_c8) (x0 : Int) (x2 : Int) : Option (Int × Unit) := (if 256 ≤ x0 then (g_c8 (x0.fdiv (2 ^ min (8 : Int).toNat (IntKind.bits .u64))) (w64 (x2 + 8))) else (g_c8 x0 x2))
def f95_c8_B (k : Nat) (x0 : Int) (x2 : Int) : Option (Int × Unit) := (if 0 ≤ (IntKind.u8.wrap (x0)) then (if (IntKind.u8.wrap (x0)) < (Ts0.size : Int) then some (w64 (x2 + (w64 (strAt Ts0 (IntKind.u8.wrap (x0)).toNat))), ()) else none) else none)
theorem f95_c8_P (k : Nat) : f95_o_c8 (fun σ => f95_a k (f95_F_c8 k) .nx σ) = f95_c8_B k := by kernel_rfl
def f95_c8 (k : Nat) : f95_t_c8 := f95_c8_B k
theorem f95_c8_E (k : Nat) : f95_o_c8 (f95_C_c8 k) = f95_c8 k :=
  Eq.trans (congrArg f95_o_c8 (ap_fn (f95_f_c8 k))) ((f95_c8_P k).trans (by rfl))
theorem f95_c5_P (k : Nat) (G_c8 : f95_S) : f95_o_c5 (fun σ => f95_a k (f95_F_c5 k G_c8) .nx σ) = f95_c5_B k (f95_o_c8 G_c8) := by kernel_rfl
def f95_c5 (k : Nat) : f95_t_c5 := f95_c5_B k (f95_c8 k)
theorem f95_c5_E (k : Nat) : f95_o_c5 (f95_C_c5 k) = f95_c5 k :=
  Eq.trans (congrArg f95_o_c5 (ap_fn (f95_f_c5 k))) ((f95_c5_P k (f95_C_c8 k)).trans (by rw [f95_c8_E k] <;> rfl))
theorem f95_c2_P (k : Nat) (G_c5 G_c8 : f95_S) : f95_o_c2 (fun σ => f95_a k (f95_F_c2 k G_c5 G_c8) .nx σ) = f95_c2_B k (f95_o_c5 G_c5) := by kernel_rfl
def f95_c2 (k : Nat) : f95_t_c2 := f95_c2_B k (f95_c5 k)
theorem f95_c2_E (k : Nat) : f95_o_c2 (f95_C_c2 k) = f95_c2 k :=
  Eq.trans (congrArg f95_o_c2 (ap_fn (f95_f_c2 k))) ((f95_c2_P k (f95_C_c5 k) (f95_C_c8 k)).trans (by rw [f95_c5_E k] <;> rfl))
theorem f95_entry_P (k : Nat) (G_c2 G_c5 G_c8 : f95_S) (xs : DL f95_sig) : f95_a k (.c (f95_p 2) 0 :: .c (f95_p 12) 0 :: .c (f95_p 13) 0 :: .j G_c2 :: f95_F_c2 k G_c5 G_c8) .nx (σ0 25 80 f95_sig xs) = f95_entry_B k (f95_o_c2 G_c2) xs.1 := by kernel_rfl
def f95 (k : Nat) (a0 : Int) : Option (Int × Unit) := f95_entry_B k (f95_c2 k) a0
theorem f95_fe (k : Nat) : f95_a k [.c (f95_p 1) 0] = f95_a k (.c (f95_p 2) 0 :: .c (f95_p 12) 0 :: .c (f95_p 13) 0 :: .j (f95_C_c2 k) :: f95_F_c2 k (f95_C_c5 k) (f95_C_c8 k)) := (Eq.trans ap_sq (ap_cons _ (Eq.trans ap_sq (Eq.trans ap_sq (ap_cons _ (ap_cons _ (Eq.trans (ap_pass (C := (f95_C_c2 k)) (fun _ => rfl)) (ap_cons _ (f95_f_c2 k)))))))))
theorem f95_eq (k : Nat) (xs : DL f95_sig) : den T f95_Y (f95_E k) f95_A k f95_c 0 (σ0 25 80 f95_sig xs) (Kfin T f95_rs f95_ts) = f95 k xs.1 :=
  Eq.trans (Eq.trans den_sb (ap_at (f95_fe k) _)) ((f95_entry_P k (f95_C_c2 k) (f95_C_c5 k) (f95_C_c8 k) xs).trans (by rw [f95_c2_E k] <;> rfl))
noncomputable def f95_con (k : Nat) : Con := ⟨f95_sig, f95_rs, fun xs => f95 k xs.1⟩
theorem f95_ok (k : Nat) : PureOK Try.prog 95 f95_sig f95_rs (fun xs => f95 k xs.1) :=
  (pure_of_den (k := k) (A := f95_A) (T := T) (Y := f95_Y) (E := f95_E k) (M := 80) (ts := f95_ts) T_ok trivial trivial mixed (f := 95) (fn := Try.f95) (c := f95_c) (by kernel_rfl) (by kernel_rfl) (by kernel_rfl) (by decide) (by kernel_rfl)).congr fun xs => (f95_eq k xs).symm
theorem f95_ent : Ent Try.prog 95 := fun args w => by kernel_rfl
/-! ### math/bits.Len: function 68 -/
noncomputable def f68_c : Code := Try.f68.body.getD .skip
noncomputable abbrev f68_p (n : Nat) : Code := sb f68_c n
abbrev f68_sig : List PT := [(false, (.int .u64))]
abbrev f68_rs : List RT := [.d false (.int .i64)]
abbrev f68_ts : List RV := [.tmp 2]
abbrev f68_S := St → Option (RDL f68_rs)
abbrev f68_L := List (Fr (RDL f68_rs))
def f68_Y : Tys := []
noncomputable def f68_E (k : Nat) : Env := [(95, .c (f95_con k))]
def f68_A : Ann := {}
noncomputable abbrev f68_a (k : Nat) (F : f68_L) : Kont (RDL f68_rs) := ap T f68_Y (f68_E k) f68_A k (Kfin T f68_rs f68_ts) F
def f68_entry_B (k : Nat) (a0 : Int) : Option (Int × Unit) := ((f95 k a0).bind fun r1 => some (r1.1, ()))
theorem f68_entry_P (k : Nat) (xs : DL f68_sig) : f68_a k (.c (f68_p 1) 0 :: []) .nx (σ0 8 32 f68_sig xs) = f68_entry_B k xs.1 := by kernel_rfl
def f68 (k : Nat) (a0 : Int) : Option (Int × Unit) := f68_entry_B k a0
theorem f68_eq (k : Nat) (xs : DL f68_sig) : den T f68_Y (f68_E k) f68_A k f68_c 0 (σ0 8 32 f68_sig xs) (Kfin T f68_rs f68_ts) = f68 k xs.1 :=
  Eq.trans (Eq.trans den_sb (ap_at (ap_cons _ rfl) _)) ((f68_entry_P k xs).trans (by rfl))
noncomputable def f68_con (k : Nat) : Con := ⟨f68_sig, f68_rs, fun xs => f68 k xs.1⟩
theorem f68_ok (k : Nat) : PureOK Try.prog 68 f68_sig f68_rs (fun xs => f68 k xs.1) :=
  (pure_of_den (k := k) (A := f68_A) (T := T) (Y := f68_Y) (E := f68_E k) (M := 32) (ts := f68_ts) T_ok ⟨f95_ok k, trivial⟩ ⟨f95_ent, trivial⟩ mixed (f := 68) (fn := Try.f68) (c := f68_c) (by kernel_rfl) (by kernel_rfl) (by kernel_rfl) (by decide) (by kernel_rfl)).congr fun xs => (f68_eq k xs).symm
theorem f68_ent : Ent Try.prog 68 := fun args w => by kernel_rfl
/-! ### terrier/terrmake.Net$1: function 48 -/
noncomputable def f48_c : Code := Try.f48.body.getD .skip
noncomputable abbrev f48_p (n : Nat) : Code := sb f48_c n
abbrev f48_sig : List PT := [(true, Tq2), (true, Tq2)]
abbrev f48_rs : List RT := [.d false (.int .i64)]
abbrev f48_ts : List RV := [.tmp 4]
abbrev f48_S := St → Option (RDL f48_rs)
abbrev f48_L := List (Fr (RDL f48_rs))
def f48_Y : Tys := []
noncomputable def f48_E (k : Nat) : Env := []
def f48_A : Ann := {}
noncomputable abbrev f48_a (k : Nat) (F : f48_L) : Kont (RDL f48_rs) := ap T f48_Y (f48_E k) f48_A k (Kfin T f48_rs f48_ts) F
def f48_entry_B (k : Nat) (a0 : (Int × Int)) (a1 : (Int × Int)) : Option (Int × Unit) := (if ¬ (a0.1 = a1.1) then some (w64 (a0.1 - a1.1), ()) else some (w64 (a0.2 - a1.2), ()))
theorem f48_entry_P (k : Nat) (xs : DL f48_sig) : f48_a k (.c (f48_p 1) 0 :: []) .nx (σ0 20 64 f48_sig xs) = f48_entry_B k xs.1 xs.2.1 := by kernel_rfl
def f48 (k : Nat) (a0 : (Int × Int)) (a1 : (Int × Int)) : Option (Int × Unit) := f48_entry_B k a0 a1
theorem f48_eq (k : Nat) (xs : DL f48_sig) : den T f48_Y (f48_E k) f48_A k f48_c 0 (σ0 20 64 f48_sig xs) (Kfin T f48_rs f48_ts) = f48 k xs.1 xs.2.1 :=
  Eq.trans (Eq.trans den_sb (ap_at (ap_cons _ rfl) _)) ((f48_entry_P k xs).trans (by rfl))
noncomputable def f48_con (k : Nat) : Con := ⟨f48_sig, f48_rs, fun xs => f48 k xs.1 xs.2.1⟩
theorem f48_ok (k : Nat) : PureOK Try.prog 48 f48_sig f48_rs (fun xs => f48 k xs.1 xs.2.1) :=
  (pure_of_den (k := k) (A := f48_A) (T := T) (Y := f48_Y) (E := f48_E k) (M := 64) (ts := f48_ts) T_ok trivial trivial mixed (f := 48) (fn := Try.f48) (c := f48_c) (by kernel_rfl) (by kernel_rfl) (by kernel_rfl) (by decide) (by kernel_rfl)).congr fun xs => (f48_eq k xs).symm
theorem f48_ent : Ent Try.prog 48 := fun args w => by kernel_rfl
/-! ### slices.insertionSortCmpFunc[terrier/api.Ban]: function 96 -/
noncomputable def f96_c : Code := Try.f96.body.getD .skip
noncomputable abbrev f96_p (n : Nat) : Code := sb f96_c n
abbrev f96_sig : List PT := [(false, (.int .i64)), (false, (.int .i64)), (false, (.fn 48))]
abbrev f96_rs : List RT := []
abbrev f96_ts : List RV := []
abbrev f96_ls : List LO := [.row Tq2]
abbrev f96_S := St → Option (LOD f96_ls × RDL f96_rs)
abbrev f96_L := List (Fr (LOD f96_ls × RDL f96_rs))
def f96_Y : Tys := []
noncomputable def f96_E (k : Nat) : Env := [(48, .c (f48_con k))]
def f96_A : Ann := { loops := [(0, { slots := [(0, .id), (1, .id), (2, .id), (3, .id), (8, .id)], keys := [(0, [])] }), (2, { slots := [(0, .id), (1, .id), (2, .id), (3, .id), (8, .id), (9, .id)], keys := [(0, [])] })], regs := [(4, { slots := [(0, .id), (1, .id), (2, .id), (3, .id), (8, .id), (9, .id), (34, .bool)], keys := [(0, [])] })] }
noncomputable abbrev f96_a (k : Nat) (F : f96_L) : Kont (LOD f96_ls × RDL f96_rs) := ap T f96_Y (f96_E k) f96_A k (KfinB T f96_ls f96_rs f96_ts) F
def f96_s_l0 (y0 : (List (Int × Int))) (x1 : Int) (x2 : Int) (x8 : Int) : St := mkS 53 161 [(0, aO 0), (1, aI x1), (2, aI x2), (3, .cp (.one (.fn 48 []))), (8, aI x8)] [(0, .vec Tq2 y0)]
abbrev f96_t_l0 := (List (Int × Int)) → Int → Int → Int → Option (((List (Int × Int)) × Unit) × (Unit))
abbrev f96_o_l0 (R : f96_S) : f96_t_l0 := (fun y0 x1 x2 x8 => R (f96_s_l0 y0 x1 x2 x8))
noncomputable def f96_Q_l0 (k : Nat) (R_l0 : f96_S) : f96_L := [.c (f96_p 12) 0, .j (fun σ => R_l0 (cut f96_A.loops 0 σ)), .blk 0]
noncomputable def f96_C_l0 (k : Nat) (n : Nat) (σ : St) : Option (LOD f96_ls × RDL f96_rs) := loopK (fun σ K => den T f96_Y (f96_E k) f96_A k (f96_p 12) 0 σ K) (cut f96_A.loops 0) (f96_a k [.blk 0]) n σ
def f96_s_l2 (y0 : (List (Int × Int))) (x1 : Int) (x2 : Int) (x8 : Int) (x9 : Int) : St := mkS 53 161 [(0, aO 0), (1, aI x1), (2, aI x2), (3, .cp (.one (.fn 48 []))), (8, aI x8), (9, aI x9)] [(0, .vec Tq2 y0)]
abbrev f96_t_l2 := (List (Int × Int)) → Int → Int → Int → Int → Option (((List (Int × Int)) × Unit) × (Unit))
abbrev f96_o_l2 (R : f96_S) : f96_t_l2 := (fun y0 x1 x2 x8 x9 => R (f96_s_l2 y0 x1 x2 x8 x9))
noncomputable def f96_Q_l2 (k : Nat) (R_l0 R_l2 : f96_S) : f96_L := [.c (f96_p 804) 2, .j (fun σ => R_l2 (cut f96_A.loops 2 σ)), .blk 2, .blk 1, .c (f96_p 51) 0, .j (fun σ => R_l0 (cut f96_A.loops 0 σ)), .blk 0]
noncomputable def f96_C_l2 (k : Nat) (R_l0 : f96_S) (n : Nat) (σ : St) : Option (LOD f96_ls × RDL f96_rs) := loopK (fun σ K => den T f96_Y (f96_E k) f96_A k (f96_p 804) 2 σ K) (cut f96_A.loops 2) (f96_a k [.blk 2, .blk 1, .c (f96_p 51) 0, .j (fun σ => R_l0 (cut f96_A.loops 0 σ)), .blk 0]) n σ
def f96_s_r4 (y0 : (List (Int × Int))) (x1 : Int) (x2 : Int) (x34 : Bool) (x8 : Int) (x9 : Int) : St := mkS 53 161 [(0, aO 0), (1, aI x1), (2, aI x2), (3, .cp (.one (.fn 48 []))), (8, aI x8), (9, aI x9), (34, aB x34)] [(0, .vec Tq2 y0)]
abbrev f96_t_r4 := (List (Int × Int)) → Int → Int → Bool → Int → Int → Option (((List (Int × Int)) × Unit) × (Unit))
abbrev f96_o_r4 (R : f96_S) : f96_t_r4 := (fun y0 x1 x2 x34 x8 x9 => R (f96_s_r4 y0 x1 x2 x34 x8 x9))
noncomputable def f96_Q_r4 (k : Nat) (R_l2 R_l0 : f96_S) : f96_L := [.c (f96_p 3217) 2, .c (f96_p 1609) 2, .j (fun σ => R_l2 (cut f96_A.loops 2 σ)), .blk 2, .blk 1, .c (f96_p 51) 0, .j (fun σ => R_l0 (cut f96_A.loops 0 σ)), .blk 0]
noncomputable def f96_C_r4 (k : Nat) (R_l2 R_l0 : f96_S) : f96_S := fun σ => f96_a k (f96_Q_r4 k R_l2 R_l0) .nx σ
noncomputable def f96_F_l0 (k : Nat) (G_l0 G_l2 : f96_S) : f96_L := .c (f96_p 24) 0 :: .j (fun σ => f96_a k (.c (f96_p 200) 1 :: .j (fun σ => f96_a k (.j (fun σ => G_l2 (cut f96_A.loops 2 σ)) :: .blk 2 :: .blk 1 :: .c (f96_p 51) 0 :: .j (fun σ => G_l0 (cut f96_A.loops 0 σ)) :: .blk 0 :: []) .nx σ) :: .blk 1 :: .c (f96_p 51) 0 :: .j (fun σ => G_l0 (cut f96_A.loops 0 σ)) :: .blk 0 :: []) .nx σ) :: .c (f96_p 51) 0 :: .j (fun σ => G_l0 (cut f96_A.loops 0 σ)) :: .blk 0 :: []
theorem f96_f_l0 (k : Nat) (R_l0 : f96_S) : f96_a k (f96_Q_l0 k R_l0) = f96_a k (f96_F_l0 k R_l0 (f96_C_l2 k R_l0 k)) := (Eq.trans ap_sq (ap_cons _ (Eq.trans ap_sq (Eq.trans (ap_bl 1) (Eq.trans (ap_j (Eq.trans ap_sq (ap_cons _ (Eq.trans (ap_bl 2) (Eq.trans (ap_j (Eq.trans (ap_lp (C := (f96_C_l2 k R_l0)) (fun _ _ => rfl)) (ap_cons _ (ap_cons _ (ap_cons _ (ap_cons _ (ap_cons _ (ap_cons _ rfl)))))))) (ap_cons _ (ap_cons _ (ap_cons _ (ap_cons _ (ap_cons _ rfl)))))))))) (ap_cons _ (ap_cons _ (ap_cons _ (ap_cons _ rfl)))))))))
noncomputable def f96_F_r4 (k : Nat) (G_l0 G_l2 : f96_S) : f96_L := .c (f96_p 3217) 2 :: .c (f96_p 1609) 2 :: .j (fun σ => G_l2 (cut f96_A.loops 2 σ)) :: .blk 2 :: .blk 1 :: .c (f96_p 51) 0 :: .j (fun σ => G_l0 (cut f96_A.loops 0 σ)) :: .blk 0 :: []
theorem f96_f_r4 (k : Nat) (R_l2 R_l0 : f96_S) : f96_a k (f96_Q_r4 k R_l2 R_l0) = f96_a k (f96_F_r4 k R_l0 R_l2) := (ap_cons _ (ap_cons _ (ap_cons _ (ap_cons _ (ap_cons _ (ap_cons _ (ap_cons _ (ap_cons _ rfl))))))))
noncomputable def f96_F_l2 (k : Nat) (G_l0 G_l2 G_r4 : f96_S) : f96_L := .c (f96_p 3216) 2 :: .j G_r4 :: f96_F_r4 k G_l0 G_l2
theorem f96_f_l2 (k : Nat) (R_l0 R_l2 : f96_S) : f96_a k (f96_Q_l2 k R_l0 R_l2) = f96_a k (f96_F_l2 k R_l0 R_l2 (f96_C_r4 k R_l2 R_l0)) := (Eq.trans ap_sq (Eq.trans ap_sq (ap_cons _ (Eq.trans (ap_pass (C := (f96_C_r4 k R_l2 R_l0)) (fun _ => rfl)) (ap_cons _ (f96_f_r4 k R_l2 R_l0))))))
def f96_entry_B (k : Nat) (g_l0 : f96_t_l0) (a : Td4) (a0 : Int) (a1 : Int) (a2 : Unit) : Option (((List (Int × Int)) × Unit) × (Unit)) := (g_l0 a a0 a1 (w64 (a0 + 1)))
def f96_l0_B (k : Nat) (g_l2 : f96_t_l2) (y0 : (List (Int × Int))) (x1 : Int) (x2 : Int) (x8 : Int) : Option (((List (Int × Int)) × Unit) × (Unit)) := (if x8 < x2 then (g_l2 y0 x1 x2 x8 x8) else some ((y0, ()), (())))
def f96_l2_B (k : Nat) (g_r4 : f96_t_r4) (y0 : (List (Int × Int))) (x1 : Int) (x2 : Int) (x8 : Int) (x9 : Int) : Option (((List (Int × Int)) × Unit) × (Unit)) := (if x1 < x9 then (if 0 ≤ x9 then (if x9 < (y0.length : Int) then (if 0 ≤ (w64 (x9 - 1)) then (if (w64 (x9 - 1)) < (y0.length : Int) then ((f48 k ((y0.getD ((x9).toNat) (0, 0)).1, (y0.getD ((x9).toNat) (0, 0)).2) ((y0.getD ((w64 (x9 - 1)).toNat) (0, 0)).1, (y0.getD ((w64 (x9 - 1)).toNat) (0, 0)).2)).bind fun r1 => (g_r4 y0 x1 x2 (decide (r1.1 < 0)) x8 x9)) else none) else none) else none) else none) else (g_r4 y0 x1 x2 false x8 x9))
def f96_r4_B (k : Nat) (g_l0 : f96_t_l0) (g_l2 : f96_t_l2) (y0 : (List (Int × Int))) (x1 : Int) (x2 : Int) (x34 : Bool) (x8 : Int) (x9 : Int) : Option (((List (Int × Int)) × Unit) × (Unit)) := (if x34 = true then (if 0 ≤ (w64 (x9 - 1)) then (if (w64 (x9 - 1)) < (y0.length : Int) then (if 0 ≤ x9 then (if x9 < (y0.length : Int) then (if 0 ≤ x9 then (if x9 < (y0.length : Int) then (if 0 ≤ (w64 (x9 - 1)) then (if (w64 (x9 - 1)) < ((y0.set ((x9).toNat) ((y0.getD ((w64 (x9 - 1)).toNat) (0, 0)).1, (y0.getD ((w64 (x9 - 1)).toNat) (0, 0)).2)).length : Int) then (g_l2 ((y0.set ((x9).toNat) ((y0.getD ((w64 (x9 - 1)).toNat) (0, 0)).1, (y0.getD ((w64 (x9 - 1)).toNat) (0, 0)).2)).set ((w64 (x9 - 1)).toNat) ((y0.getD ((x9).toNat) (0, 0)).1, (y0.getD ((x9).toNat) (0, 0)).2)) x1 x2 x8 (w64 (x9 - 1))) else none) else none) else none) else none) else none) else none) else none) else none) else (g_l0 y0 x1 x2 (w64 (x8 + 1))))
theorem f96_r4_P (k : Nat) (G_l0 G_l2 : f96_S) : f96_o_r4 (fun σ => f96_a k (f96_F_r4 k G_l0 G_l2) .nx σ) = f96_r4_B k (f96_o_l0 G_l0) (f96_o_l2 G_l2) := by kernel_rfl
def f96_r4 (k : Nat) (r_l2 : f96_t_l2) (r_l0 : f96_t_l0) : f96_t_r4 := f96_r4_B k r_l0 r_l2
theorem f96_r4_E (k : Nat) (R_l2 R_l0 : f96_S) : f96_o_r4 (f96_C_r4 k R_l2 R_l0) = f96_r4 k (f96_o_l2 R_l2) (f96_o_l0 R_l0) :=
  Eq.trans (congrArg f96_o_r4 (ap_fn (f96_f_r4 k R_l2 R_l0))) ((f96_r4_P k R_l0 R_l2).trans (by rfl))
theorem f96_l2_P (k : Nat) (G_l0 G_l2 G_r4 : f96_S) : f96_o_l2 (fun σ => f96_a k (f96_F_l2 k G_l0 G_l2 G_r4) .nx σ) = f96_l2_B k (f96_o_r4 G_r4) := by kernel_rfl
def f96_l2 (k : Nat) (r_l0 : f96_t_l0) : Nat → f96_t_l2
  | 0 => fun _ _ _ _ _ => none
  | n + 1 => f96_l2_B k (f96_r4 k (f96_l2 k r_l0 n) r_l0)
theorem f96_l2_E (k : Nat) (R_l0 : f96_S) : ∀ n, f96_o_l2 (f96_C_l2 k R_l0 n) = f96_l2 k (f96_o_l0 R_l0) n
  | 0 => rfl
  | n + 1 =>
    Eq.trans (congrArg f96_o_l2 (Eq.trans (b := fun σ => f96_a k (f96_Q_l2 k R_l0 (f96_C_l2 k R_l0 n)) .nx σ) (by kernel_rfl) (ap_fn (f96_f_l2 k R_l0 (f96_C_l2 k R_l0 n))))) ((f96_l2_P k R_l0 (f96_C_l2 k R_l0 n) (f96_C_r4 k (f96_C_l2 k R_l0 n) R_l0)).trans (by rw [f96_r4_E k (f96_C_l2 k R_l0 n) R_l0, f96_l2_E k R_l0 n] <;> rfl))
theorem f96_l0_P (k : Nat) (G_l0 G_l2 : f96_S) : f96_o_l0 (fun σ => f96_a k (f96_F_l0 k G_l0 G_l2) .nx σ) = f96_l0_B k (f96_o_l2 G_l2) := by kernel_rfl
def f96_l0 (k : Nat) : Nat → f96_t_l0
  | 0 => fun _ _ _ _ => none
  | n + 1 => f96_l0_B k (f96_l2 k (f96_l0 k n) k)
theorem f96_l0_E (k : Nat) : ∀ n, f96_o_l0 (f96_C_l0 k n) = f96_l0 k n
  | 0 => rfl
  | n + 1 =>
    Eq.trans (congrArg f96_o_l0 (Eq.trans (b := fun σ => f96_a k (f96_Q_l0 k (f96_C_l0 k n)) .nx σ) (by kernel_rfl) (ap_fn (f96_f_l0 k (f96_C_l0 k n))))) ((f96_l0_P k (f96_C_l0 k n) (f96_C_l2 k (f96_C_l0 k n) k)).trans (by rw [f96_l2_E k (f96_C_l0 k n) k, f96_l0_E k n] <;> rfl))
theorem f96_entry_P (k : Nat) (G_l0 : f96_S) (x : LOD f96_ls) (xs : DL f96_sig) : f96_a k (.c (f96_p 2) 0 :: .j (fun σ => f96_a k (.j (fun σ => G_l0 (cut f96_A.loops 0 σ)) :: .blk 0 :: []) .nx σ) :: []) .nx (σ0B 53 161 0 f96_ls x f96_sig xs) = f96_entry_B k (f96_o_l0 G_l0) x.1 xs.1 xs.2.1 xs.2.2.1 := by kernel_rfl
def f96 (k : Nat) (a : Td4) (a0 : Int) (a1 : Int) (a2 : Unit) : Option (((List (Int × Int)) × Unit) × (Unit)) := f96_entry_B k (f96_l0 k k) a a0 a1 a2
theorem f96_fe (k : Nat) : f96_a k [.c (f96_p 1) 0] = f96_a k (.c (f96_p 2) 0 :: .j (fun σ => f96_a k (.j (fun σ => (f96_C_l0 k k) (cut f96_A.loops 0 σ)) :: .blk 0 :: []) .nx σ) :: []) := (Eq.trans ap_sq (ap_cons _ (Eq.trans (ap_bl 0) (Eq.trans (ap_j (Eq.trans (ap_lp (C := (f96_C_l0 k)) (fun _ _ => rfl)) (ap_cons _ (ap_cons _ rfl)))) (ap_cons _ rfl)))))
theorem f96_eq (k : Nat) (x : LOD f96_ls) (xs : DL f96_sig) : den T f96_Y (f96_E k) f96_A k f96_c 0 (σ0B 53 161 0 f96_ls x f96_sig xs) (KfinB T f96_ls f96_rs f96_ts) = f96 k x.1 xs.1 xs.2.1 xs.2.2.1 :=
  Eq.trans (Eq.trans den_sb (ap_at (f96_fe k) _)) ((f96_entry_P k (f96_C_l0 k k) x xs).trans (by rw [f96_l0_E k k] <;> rfl))
noncomputable def f96_con (k : Nat) : BCon := ⟨0, f96_ls, f96_sig, f96_rs, fun x xs => f96 k x.1 xs.1 xs.2.1 xs.2.2.1⟩
theorem f96_ok (k : Nat) : BoxOK Try.prog 96 0 f96_ls f96_sig f96_rs (fun x xs => f96 k x.1 xs.1 xs.2.1 xs.2.2.1) :=
  (box_of_den (k := k) (A := f96_A) (T := T) (Y := f96_Y) (E := f96_E k) (M := 161) (ts := f96_ts) T_ok ⟨f48_ok k, trivial⟩ ⟨f48_ent, trivial⟩ mixed (f := 96) (fn := Try.f96) (c := f96_c) (by kernel_rfl) (by kernel_rfl) (by kernel_rfl) (by decide) (by kernel_rfl) (by decide)).congr fun x xs => (f96_eq k x xs).symm
theorem f96_ent : Ent Try.prog 96 := fun args w => by kernel_rfl
/-! ### slices.order2CmpFunc[terrier/api.Ban]: function 125 -/
noncomputable def f125_c : Code := Try.f125.body.getD .skip
noncomputable abbrev f125_p (n : Nat) : Code := sb f125_c n
abbrev f125_sig : List PT := [(false, Tq3), (false, (.int .i64)), (false, (.int .i64)), (false, (.fn 48))]
abbrev f125_rs : List RT := [.d false (.int .i64), .d false (.int .i64)]
abbrev f125_ts : List RV := [.tmp 10, .tmp 11]
abbrev f125_ls : List LO := [.box [.d (.int .i64)]]
abbrev f125_S := St → Option (LOD f125_ls × RDL f125_rs)
abbrev f125_L := List (Fr (LOD f125_ls × RDL f125_rs))
def f125_Y : Tys := []
noncomputable def f125_E (k : Nat) : Env := [(48, .c (f48_con k))]
def f125_A : Ann := {}
noncomputable abbrev f125_a (k : Nat) (F : f125_L) : Kont (LOD f125_ls × RDL f125_rs) := ap T f125_Y (f125_E k) f125_A k (KfinB T f125_ls f125_rs f125_ts) F
def f125_entry_B (k : Nat) (a : Int) (a0 : Td4) (a1 : Int) (a2 : Int) (a3 : Unit) : Option (((Int × Unit) × Unit) × (Int × Int × Unit)) := (if 0 ≤ a2 then (if a2 < (a0.length : Int) then (if 0 ≤ a1 then (if a1 < (a0.length : Int) then ((f48 k ((a0.getD (a2).toNat (0, 0)).1, (a0.getD (a2).toNat (0, 0)).2) ((a0.getD (a1).toNat (0, 0)).1, (a0.getD (a1).toNat (0, 0)).2)).bind fun r1 => (if r1.1 < 0 then some (((w64 (a + 1), ()), ()), (a2, a1, ())) else some (((a, ()), ()), (a1, a2, ())))) else none) else none) else none) else none)
theorem f125_entry_P (k : Nat) (x : LOD f125_ls) (xs : DL f125_sig) : f125_a k (.c (f125_p 1) 0 :: []) .nx (σ0B 32 97 3 f125_ls x f125_sig xs) = f125_entry_B k x.1.1 xs.1 xs.2.1 xs.2.2.1 xs.2.2.2.1 := by kernel_rfl
def f125 (k : Nat) (a : Int) (a0 : Td4) (a1 : Int) (a2 : Int) (a3 : Unit) : Option (((Int × Unit) × Unit) × (Int × Int × Unit)) := f125_entry_B k a a0 a1 a2 a3
theorem f125_eq (k : Nat) (x : LOD f125_ls) (xs : DL f125_sig) : den T f125_Y (f125_E k) f125_A k f125_c 0 (σ0B 32 97 3 f125_ls x f125_sig xs) (KfinB T f125_ls f125_rs f125_ts) = f125 k x.1.1 xs.1 xs.2.1 xs.2.2.1 xs.2.2.2.1 :=
  Eq.trans (Eq.trans den_sb (ap_at (ap_cons _ rfl) _)) ((f125_entry_P k x xs).trans (by rfl))
noncomputable def f125_con (k : Nat) : BCon := ⟨3, f125_ls, f125_sig, f125_rs, fun x xs => f125 k x.1.1 xs.1 xs.2.1 xs.2.2.1 xs.2.2.2.1⟩
theorem f125_ok (k : Nat) : BoxOK Try.prog 125 3 f125_ls f125_sig f125_rs (fun x xs => f125 k x.1.1 xs.1 xs.2.1 xs.2.2.1 xs.2.2.2.1) :=
  (box_of_den (k := k) (A := f125_A) (T := T) (Y := f125_Y) (E := f125_E k) (M := 97) (ts := f125_ts) T_ok ⟨f48_ok k, trivial⟩ ⟨f48_ent, trivial⟩ mixed (f := 125) (fn := Try.f125) (c := f125_c) (by kernel_rfl) (by kernel_rfl) (by kernel_rfl) (by decide) (by kernel_rfl) (by decide)).congr fun x xs => (f125_eq k x xs).symm
theorem f125_ent : Ent Try.prog 125 := fun args w => by kernel_rfl
/-! ### slices.medianCmpFunc[terrier/api.Ban]: function 121 -/
noncomputable def f121_c : Code := Try.f121.body.getD .skip
noncomputable abbrev f121_p (n : Nat) : Code := sb f121_c n
abbrev f121_sig : List PT := [(false, Tq3), (false, (.int .i64)), (false, (.int .i64)), (false, (.int .i64)), (false, (.fn 48))]
abbrev f121_rs : List RT := [.d false (.int .i64)]
abbrev f121_ts : List RV := [.tmp 12]
abbrev f121_ls : List LO := [.box [.d (.int .i64)]]
abbrev f121_S := St → Option (LOD f121_ls × RDL f121_rs)
abbrev f121_L := List (Fr (LOD f121_ls × RDL f121_rs))
def f121_Y : Tys := []
noncomputable def f121_E (k : Nat) : Env := [(125, .b (f125_con k))]
def f121_A : Ann := {}
noncomputable abbrev f121_a (k : Nat) (F : f121_L) : Kont (LOD f121_ls × RDL f121_rs) := ap T f121_Y (f121_E k) f121_A k (KfinB T f121_ls f121_rs f121_ts) F
def f121_entry_B (k : Nat) (a : Int) (a0 : Td4) (a1 : Int) (a2 : Int) (a3 : Int) (a4 : Unit) : Option (((Int × Unit) × Unit) × (Int × Unit)) := ((f125 k a a0 a1 a2 ()).bind fun r1 => ((f125 k r1.1.1.1 a0 r1.2.2.1 a3 ()).bind fun r2 => ((f125 k r2.1.1.1 a0 r1.2.1 r2.2.1 ()).bind fun r3 => some (((r3.1.1.1, ()), ()), (r3.2.2.1, ())))))
theorem f121_entry_P (k : Nat) (x : LOD f121_ls) (xs : DL f121_sig) : f121_a k (.c (f121_p 1) 0 :: []) .nx (σ0B 41 129 4 f121_ls x f121_sig xs) = f121_entry_B k x.1.1 xs.1 xs.2.1 xs.2.2.1 xs.2.2.2.1 xs.2.2.2.2.1 := by kernel_rfl
def f121 (k : Nat) (a : Int) (a0 : Td4) (a1 : Int) (a2 : Int) (a3 : Int) (a4 : Unit) : Option (((Int × Unit) × Unit) × (Int × Unit)) := f121_entry_B k a a0 a1 a2 a3 a4
theorem f121_eq (k : Nat) (x : LOD f121_ls) (xs : DL f121_sig) : den T f121_Y (f121_E k) f121_A k f121_c 0 (σ0B 41 129 4 f121_ls x f121_sig xs) (KfinB T f121_ls f121_rs f121_ts) = f121 k x.1.1 xs.1 xs.2.1 xs.2.2.1 xs.2.2.2.1 xs.2.2.2.2.1 :=
  Eq.trans (Eq.trans den_sb (ap_at (ap_cons _ rfl) _)) ((f121_entry_P k x xs).trans (by rfl))
noncomputable def f121_con (k : Nat) : BCon := ⟨4, f121_ls, f121_sig, f121_rs, fun x xs => f121 k x.1.1 xs.1 xs.2.1 xs.2.2.1 xs.2.2.2.1 xs.2.2.2.2.1⟩
theorem f121_ok (k : Nat) : BoxOK Try.prog 121 4 f121_ls f121_sig f121_rs (fun x xs => f121 k x.1.1 xs.1 xs.2.1 xs.2.2.1 xs.2.2.2.1 xs.2.2.2.2.1) :=
  (box_of_den (k := k) (A := f121_A) (T := T) (Y := f121_Y) (E := f121_E k) (M := 129) (ts := f121_ts) T_ok ⟨f125_ok k, trivial⟩ ⟨f125_ent, trivial⟩ mixed (f := 121) (fn := Try.f121) (c := f121_c) (by kernel_rfl) (by kernel_rfl) (by kernel_rfl) (by decide) (by kernel_rfl) (by decide)).congr fun x xs => (f121_eq k x xs).symm
theorem f121_ent : Ent Try.prog 121 := fun args w => by kernel_rfl
/-! ### slices.medianAdjacentCmpFunc[terrier/api.Ban]: function 120 -/
noncomputable def f120_c : Code := Try.f120.body.getD .skip
noncomputable abbrev f120_p (n : Nat) : Code := sb f120_c n
abbrev f120_sig : List PT := [(false, Tq3), (false, (.int .i64)), (false, (.fn 48))]
abbrev f120_rs : List RT := [.d false (.int .i64)]
abbrev f120_ts : List RV := [.tmp 8]
abbrev f120_ls : List LO := [.box [.d (.int .i64)]]
abbrev f120_S := St → Option (LOD f120_ls × RDL f120_rs)
abbrev f120_L := List (Fr (LOD f120_ls × RDL f120_rs))
def f120_Y : Tys := []
noncomputable def f120_E (k : Nat) : Env := [(121, .b (f121_con k))]
def f120_A : Ann := {}
noncomputable abbrev f120_a (k : Nat) (F : f120_L) : Kont (LOD f120_ls × RDL f120_rs) := ap T f120_Y (f120_E k) f120_A k (KfinB T f120_ls f120_rs f120_ts) F
def f120_entry_B (k : Nat) (a : Int) (a0 : Td4) (a1 : Int) (a2 : Unit) : Option (((Int × Unit) × Unit) × (Int × Unit)) := ((f121 k a a0 (w64 (a1 - 1)) a1 (w64 (a1 + 1)) ()).bind fun r1 => some (((r1.1.1.1, ()), ()), (r1.2.1, ())))
theorem f120_entry_P (k : Nat) (x : LOD f120_ls) (xs : DL f120_sig) : f120_a k (.c (f120_p 1) 0 :: []) .nx (σ0B 18 65 2 f120_ls x f120_sig xs) = f120_entry_B k x.1.1 xs.1 xs.2.1 xs.2.2.1 := by kernel_rfl
def f120 (k : Nat) (a : Int) (a0 : Td4) (a1 : Int) (a2 : Unit) : Option (((Int × Unit) × Unit) × (Int × Unit)) := f120_entry_B k a a0 a1 a2
theorem f120_eq (k : Nat) (x : LOD f120_ls) (xs : DL f120_sig) : den T f120_Y (f120_E k) f120_A k f120_c 0 (σ0B 18 65 2 f120_ls x f120_sig xs) (KfinB T f120_ls f120_rs f120_ts) = f120 k x.1.1 xs.1 xs.2.1 xs.2.2.1 :=
  Eq.trans (Eq.trans den_sb (ap_at (ap_cons _ rfl) _)) ((f120_entry_P k x xs).trans (by rfl))
noncomputable def f120_con (k : Nat) : BCon := ⟨2, f120_ls, f120_sig, f120_rs, fun x xs => f120 k x.1.1 xs.1 xs.2.1 xs.2.2.1⟩
theorem f120_ok (k : Nat) : BoxOK Try.prog 120 2 f120_ls f120_sig f120_rs (fun x xs => f120 k x.1.1 xs.1 xs.2.1 xs.2.2.1) :=
  (box_of_den (k := k) (A := f120_A) (T := T) (Y := f120_Y) (E := f120_E k) (M := 65) (ts := f120_ts) T_ok ⟨f121_ok k, trivial⟩ ⟨f121_ent, trivial⟩ mixed (f := 120) (fn := Try.f120) (c := f120_c) (by kernel_rfl) (by kernel_rfl) (by kernel_rfl) (by decide) (by kernel_rfl) (by decide)).congr fun x xs => (f120_eq k x xs).symm
theorem f120_ent : Ent Try.prog 120 := fun args w => by kernel_rfl
/-! ### slices.choosePivotCmpFunc[terrier/api.Ban]: function 99 -/
noncomputable def f99_c : Code := Try.f99.body.getD .skip
noncomputable abbrev f99_p (n : Nat) : Code := sb f99_c n
abbrev f99_sig : List PT := [(false, Tq3), (false, (.int .i64)), (false, (.int .i64)), (false, (.fn 48))]
abbrev f99_rs : List RT := [.d false (.int .i64), .d false (.int .i64)]
abbrev f99_ts : List RV := [.tmp 8, .tmp 9]
abbrev f99_S := St → Option (RDL f99_rs)
abbrev f99_L := List (Fr (RDL f99_rs))
def f99_Y : Tys := []
noncomputable def f99_E (k : Nat) : Env := [(120, .b (f120_con k)), (121, .b (f121_con k))]
def f99_A : Ann := { conds := [(8, { slots := [(0, .val false Tq2), (3, .id), (11, .id), (12, .id), (13, .id), (14, .id)], keys := [(11, [])] }), (7, { slots := [(11, .id), (13, .id)], keys := [(11, [])] })] }
noncomputable abbrev f99_a (k : Nat) (F : f99_L) : Kont (RDL f99_rs) := ap T f99_Y (f99_E k) f99_A k (Kfin T f99_rs f99_ts) F
def f99_s_c8 (y11_0 : Int) (x0 : (List (Int × Int))) (x12 : Int) (x13 : Int) (x14 : Int) : St := mkS 63 192 [(0, aV Tq2 x0), (3, .cp (.one (.fn 48 []))), (11, aP 11), (12, aI x12), (13, aI x13), (14, aI x14)] [(11, .box [cI y11_0])]
abbrev f99_t_c8 := Int → (List (Int × Int)) → Int → Int → Int → Option (Int × Int × Unit)
abbrev f99_o_c8 (R : f99_S) : f99_t_c8 := (fun y11_0 x0 x12 x13 x14 => R (f99_s_c8 y11_0 x0 x12 x13 x14))
noncomputable def f99_Q_c8 (k : Nat) : f99_L := [.c (f99_p 2037) 0, .cond 7, .c (f99_p 255) 0]
noncomputable def f99_C_c8 (k : Nat) : f99_S := fun σ => f99_a k (f99_Q_c8 k) .nx σ
def f99_s_c7 (y11_0 : Int) (x13 : Int) : St := mkS 63 192 [(11, aP 11), (13, aI x13)] [(11, .box [cI y11_0])]
abbrev f99_t_c7 := Int → Int → Option (Int × Int × Unit)
abbrev f99_o_c7 (R : f99_S) : f99_t_c7 := (fun y11_0 x13 => R (f99_s_c7 y11_0 x13))
noncomputable def f99_Q_c7 (k : Nat) : f99_L := [.c (f99_p 255) 0]
noncomputable def f99_C_c7 (k : Nat) : f99_S := fun σ => f99_a k (f99_Q_c7 k) .nx σ
noncomputable def f99_F_c7 (k : Nat) : f99_L := .c (f99_p 255) 0 :: []
theorem f99_f_c7 (k : Nat) : f99_a k (f99_Q_c7 k) = f99_a k (f99_F_c7 k) := (ap_cons _ rfl)
noncomputable def f99_F_c8 (k : Nat) (G_c7 : f99_S) : f99_L := .c (f99_p 2037) 0 :: .j (fun σ => G_c7 (cut f99_A.conds 7 σ)) :: f99_F_c7 k
theorem f99_f_c8 (k : Nat) : f99_a k (f99_Q_c8 k) = f99_a k (f99_F_c8 k (f99_C_c7 k)) := (ap_cons _ (Eq.trans (ap_condj (C := (f99_C_c7 k)) (fun _ => rfl)) (ap_cons _ (f99_f_c7 k))))
def f99_entry_B (k : Nat) (g_c8 : f99_t_c8) (g_c7 : f99_t_c7) (a0 : Td4) (a1 : Int) (a2 : Int) (a3 : Unit) : Option (Int × Int × Unit) := (if 8 ≤ (w64 (a2 - a1)) then (if 50 ≤ (w64 (a2 - a1)) then ((f120 k 0 a0 (w64 (a1 + (w64 ((w64 ((w64 (a2 - a1)).tdiv 4)) * 1)))) ()).bind fun r1 => ((f120 k r1.1.1.1 a0 (w64 (a1 + (w64 ((w64 ((w64 (a2 - a1)).tdiv 4)) * 2)))) ()).bind fun r2 => ((f120 k r2.1.1.1 a0 (w64 (a1 + (w64 ((w64 ((w64 (a2 - a1)).tdiv 4)) * 3)))) ()).bind fun r3 => (g_c8 r3.1.1.1 a0 r1.2.1 r2.2.1 r3.2.1)))) else (g_c8 0 a0 (w64 (a1 + (w64 ((w64 ((w64 (a2 - a1)).tdiv 4)) * 1)))) (w64 (a1 + (w64 ((w64 ((w64 (a2 - a1)).tdiv 4)) * 2)))) (w64 (a1 + (w64 ((w64 ((w64 (a2 - a1)).tdiv 4)) * 3)))))) else (g_c7 0 (w64 (a1 + (w64 ((w64 ((w64 (a2 - a1)).tdiv 4)) * 2))))))
def f99_c8_B (k : Nat) (g_c7 : f99_t_c7) (y11_0 : Int) (x0 : (List (Int × Int))) (x12 : Int) (x13 : Int) (x14 : Int) : Option (Int × Int × Unit) := ((f121 k y11_0 x0 x12 x13 x14 ()).bind fun r1 => (g_c7 r1.1.1.1 r1.2.1))
def f99_c7_B (k : Nat) (y11_0 : Int) (x13 : Int) : Option (Int × Int × Unit) := (if y11_0 = 0 then some (x13, 1, ()) else (if y11_0 = 12 then some (x13, 2, ()) else some (x13, 0, ())))
theorem f99_c7_P (k : Nat) : f99_o_c7 (fun σ => f99_a k (f99_F_c7 k) .nx σ) = f99_c7_B k := by kernel_rfl
def f99_c7 (k : Nat) : f99_t_c7 := f99_c7_B k
theorem f99_c7_E (k : Nat) : f99_o_c7 (f99_C_c7 k) = f99_c7 k :=
  Eq.trans (congrArg f99_o_c7 (ap_fn (f99_f_c7 k))) ((f99_c7_P k).trans (by rfl))
theorem f99_c8_P (k : Nat) (G_c7 : f99_S) : f99_o_c8 (fun σ => f99_a k (f99_F_c8 k G_c7) .nx σ) = f99_c8_B k (f99_o_c7 G_c7) := by kernel_rfl
def f99_c8 (k : Nat) : f99_t_c8 := f99_c8_B k (f99_c7 k)
theorem f99_c8_E (k : Nat) : f99_o_c8 (f99_C_c8 k) = f99_c8 k :=
  Eq.trans (congrArg f99_o_c8 (ap_fn (f99_f_c8 k))) ((f99_c8_P k (f99_C_c7 k)).trans (by rw [f99_c7_E k] <;> rfl))
theorem f99_entry_P (k : Nat) (G_c8 G_c7 : f99_S) (xs : DL f99_sig) : f99_a k (.c (f99_p 2) 0 :: .c (f99_p 6) 0 :: .c (f99_p 14) 0 :: .c (f99_p 30) 0 :: .c (f99_p 62) 0 :: .c (f99_p 126) 0 :: .c (f99_p 508) 0 :: .i (.tmp 34) (fun σ => f99_a k (.c (f99_p 4072) 0 :: .c (f99_p 4073) 0 :: .j G_c8 :: f99_F_c8 k G_c7) .nx σ) (fun σ => f99_a k (.c (f99_p 1019) 0 :: .j (fun σ => G_c7 (cut f99_A.conds 7 σ)) :: f99_F_c7 k) .nx σ) :: f99_F_c7 k) .nx (σ0 63 192 f99_sig xs) = f99_entry_B k (f99_o_c8 G_c8) (f99_o_c7 G_c7) xs.1 xs.2.1 xs.2.2.1 xs.2.2.2.1 := by kernel_rfl
def f99 (k : Nat) (a0 : Td4) (a1 : Int) (a2 : Int) (a3 : Unit) : Option (Int × Int × Unit) := f99_entry_B k (f99_c8 k) (f99_c7 k) a0 a1 a2 a3
theorem f99_fe (k : Nat) : f99_a k [.c (f99_p 1) 0] = f99_a k (.c (f99_p 2) 0 :: .c (f99_p 6) 0 :: .c (f99_p 14) 0 :: .c (f99_p 30) 0 :: .c (f99_p 62) 0 :: .c (f99_p 126) 0 :: .c (f99_p 508) 0 :: .i (.tmp 34) (fun σ => f99_a k (.c (f99_p 4072) 0 :: .c (f99_p 4073) 0 :: .j (f99_C_c8 k) :: f99_F_c8 k (f99_C_c7 k)) .nx σ) (fun σ => f99_a k (.c (f99_p 1019) 0 :: .j (fun σ => (f99_C_c7 k) (cut f99_A.conds 7 σ)) :: f99_F_c7 k) .nx σ) :: f99_F_c7 k) := (Eq.trans ap_sq (ap_cons _ (Eq.trans ap_sq (ap_cons _ (Eq.trans ap_sq (ap_cons _ (Eq.trans ap_sq (ap_cons _ (Eq.trans ap_sq (ap_cons _ (Eq.trans ap_sq (ap_cons _ (Eq.trans ap_sq (Eq.trans ap_sq (ap_cons _ (Eq.trans (ap_cn (.tmp 34) 7) (Eq.trans (ap_i (Eq.trans ap_sq (Eq.trans ap_sq (ap_cons _ (ap_cons _ (Eq.trans (ap_pass (C := (f99_C_c8 k)) (fun _ => rfl)) (ap_cons _ (f99_f_c8 k))))))) (ap_cons _ (Eq.trans (ap_condj (C := (f99_C_c7 k)) (fun _ => rfl)) (ap_cons _ (f99_f_c7 k))))) (ap_cons _ (f99_f_c7 k)))))))))))))))))))
theorem f99_eq (k : Nat) (xs : DL f99_sig) : den T f99_Y (f99_E k) f99_A k f99_c 0 (σ0 63 192 f99_sig xs) (Kfin T f99_rs f99_ts) = f99 k xs.1 xs.2.1 xs.2.2.1 xs.2.2.2.1 :=
  Eq.trans (Eq.trans den_sb (ap_at (f99_fe k) _)) ((f99_entry_P k (f99_C_c8 k) (f99_C_c7 k) xs).trans (by rw [f99_c8_E k, f99_c7_E k] <;> rfl))
noncomputable def f99_con (k : Nat) : Con := ⟨f99_sig, f99_rs, fun xs => f99 k xs.1 xs.2.1 xs.2.2.1 xs.2.2.2.1⟩
theorem f99_ok (k : Nat) : PureOK Try.prog 99 f99_sig f99_rs (fun xs => f99 k xs.1 xs.2.1 xs.2.2.1 xs.2.2.2.1) :=
  (pure_of_den (k := k) (A := f99_A) (T := T) (Y := f99_Y) (E := f99_E k) (M := 192) (ts := f99_ts) T_ok ⟨f120_ok k, f121_ok k, trivial⟩ ⟨f120_ent, f121_ent, trivial⟩ mixed (f := 99) (fn := Try.f99) (c := f99_c) (by kernel_rfl) (by kernel_rfl) (by kernel_rfl) (by decide) (by kernel_rfl)).congr fun xs => (f99_eq k xs).symm
theorem f99_ent : Ent Try.prog 99 := fun args w => by kernel_rfl
/-! ### slices.pdqsortCmpFunc[terrier/api.Ban]: function 71 -/
noncomputable def f71_c : Code := Try.f71.body.getD .skip
noncomputable abbrev f71_p (n : Nat) : Code := sb f71_c n
abbrev f71_sig : List PT := [(false, (.int .i64)), (false, (.int .i64)), (false, (.int .i64)), (false, (.fn 48))]
abbrev f71_rs : List RT := []
abbrev f71_ts : List RV := []
abbrev f71_ls : List LO := [.row Tq2]
abbrev f71_S := St → Option (LOD f71_ls × RDL f71_rs)
abbrev f71_L := List (Fr (LOD f71_ls × RDL f71_rs))
def f71_Y : Tys := []
noncomputable def f71_E (k : Nat) : Env := [(48, .c (f48_con k)), (96, .b (f96_con k)), (99, .c (f99_con k))]
def f71_A : Ann := { loops := [(0, { slots := [(0, .id), (1, .id), (2, .id), (3, .id), (4, .id), (10, .id), (11, .id)], keys := [(0, [])] })], conds := [(8, { slots := [(0, .id), (1, .id), (2, .id), (3, .id), (4, .id), (10, .id), (11, .id), (12, .id)], keys := [(0, [])] }), (12, { slots := [(0, .id), (1, .id), (2, .id), (3, .id), (4, .id), (10, .id), (11, .id), (12, .id), (13, .id), (14, .id)], keys := [(0, [])] }), (16, { slots := [(0, .id), (1, .id), (2, .id), (3, .id), (4, .id), (10, .id), (11, .id), (12, .id), (13, .id)], keys := [(0, [])] })], regs := [(15, { slots := [(0, .id), (1, .id), (2, .id), (3, .id), (4, .id), (10, .id), (11, .id), (12, .id), (13, .id), (75, .bool)], keys := [(0, [])] }), (17, { slots := [(0, .id), (1, .id), (2, .id), (3, .id), (4, .id), (10, .id), (11, .id), (12, .id), (13, .id), (97, .bool)], keys := [(0, [])] })] }
noncomputable abbrev f71_a (k : Nat) (F : f71_L) : Kont (LOD f71_ls × RDL f71_rs) := ap T f71_Y (f71_E k) f71_A k (KfinB T f71_ls f71_rs f71_ts) F
def f71_s_l0 (y0 : (List (Int × Int))) (x1 : Int) (x2 : Int) (x3 : Int) : St := mkS 148 449 [(0, aO 0), (1, aI x1), (2, aI x2), (3, aI x3), (4, .cp (.one (.fn 48 []))), (10, .cp (.one (.lit true))), (11, .cp (.one (.lit true)))] [(0, .vec Tq2 y0)]
abbrev f71_t_l0 := (List (Int × Int)) → Int → Int → Int → Option (((List (Int × Int)) × Unit) × (Unit))
abbrev f71_o_l0 (R : f71_S) : f71_t_l0 := (fun y0 x1 x2 x3 => R (f71_s_l0 y0 x1 x2 x3))
noncomputable def f71_Q_l0 (k : Nat) (R_l0 : f71_S) : f71_L := [.c (f71_p 28) 0, .j (fun σ => R_l0 (cut f71_A.loops 0 σ)), .blk 0]
noncomputable def f71_C_l0 (k : Nat) (n : Nat) (σ : St) : Option (LOD f71_ls × RDL f71_rs) := loopK (fun σ K => den T f71_Y (f71_E k) f71_A k (f71_p 28) 0 σ K) (cut f71_A.loops 0) (f71_a k [.blk 0]) n σ
def f71_s_c8 (y0 : (List (Int × Int))) (x1 : Int) (x12 : Int) (x2 : Int) (x3 : Int) : St := mkS 148 449 [(0, aO 0), (1, aI x1), (2, aI x2), (3, aI x3), (4, .cp (.one (.fn 48 []))), (10, .cp (.one (.lit true))), (11, .cp (.one (.lit true))), (12, aI x12)] [(0, .vec Tq2 y0)]
abbrev f71_t_c8 := (List (Int × Int)) → Int → Int → Int → Int → Option (((List (Int × Int)) × Unit) × (Unit))
abbrev f71_o_c8 (R : f71_S) : f71_t_c8 := (fun y0 x1 x12 x2 x3 => R (f71_s_c8 y0 x1 x12 x2 x3))
noncomputable def f71_Q_c8 (k : Nat) (R_l0 : f71_S) : f71_L := [.c (f71_p 911) 1, .blk 1, .j (fun σ => R_l0 (cut f71_A.loops 0 σ)), .blk 0]
noncomputable def f71_C_c8 (k : Nat) (R_l0 : f71_S) : f71_S := fun σ => f71_a k (f71_Q_c8 k R_l0) .nx σ
def f71_s_c12 (y0 : (List (Int × Int))) (x1 : Int) (x12 : Int) (x13 : Int) (x14 : Int) (x2 : Int) (x3 : Int) : St := mkS 148 449 [(0, aO 0), (1, aI x1), (2, aI x2), (3, aI x3), (4, .cp (.one (.fn 48 []))), (10, .cp (.one (.lit true))), (11, .cp (.one (.lit true))), (12, aI x12), (13, aI x13), (14, aI x14)] [(0, .vec Tq2 y0)]
abbrev f71_t_c12 := (List (Int × Int)) → Int → Int → Int → Int → Int → Int → Option (((List (Int × Int)) × Unit) × (Unit))
abbrev f71_o_c12 (R : f71_S) : f71_t_c12 := (fun y0 x1 x12 x13 x14 x2 x3 => R (f71_s_c12 y0 x1 x12 x13 x14 x2 x3))
noncomputable def f71_Q_c12 (k : Nat) (R_l0 : f71_S) : f71_L := [.c (f71_p 3647) 1, .blk 1, .j (fun σ => R_l0 (cut f71_A.loops 0 σ)), .blk 0]
noncomputable def f71_C_c12 (k : Nat) (R_l0 : f71_S) : f71_S := fun σ => f71_a k (f71_Q_c12 k R_l0) .nx σ
def f71_s_r15 (y0 : (List (Int × Int))) (x1 : Int) (x12 : Int) (x13 : Int) (x2 : Int) (x3 : Int) (x75 : Bool) : St := mkS 148 449 [(0, aO 0), (1, aI x1), (2, aI x2), (3, aI x3), (4, .cp (.one (.fn 48 []))), (10, .cp (.one (.lit true))), (11, .cp (.one (.lit true))), (12, aI x12), (13, aI x13), (75, aB x75)] [(0, .vec Tq2 y0)]
abbrev f71_t_r15 := (List (Int × Int)) → Int → Int → Int → Int → Int → Bool → Option (((List (Int × Int)) × Unit) × (Unit))
abbrev f71_o_r15 (R : f71_S) : f71_t_r15 := (fun y0 x1 x12 x13 x2 x3 x75 => R (f71_s_r15 y0 x1 x12 x13 x2 x3 x75))
noncomputable def f71_Q_r15 (k : Nat) (R_l0 : f71_S) : f71_L := [.c (f71_p 14589) 1, .c (f71_p 7295) 1, .blk 1, .j (fun σ => R_l0 (cut f71_A.loops 0 σ)), .blk 0]
noncomputable def f71_C_r15 (k : Nat) (R_l0 : f71_S) : f71_S := fun σ => f71_a k (f71_Q_r15 k R_l0) .nx σ
def f71_s_c16 (y0 : (List (Int × Int))) (x1 : Int) (x12 : Int) (x13 : Int) (x2 : Int) (x3 : Int) : St := mkS 148 449 [(0, aO 0), (1, aI x1), (2, aI x2), (3, aI x3), (4, .cp (.one (.fn 48 []))), (10, .cp (.one (.lit true))), (11, .cp (.one (.lit true))), (12, aI x12), (13, aI x13)] [(0, .vec Tq2 y0)]
abbrev f71_t_c16 := (List (Int × Int)) → Int → Int → Int → Int → Int → Option (((List (Int × Int)) × Unit) × (Unit))
abbrev f71_o_c16 (R : f71_S) : f71_t_c16 := (fun y0 x1 x12 x13 x2 x3 => R (f71_s_c16 y0 x1 x12 x13 x2 x3))
noncomputable def f71_Q_c16 (k : Nat) (R_l0 : f71_S) : f71_L := [.c (f71_p 7295) 1, .blk 1, .j (fun σ => R_l0 (cut f71_A.loops 0 σ)), .blk 0]
noncomputable def f71_C_c16 (k : Nat) (R_l0 : f71_S) : f71_S := fun σ => f71_a k (f71_Q_c16 k R_l0) .nx σ
def f71_s_r17 (y0 : (List (Int × Int))) (x1 : Int) (x12 : Int) (x13 : Int) (x2 : Int) (x3 : Int) (x97 : Bool) : St := mkS 148 449 [(0, aO 0), (1, aI x1), (2, aI x2), (3, aI x3), (4, .cp (.one (.fn 48 []))), (10, .cp (.one (.lit true))), (11, .cp (.one (.lit true))), (12, aI x12), (13, aI x13), (97, aB x97)] [(0, .vec Tq2 y0)]
abbrev f71_t_r17 := (List (Int × Int)) → Int → Int → Int → Int → Int → Bool → Option (((List (Int × Int)) × Unit) × (Unit))
abbrev f71_o_r17 (R : f71_S) : f71_t_r17 := (fun y0 x1 x12 x13 x2 x3 x97 => R (f71_s_r17 y0 x1 x12 x13 x2 x3 x97))
noncomputable def f71_Q_r17 (k : Nat) (R_l0 : f71_S) : f71_L := [.c (f71_p 29181) 1, .c (f71_p 14591) 1, .blk 1, .j (fun σ => R_l0 (cut f71_A.loops 0 σ)), .blk 0]
noncomputable def f71_C_r17 (k : Nat) (R_l0 : f71_S) : f71_S := fun σ => f71_a k (f71_Q_r17 k R_l0) .nx σ
noncomputable def f71_F_r17 (k : Nat) (G_l0 : f71_S) : f71_L := .c (f71_p 29181) 1 :: .c (f71_p 29182) 1 :: .c (f71_p 58366) 1 :: .c (f71_p 116734) 1 :: .c (f71_p 233470) 1 :: .c (f71_p 466942) 1 :: .c (f71_p 466943) 1 :: .blk 1 :: .j (fun σ => G_l0 (cut f71_A.loops 0 σ)) :: .blk 0 :: []
theorem f71_f_r17 (k : Nat) (R_l0 : f71_S) : f71_a k (f71_Q_r17 k R_l0) = f71_a k (f71_F_r17 k R_l0) := (ap_cons _ (Eq.trans ap_sq (ap_cons _ (Eq.trans ap_sq (ap_cons _ (Eq.trans ap_sq (ap_cons _ (Eq.trans ap_sq (ap_cons _ (Eq.trans ap_sq (ap_cons _ (ap_cons _ (ap_cons _ (ap_cons _ (ap_cons _ rfl)))))))))))))))
noncomputable def f71_F_c16 (k : Nat) (G_l0 G_r17 : f71_S) : f71_L := .c (f71_p 29180) 1 :: .j G_r17 :: f71_F_r17 k G_l0
theorem f71_f_c16 (k : Nat) (R_l0 : f71_S) : f71_a k (f71_Q_c16 k R_l0) = f71_a k (f71_F_c16 k R_l0 (f71_C_r17 k R_l0)) := (Eq.trans ap_sq (Eq.trans ap_sq (ap_cons _ (Eq.trans (ap_pass (C := (f71_C_r17 k R_l0)) (fun _ => rfl)) (ap_cons _ (f71_f_r17 k R_l0))))))
noncomputable def f71_F_r15 (k : Nat) (G_l0 G_c16 G_r17 : f71_S) : f71_L := .c (f71_p 14589) 1 :: .j G_c16 :: f71_F_c16 k G_l0 G_r17
theorem f71_f_r15 (k : Nat) (R_l0 : f71_S) : f71_a k (f71_Q_r15 k R_l0) = f71_a k (f71_F_r15 k R_l0 (f71_C_c16 k R_l0) (f71_C_r17 k R_l0)) := (ap_cons _ (Eq.trans (ap_pass (C := (f71_C_c16 k R_l0)) (fun _ => rfl)) (ap_cons _ (f71_f_c16 k R_l0))))
noncomputable def f71_F_c12 (k : Nat) (G_l0 G_r15 G_c16 G_r17 : f71_S) : f71_L := .c (f71_p 14588) 1 :: .j G_r15 :: f71_F_r15 k G_l0 G_c16 G_r17
theorem f71_f_c12 (k : Nat) (R_l0 : f71_S) : f71_a k (f71_Q_c12 k R_l0) = f71_a k (f71_F_c12 k R_l0 (f71_C_r15 k R_l0) (f71_C_c16 k R_l0) (f71_C_r17 k R_l0)) := (Eq.trans ap_sq (Eq.trans ap_sq (ap_cons _ (Eq.trans (ap_pass (C := (f71_C_r15 k R_l0)) (fun _ => rfl)) (ap_cons _ (f71_f_r15 k R_l0))))))
noncomputable def f71_F_c8 (k : Nat) (G_l0 G_c12 G_r15 G_c16 G_r17 : f71_S) : f71_L := .c (f71_p 1822) 1 :: .c (f71_p 7292) 1 :: .c (f71_p 7293) 1 :: .j G_c12 :: f71_F_c12 k G_l0 G_r15 G_c16 G_r17
theorem f71_f_c8 (k : Nat) (R_l0 : f71_S) : f71_a k (f71_Q_c8 k R_l0) = f71_a k (f71_F_c8 k R_l0 (f71_C_c12 k R_l0) (f71_C_r15 k R_l0) (f71_C_c16 k R_l0) (f71_C_r17 k R_l0)) := (Eq.trans ap_sq (ap_cons _ (Eq.trans ap_sq (Eq.trans ap_sq (ap_cons _ (ap_cons _ (Eq.trans (ap_pass (C := (f71_C_c12 k R_l0)) (fun _ => rfl)) (ap_cons _ (f71_f_c12 k R_l0)))))))))
noncomputable def f71_F_l0 (k : Nat) (G_l0 G_c8 G_c12 G_r15 G_c16 G_r17 : f71_S) : f71_L := .j (fun σ => f71_a k (.c (f71_p 112) 1 :: .c (f71_p 226) 1 :: .c (f71_p 454) 1 :: .c (f71_p 1820) 1 :: .c (f71_p 1821) 1 :: .j G_c8 :: f71_F_c8 k G_l0 G_c12 G_r15 G_c16 G_r17) .nx σ) :: .j (fun σ => G_l0 (cut f71_A.loops 0 σ)) :: .blk 0 :: []
theorem f71_f_l0 (k : Nat) (R_l0 : f71_S) : f71_a k (f71_Q_l0 k R_l0) = f71_a k (f71_F_l0 k R_l0 (f71_C_c8 k R_l0) (f71_C_c12 k R_l0) (f71_C_r15 k R_l0) (f71_C_c16 k R_l0) (f71_C_r17 k R_l0)) := (Eq.trans (ap_bl 1) (Eq.trans (ap_j (Eq.trans ap_sq (ap_cons _ (Eq.trans ap_sq (ap_cons _ (Eq.trans ap_sq (ap_cons _ (Eq.trans ap_sq (Eq.trans ap_sq (ap_cons _ (ap_cons _ (Eq.trans (ap_pass (C := (f71_C_c8 k R_l0)) (fun _ => rfl)) (ap_cons _ (f71_f_c8 k R_l0)))))))))))))) (ap_cons _ (ap_cons _ (ap_cons _ rfl)))))
def f71_entry_B (k : Nat) (g_l0 : f71_t_l0) (a : Td4) (a0 : Int) (a1 : Int) (a2 : Int) (a3 : Unit) : Option (((List (Int × Int)) × Unit) × (Unit)) := (g_l0 a a0 a1 a2)
def f71_l0_B (k : Nat) (g_c8 : f71_t_c8) (y0 : (List (Int × Int))) (x1 : Int) (x2 : Int) (x3 : Int) : Option (((List (Int × Int)) × Unit) × (Unit)) := (if (w64 (x2 - x1)) ≤ 12 then ((f96 k y0 x1 x2 ()).bind fun r1 => some ((r1.1.1, ()), (()))) else (if x3 = 0 then none else (g_c8 y0 x1 (w64 (x2 - x1)) x2 x3)))
def f71_c8_B (k : Nat) (g_c12 : f71_t_c12) (y0 : (List (Int × Int))) (x1 : Int) (x12 : Int) (x2 : Int) (x3 : Int) : Option (((List (Int × Int)) × Unit) × (Unit)) := ((f99 k y0 x1 x2 ()).bind fun r1 => (if r1.2.1 = 2 then none else (g_c12 y0 x1 x12 r1.1 r1.2.1 x2 x3)))
def f71_c12_B (k : Nat) (g_r15 : f71_t_r15) (y0 : (List (Int × Int))) (x1 : Int) (x12 : Int) (x13 : Int) (x14 : Int) (x2 : Int) (x3 : Int) : Option (((List (Int × Int)) × Unit) × (Unit)) := (g_r15 y0 x1 x12 x13 x2 x3 (decide (x14 = 1)))
def f71_r15_B (k : Nat) (g_c16 : f71_t_c16) (y0 : (List (Int × Int))) (x1 : Int) (x12 : Int) (x13 : Int) (x2 : Int) (x3 : Int) (x75 : Bool) : Option (((List (Int × Int)) × Unit) × (Unit)) := (if x75 = true then none else (g_c16 y0 x1 x12 x13 x2 x3))
def f71_c16_B (k : Nat) (g_r17 : f71_t_r17) (y0 : (List (Int × Int))) (x1 : Int) (x12 : Int) (x13 : Int) (x2 : Int) (x3 : Int) : Option (((List (Int × Int)) × Unit) × (Unit)) := (if 0 < x1 then (if 0 ≤ (w64 (x1 - 1)) then (if (w64 (x1 - 1)) < (y0.length : Int) then (if 0 ≤ x13 then (if x13 < (y0.length : Int) then ((f48 k ((y0.getD ((w64 (x1 - 1)).toNat) (0, 0)).1, (y0.getD ((w64 (x1 - 1)).toNat) (0, 0)).2) ((y0.getD ((x13).toNat) (0, 0)).1, (y0.getD ((x13).toNat) (0, 0)).2)).bind fun r1 => (g_r17 y0 x1 x12 x13 x2 x3 (decide (¬ (r1.1 < 0))))) else none) else none) else none) else none) else (g_r17 y0 x1 x12 x13 x2 x3 false))
def f71_r17_B (k : Nat) (y0 : (List (Int × Int))) (x1 : Int) (x12 : Int) (x13 : Int) (x2 : Int) (x3 : Int) (x97 : Bool) : Option (((List (Int × Int)) × Unit) × (Unit)) := (if x97 = true then none else none)
theorem f71_r17_P (k : Nat) (G_l0 : f71_S) : f71_o_r17 (fun σ => f71_a k (f71_F_r17 k G_l0) .nx σ) = f71_r17_B k := by kernel_rfl
def f71_r17 (k : Nat) (r_l0 : f71_t_l0) : f71_t_r17 := f71_r17_B k
theorem f71_r17_E (k : Nat) (R_l0 : f71_S) : f71_o_r17 (f71_C_r17 k R_l0) = f71_r17 k (f71_o_l0 R_l0) :=
  Eq.trans (congrArg f71_o_r17 (ap_fn (f71_f_r17 k R_l0))) ((f71_r17_P k R_l0).trans (by rfl))
theorem f71_c16_P (k : Nat) (G_l0 G_r17 : f71_S) : f71_o_c16 (fun σ => f71_a k (f71_F_c16 k G_l0 G_r17) .nx σ) = f71_c16_B k (f71_o_r17 G_r17) := by kernel_rfl
def f71_c16 (k : Nat) (r_l0 : f71_t_l0) : f71_t_c16 := f71_c16_B k (f71_r17 k r_l0)
theorem f71_c16_E (k : Nat) (R_l0 : f71_S) : f71_o_c16 (f71_C_c16 k R_l0) = f71_c16 k (f71_o_l0 R_l0) :=
  Eq.trans (congrArg f71_o_c16 (ap_fn (f71_f_c16 k R_l0))) ((f71_c16_P k R_l0 (f71_C_r17 k R_l0)).trans (by rw [f71_r17_E k R_l0] <;> rfl))
theorem f71_r15_P (k : Nat) (G_l0 G_c16 G_r17 : f71_S) : f71_o_r15 (fun σ => f71_a k (f71_F_r15 k G_l0 G_c16 G_r17) .nx σ) = f71_r15_B k (f71_o_c16 G_c16) := by kernel_rfl
def f71_r15 (k : Nat) (r_l0 : f71_t_l0) : f71_t_r15 := f71_r15_B k (f71_c16 k r_l0)
theorem f71_r15_E (k : Nat) (R_l0 : f71_S) : f71_o_r15 (f71_C_r15 k R_l0) = f71_r15 k (f71_o_l0 R_l0) :=
  Eq.trans (congrArg f71_o_r15 (ap_fn (f71_f_r15 k R_l0))) ((f71_r15_P k R_l0 (f71_C_c16 k R_l0) (f71_C_r17 k R_l0)).trans (by rw [f71_c16_E k R_l0] <;> rfl))
theorem f71_c12_P (k : Nat) (G_l0 G_r15 G_c16 G_r17 : f71_S) : f71_o_c12 (fun σ => f71_a k (f71_F_c12 k G_l0 G_r15 G_c16 G_r17) .nx σ) = f71_c12_B k (f71_o_r15 G_r15) := by kernel_rfl
def f71_c12 (k : Nat) (r_l0 : f71_t_l0) : f71_t_c12 := f71_c12_B k (f71_r15 k r_l0)
theorem f71_c12_E (k : Nat) (R_l0 : f71_S) : f71_o_c12 (f71_C_c12 k R_l0) = f71_c12 k (f71_o_l0 R_l0) :=
  Eq.trans (congrArg f71_o_c12 (ap_fn (f71_f_c12 k R_l0))) ((f71_c12_P k R_l0 (f71_C_r15 k R_l0) (f71_C_c16 k R_l0) (f71_C_r17 k R_l0)).trans (by rw [f71_r15_E k R_l0] <;> rfl))
theorem f71_c8_P (k : Nat) (G_l0 G_c12 G_r15 G_c16 G_r17 : f71_S) : f71_o_c8 (fun σ => f71_a k (f71_F_c8 k G_l0 G_c12 G_r15 G_c16 G_r17) .nx σ) = f71_c8_B k (f71_o_c12 G_c12) := by kernel_rfl
def f71_c8 (k : Nat) (r_l0 : f71_t_l0) : f71_t_c8 := f71_c8_B k (f71_c12 k r_l0)
theorem f71_c8_E (k : Nat) (R_l0 : f71_S) : f71_o_c8 (f71_C_c8 k R_l0) = f71_c8 k (f71_o_l0 R_l0) :=
  Eq.trans (congrArg f71_o_c8 (ap_fn (f71_f_c8 k R_l0))) ((f71_c8_P k R_l0 (f71_C_c12 k R_l0) (f71_C_r15 k R_l0) (f71_C_c16 k R_l0) (f71_C_r17 k R_l0)).trans (by rw [f71_c12_E k R_l0] <;> rfl))
theorem f71_l0_P (k : Nat) (G_l0 G_c8 G_c12 G_r15 G_c16 G_r17 : f71_S) : f71_o_l0 (fun σ => f71_a k (f71_F_l0 k G_l0 G_c8 G_c12 G_r15 G_c16 G_r17) .nx σ) = f71_l0_B k (f71_o_c8 G_c8) := by kernel_rfl
def f71_l0 (k : Nat) : Nat → f71_t_l0
  | 0 => fun _ _ _ _ => none
  | n + 1 => f71_l0_B k (f71_c8 k (f71_l0 k n))
theorem f71_l0_E (k : Nat) : ∀ n, f71_o_l0 (f71_C_l0 k n) = f71_l0 k n
  | 0 => rfl
  | n + 1 =>
    Eq.trans (congrArg f71_o_l0 (Eq.trans (b := fun σ => f71_a k (f71_Q_l0 k (f71_C_l0 k n)) .nx σ) (by kernel_rfl) (ap_fn (f71_f_l0 k (f71_C_l0 k n))))) ((f71_l0_P k (f71_C_l0 k n) (f71_C_c8 k (f71_C_l0 k n)) (f71_C_c12 k (f71_C_l0 k n)) (f71_C_r15 k (f71_C_l0 k n)) (f71_C_c16 k (f71_C_l0 k n)) (f71_C_r17 k (f71_C_l0 k n))).trans (by rw [f71_c8_E k (f71_C_l0 k n), f71_l0_E k n] <;> rfl))
theorem f71_entry_P (k : Nat) (G_l0 : f71_S) (x : LOD f71_ls) (xs : DL f71_sig) : f71_a k (.c (f71_p 2) 0 :: .c (f71_p 6) 0 :: .j (fun σ => f71_a k (.j (fun σ => G_l0 (cut f71_A.loops 0 σ)) :: .blk 0 :: []) .nx σ) :: []) .nx (σ0B 148 449 0 f71_ls x f71_sig xs) = f71_entry_B k (f71_o_l0 G_l0) x.1 xs.1 xs.2.1 xs.2.2.1 xs.2.2.2.1 := by kernel_rfl
def f71 (k : Nat) (a : Td4) (a0 : Int) (a1 : Int) (a2 : Int) (a3 : Unit) : Option (((List (Int × Int)) × Unit) × (Unit)) := f71_entry_B k (f71_l0 k k) a a0 a1 a2 a3
theorem f71_fe (k : Nat) : f71_a k [.c (f71_p 1) 0] = f71_a k (.c (f71_p 2) 0 :: .c (f71_p 6) 0 :: .j (fun σ => f71_a k (.j (fun σ => (f71_C_l0 k k) (cut f71_A.loops 0 σ)) :: .blk 0 :: []) .nx σ) :: []) := (Eq.trans ap_sq (ap_cons _ (Eq.trans ap_sq (ap_cons _ (Eq.trans (ap_bl 0) (Eq.trans (ap_j (Eq.trans (ap_lp (C := (f71_C_l0 k)) (fun _ _ => rfl)) (ap_cons _ (ap_cons _ rfl)))) (ap_cons _ rfl)))))))
theorem f71_eq (k : Nat) (x : LOD f71_ls) (xs : DL f71_sig) : den T f71_Y (f71_E k) f71_A k f71_c 0 (σ0B 148 449 0 f71_ls x f71_sig xs) (KfinB T f71_ls f71_rs f71_ts) = f71 k x.1 xs.1 xs.2.1 xs.2.2.1 xs.2.2.2.1 :=
  Eq.trans (Eq.trans den_sb (ap_at (f71_fe k) _)) ((f71_entry_P k (f71_C_l0 k k) x xs).trans (by rw [f71_l0_E k k] <;> rfl))
noncomputable def f71_con (k : Nat) : BCon := ⟨0, f71_ls, f71_sig, f71_rs, fun x xs => f71 k x.1 xs.1 xs.2.1 xs.2.2.1 xs.2.2.2.1⟩
theorem f71_ok (k : Nat) : BoxOK Try.prog 71 0 f71_ls f71_sig f71_rs (fun x xs => f71 k x.1 xs.1 xs.2.1 xs.2.2.1 xs.2.2.2.1) :=
  (box_of_den (k := k) (A := f71_A) (T := T) (Y := f71_Y) (E := f71_E k) (M := 449) (ts := f71_ts) T_ok ⟨f48_ok k, f96_ok k, f99_ok k, trivial⟩ ⟨f48_ent, f96_ent, f99_ent, trivial⟩ mixed (f := 71) (fn := Try.f71) (c := f71_c) (by kernel_rfl) (by kernel_rfl) (by kernel_rfl) (by decide) (by kernel_rfl) (by decide)).congr fun x xs => (f71_eq k x xs).symm
theorem f71_ent : Ent Try.prog 71 := fun args w => by kernel_rfl
/-! ### slices.SortFunc[[]terrier/api.Ban,terrier/api.Ban]: function 47 -/
noncomputable def f47_c : Code := Try.f47.body.getD .skip
noncomputable abbrev f47_p (n : Nat) : Code := sb f47_c n
abbrev f47_sig : List PT := [(false, (.fn 48))]
abbrev f47_rs : List RT := []
abbrev f47_ts : List RV := []
abbrev f47_ls : List LO := [.row Tq2]
abbrev f47_S := St → Option (LOD f47_ls × RDL f47_rs)
abbrev f47_L := List (Fr (LOD f47_ls × RDL f47_rs))
def f47_Y : Tys := []
noncomputable def f47_E (k : Nat) : Env := [(68, .c (f68_con k)), (71, .b (f71_con k))]
def f47_A : Ann := {}
noncomputable abbrev f47_a (k : Nat) (F : f47_L) : Kont (LOD f47_ls × RDL f47_rs) := ap T f47_Y (f47_E k) f47_A k (KfinB T f47_ls f47_rs f47_ts) F
def f47_entry_B (k : Nat) (a : Td4) (a0 : Unit) : Option (((List (Int × Int)) × Unit) × (Unit)) := ((f68 k (IntKind.u64.wrap ((a.length : Int)))).bind fun r1 => ((f71 k a 0 (a.length : Int) r1.1 ()).bind fun r2 => some ((r2.1.1, ()), (()))))
theorem f47_entry_P (k : Nat) (x : LOD f47_ls) (xs : DL f47_sig) : f47_a k (.c (f47_p 1) 0 :: []) .nx (σ0B 14 49 0 f47_ls x f47_sig xs) = f47_entry_B k x.1 xs.1 := by kernel_rfl
def f47 (k : Nat) (a : Td4) (a0 : Unit) : Option (((List (Int × Int)) × Unit) × (Unit)) := f47_entry_B k a a0
theorem f47_eq (k : Nat) (x : LOD f47_ls) (xs : DL f47_sig) : den T f47_Y (f47_E k) f47_A k f47_c 0 (σ0B 14 49 0 f47_ls x f47_sig xs) (KfinB T f47_ls f47_rs f47_ts) = f47 k x.1 xs.1 :=
  Eq.trans (Eq.trans den_sb (ap_at (ap_cons _ rfl) _)) ((f47_entry_P k x xs).trans (by rfl))
noncomputable def f47_con (k : Nat) : BCon := ⟨0, f47_ls, f47_sig, f47_rs, fun x xs => f47 k x.1 xs.1⟩
theorem f47_ok (k : Nat) : BoxOK Try.prog 47 0 f47_ls f47_sig f47_rs (fun x xs => f47 k x.1 xs.1) :=
  (box_of_den (k := k) (A := f47_A) (T := T) (Y := f47_Y) (E := f47_E k) (M := 49) (ts := f47_ts) T_ok ⟨f68_ok k, f71_ok k, trivial⟩ ⟨f68_ent, f71_ent, trivial⟩ mixed (f := 47) (fn := Try.f47) (c := f47_c) (by kernel_rfl) (by kernel_rfl) (by kernel_rfl) (by decide) (by kernel_rfl) (by decide)).congr fun x xs => (f47_eq k x xs).symm
theorem f47_ent : Ent Try.prog 47 := fun args w => by kernel_rfl
/-! ### terrier/terrmake.Net: function 13 -/
noncomputable def f13_c : Code := Try.f13.body.getD .skip
noncomputable abbrev f13_p (n : Nat) : Code := sb f13_c n
abbrev f13_sig : List PT := [(false, Tq1)]
abbrev f13_rs : List RT := [.d true Tq9]
abbrev f13_ts : List RV := [.cell 2 27]
abbrev f13_S := St → Option (RDL f13_rs)
abbrev f13_L := List (Fr (RDL f13_rs))
def f13_Y : Tys := [(36, Tq2), (39, Tq6), (42, Tq2)]
noncomputable def f13_E (k : Nat) : Env := [(43, .b (f43_con k)), (44, .b (f44_con k)), (45, .c (f45_con k)), (46, .c (f46_con k)), (47, .b (f47_con k))]
def f13_A : Ann := { loops := [(0, { matb := [(4, 0, 39, Tq2)], slots := [(2, .id), (3, .id), (4, .id)], keys := [(2, []), (4, []), (11, [.val false (.int .i64)]), (39, [])] }), (2, { matb := [(4, 0, 39, Tq2)], slots := [(2, .id), (3, .id), (4, .id), (5, .id)], keys := [(2, []), (4, []), (5, []), (11, [.val false (.int .i64)]), (39, [])] }), (4, { matb := [(4, 0, 39, Tq2), (4, 1, 69, Tq6)], slots := [(2, .id), (3, .id), (4, .id), (42, .id), (43, .id)], keys := [(2, []), (4, []), (11, [.val false (.int .i64)]), (39, []), (69, [])] }), (6, { matb := [(4, 0, 39, Tq2), (4, 1, 69, Tq6), (4, 2, 117, Tq2)], slots := [(2, .id), (3, .id), (4, .id), (73, .id), (74, .id)], keys := [(2, []), (4, []), (11, [.val false (.int .i64)]), (39, []), (69, []), (117, [])] })], regs := [(3, { matb := [(4, 0, 39, Tq2)], slots := [(2, .id), (3, .id), (4, .id), (24, .bool)], keys := [(2, []), (4, []), (11, [.val false (.int .i64)]), (39, [])] }), (18, { matb := [(4, 2, 117, Tq2)], slots := [(2, .id), (3, .id), (4, .id), (8, .id), (73, .id), (74, .id), (112, .bool)], keys := [(2, []), (4, []), (8, []), (11, [.val false (.int .i64)]), (39, []), (69, []), (117, [])] })], conds := [(12, { matb := [(4, 0, 39, Tq2), (4, 1, 69, Tq6)], slots := [(2, .id), (3, .id), (4, .id), (42, .id), (43, .id)], keys := [(2, []), (4, []), (11, [.val false (.int .i64)]), (39, []), (69, [])] }), (19, { matb := [(4, 2, 117, Tq2)], slots := [(2, .id), (3, .id), (4, .id), (73, .id), (74, .id)], keys := [(2, []), (4, []), (11, [.val false (.int .i64)]), (39, []), (69, []), (117, [])] })], blks := [(6, { matb := [(4, 1, 69, Tq6), (4, 2, 117, Tq2)], slots := [(2, .id), (4, .id)], keys := [(2, []), (4, []), (39, []), (69, []), (117, [])] })] }
noncomputable abbrev f13_a (k : Nat) (F : f13_L) : Kont (RDL f13_rs) := ap T f13_Y (f13_E k) f13_A k (Kfin T f13_rs f13_ts) F
def f13_s_l0 (y11_0 : (List Int)) (y39 : (List (Int × Int))) : St := mkS 124 384 [(2, aP 2), (3, aP 11), (4, aP 4)] [(2, .box [.nil, .nil, .nil]), (4, .box [.own 39, .nil, .nil]), (11, .box [cV (.int .i64) y11_0]), (39, .vec Tq2 y39)]
abbrev f13_t_l0 := (List Int) → (List (Int × Int)) → Option (Td12 × Unit)
abbrev f13_o_l0 (R : f13_S) : f13_t_l0 := (fun y11_0 y39 => R (f13_s_l0 y11_0 y39))
noncomputable def f13_Q_l0 (k : Nat) (R_l0 : f13_S) : f13_L := [.c (f13_p 120) 0, .j (fun σ => R_l0 (cut f13_A.loops 0 σ)), .blk 0, .c (f13_p 31) 0]
noncomputable def f13_C_l0 (k : Nat) (n : Nat) (σ : St) : Option (RDL f13_rs) := loopK (fun σ K => den T f13_Y (f13_E k) f13_A k (f13_p 120) 0 σ K) (cut f13_A.loops 0) (f13_a k [.blk 0, .c (f13_p 31) 0]) n σ
def f13_s_r3 (y11_0 : (List Int)) (y39 : (List (Int × Int))) (x24 : Bool) : St := mkS 124 384 [(2, aP 2), (3, aP 11), (4, aP 4), (24, aB x24)] [(2, .box [.nil, .nil, .nil]), (4, .box [.own 39, .nil, .nil]), (11, .box [cV (.int .i64) y11_0]), (39, .vec Tq2 y39)]
abbrev f13_t_r3 := (List Int) → (List (Int × Int)) → Bool → Option (Td12 × Unit)
abbrev f13_o_r3 (R : f13_S) : f13_t_r3 := (fun y11_0 y39 x24 => R (f13_s_r3 y11_0 y39 x24))
noncomputable def f13_Q_r3 (k : Nat) (R_l0 : f13_S) : f13_L := [.c (f13_p 481) 0, .c (f13_p 241) 0, .j (fun σ => R_l0 (cut f13_A.loops 0 σ)), .blk 0, .c (f13_p 31) 0]
noncomputable def f13_C_r3 (k : Nat) (R_l0 : f13_S) : f13_S := fun σ => f13_a k (f13_Q_r3 k R_l0) .nx σ
def f13_s_l2 (y11_0 : (List Int)) (y39 : (List (Int × Int))) (y5_0 : Int) (y5_1 : Int) : St := mkS 124 384 [(2, aP 2), (3, aP 11), (4, aP 4), (5, aP 5)] [(2, .box [.nil, .nil, .nil]), (4, .box [.own 39, .nil, .nil]), (5, .box [cI y5_0, cI y5_1]), (11, .box [cV (.int .i64) y11_0]), (39, .vec Tq2 y39)]
abbrev f13_t_l2 := (List Int) → (List (Int × Int)) → Int → Int → Option (Td12 × Unit)
abbrev f13_o_l2 (R : f13_S) : f13_t_l2 := (fun y11_0 y39 y5_0 y5_1 => R (f13_s_l2 y11_0 y39 y5_0 y5_1))
noncomputable def f13_Q_l2 (k : Nat) (R_l0 R_l2 : f13_S) : f13_L := [.c (f13_p 7720) 2, .j (fun σ => R_l2 (cut f13_A.loops 2 σ)), .blk 2, .c (f13_p 1931) 1, .blk 1, .j (fun σ => R_l0 (cut f13_A.loops 0 σ)), .blk 0, .c (f13_p 31) 0]
noncomputable def f13_C_l2 (k : Nat) (R_l0 : f13_S) (n : Nat) (σ : St) : Option (RDL f13_rs) := loopK (fun σ K => den T f13_Y (f13_E k) f13_A k (f13_p 7720) 2 σ K) (cut f13_A.loops 2) (f13_a k [.blk 2, .c (f13_p 1931) 1, .blk 1, .j (fun σ => R_l0 (cut f13_A.loops 0 σ)), .blk 0, .c (f13_p 31) 0]) n σ
def f13_s_l4 (y11_0 : (List Int)) (y39 : (List (Int × Int))) (y69 : (List (Int × (Int × (Int × Int))))) (x42 : Int) (x43 : Int) : St := mkS 124 384 [(2, aP 2), (3, aP 11), (4, aP 4), (42, aI x42), (43, aI x43)] [(2, .box [.nil, .nil, .nil]), (4, .box [.own 39, .own 69, .nil]), (11, .box [cV (.int .i64) y11_0]), (39, .vec Tq2 y39), (69, .vec Tq6 y69)]
abbrev f13_t_l4 := (List Int) → (List (Int × Int)) → (List (Int × (Int × (Int × Int)))) → Int → Int → Option (Td12 × Unit)
abbrev f13_o_l4 (R : f13_S) : f13_t_l4 := (fun y11_0 y39 y69 x42 x43 => R (f13_s_l4 y11_0 y39 y69 x42 x43))
noncomputable def f13_Q_l4 (k : Nat) (R_l4 : f13_S) : f13_L := [.c (f13_p 500) 4, .j (fun σ => R_l4 (cut f13_A.loops 4 σ)), .blk 4, .c (f13_p 63) 0]
noncomputable def f13_C_l4 (k : Nat) (n : Nat) (σ : St) : Option (RDL f13_rs) := loopK (fun σ K => den T f13_Y (f13_E k) f13_A k (f13_p 500) 4 σ K) (cut f13_A.loops 4) (f13_a k [.blk 4, .c (f13_p 63) 0]) n σ
def f13_s_c12 (y11_0 : (List Int)) (y39 : (List (Int × Int))) (y69 : (List (Int × (Int × (Int × Int))))) (x42 : Int) (x43 : Int) : St := mkS 124 384 [(2, aP 2), (3, aP 11), (4, aP 4), (42, aI x42), (43, aI x43)] [(2, .box [.nil, .nil, .nil]), (4, .box [.own 39, .own 69, .nil]), (11, .box [cV (.int .i64) y11_0]), (39, .vec Tq2 y39), (69, .vec Tq6 y69)]
abbrev f13_t_c12 := (List Int) → (List (Int × Int)) → (List (Int × (Int × (Int × Int)))) → Int → Int → Option (Td12 × Unit)
abbrev f13_o_c12 (R : f13_S) : f13_t_c12 := (fun y11_0 y39 y69 x42 x43 => R (f13_s_c12 y11_0 y39 y69 x42 x43))
noncomputable def f13_Q_c12 (k : Nat) (R_l4 : f13_S) : f13_L := [.blk 5, .c (f13_p 4007) 4, .j (fun σ => R_l4 (cut f13_A.loops 4 σ)), .blk 4, .c (f13_p 63) 0]
noncomputable def f13_C_c12 (k : Nat) (R_l4 : f13_S) : f13_S := fun σ => f13_a k (f13_Q_c12 k R_l4) .nx σ
def f13_s_l6 (y11_0 : (List Int)) (y117 : (List (Int × Int))) (y39 : (List (Int × Int))) (y69 : (List (Int × (Int × (Int × Int))))) (x73 : Int) (x74 : Int) : St := mkS 124 384 [(2, aP 2), (3, aP 11), (4, aP 4), (73, aI x73), (74, aI x74)] [(2, .box [.nil, .nil, .nil]), (4, .box [.own 39, .own 69, .own 117]), (11, .box [cV (.int .i64) y11_0]), (39, .vec Tq2 y39), (69, .vec Tq6 y69), (117, .vec Tq2 y117)]
abbrev f13_t_l6 := (List Int) → (List (Int × Int)) → (List (Int × Int)) → (List (Int × (Int × (Int × Int)))) → Int → Int → Option (Td12 × Unit)
abbrev f13_o_l6 (R : f13_S) : f13_t_l6 := (fun y11_0 y117 y39 y69 x73 x74 => R (f13_s_l6 y11_0 y117 y39 y69 x73 x74))
noncomputable def f13_Q_l6 (k : Nat) (R_l6 : f13_S) : f13_L := [.c (f13_p 1012) 6, .j (fun σ => R_l6 (cut f13_A.loops 6 σ)), .blk 6, .c (f13_p 127) 0]
noncomputable def f13_C_l6 (k : Nat) (n : Nat) (σ : St) : Option (RDL f13_rs) := loopK (fun σ K => den T f13_Y (f13_E k) f13_A k (f13_p 1012) 6 σ K) (cut f13_A.loops 6) (f13_a k [.blk 6, .c (f13_p 127) 0]) n σ
def f13_s_b6 (y117 : (List (Int × Int))) (y39 : (List (Int × Int))) (y69 : (List (Int × (Int × (Int × Int))))) : St := mkS 124 384 [(2, aP 2), (4, aP 4)] [(2, .box [.nil, .nil, .nil]), (4, .box [.own 39, .own 69, .own 117]), (39, .vec Tq2 y39), (69, .vec Tq6 y69), (117, .vec Tq2 y117)]
abbrev f13_t_b6 := (List (Int × Int)) → (List (Int × Int)) → (List (Int × (Int × (Int × Int)))) → Option (Td12 × Unit)
abbrev f13_o_b6 (R : f13_S) : f13_t_b6 := (fun y117 y39 y69 => R (f13_s_b6 y117 y39 y69))
noncomputable def f13_Q_b6 (k : Nat) : f13_L := [.c (f13_p 127) 0]
noncomputable def f13_C_b6 (k : Nat) : f13_S := fun σ => f13_a k (f13_Q_b6 k) .nx σ
def f13_s_r18 (y11_0 : (List Int)) (y117 : (List (Int × Int))) (y39 : (List (Int × Int))) (y69 : (List (Int × (Int × (Int × Int))))) (y8_0 : Int) (y8_1 : Int) (x112 : Bool) (x73 : Int) (x74 : Int) : St := mkS 124 384 [(2, aP 2), (3, aP 11), (4, aP 4), (8, aP 8), (73, aI x73), (74, aI x74), (112, aB x112)] [(2, .box [.nil, .nil, .nil]), (4, .box [.own 39, .own 69, .own 117]), (8, .box [cI y8_0, cI y8_1]), (11, .box [cV (.int .i64) y11_0]), (39, .vec Tq2 y39), (69, .vec Tq6 y69), (117, .vec Tq2 y117)]
abbrev f13_t_r18 := (List Int) → (List (Int × Int)) → (List (Int × Int)) → (List (Int × (Int × (Int × Int)))) → Int → Int → Bool → Int → Int → Option (Td12 × Unit)
abbrev f13_o_r18 (R : f13_S) : f13_t_r18 := (fun y11_0 y117 y39 y69 y8_0 y8_1 x112 x73 x74 => R (f13_s_r18 y11_0 y117 y39 y69 y8_0 y8_1 x112 x73 x74))
noncomputable def f13_Q_r18 (k : Nat) (R_l6 : f13_S) : f13_L := [.c (f13_p 129639) 7, .blk 7, .c (f13_p 8103) 6, .j (fun σ => R_l6 (cut f13_A.loops 6 σ)), .blk 6, .c (f13_p 127) 0]
noncomputable def f13_C_r18 (k : Nat) (R_l6 : f13_S) : f13_S := fun σ => f13_a k (f13_Q_r18 k R_l6) .nx σ
def f13_s_c19 (y11_0 : (List Int)) (y117 : (List (Int × Int))) (y39 : (List (Int × Int))) (y69 : (List (Int × (Int × (Int × Int))))) (x73 : Int) (x74 : Int) : St := mkS 124 384 [(2, aP 2), (3, aP 11), (4, aP 4), (73, aI x73), (74, aI x74)] [(2, .box [.nil, .nil, .nil]), (4, .box [.own 39, .own 69, .own 117]), (11, .box [cV (.int .i64) y11_0]), (39, .vec Tq2 y39), (69, .vec Tq6 y69), (117, .vec Tq2 y117)]
abbrev f13_t_c19 := (List Int) → (List (Int × Int)) → (List (Int × Int)) → (List (Int × (Int × (Int × Int)))) → Int → Int → Option (Td12 × Unit)
abbrev f13_o_c19 (R : f13_S) : f13_t_c19 := (fun y11_0 y117 y39 y69 x73 x74 => R (f13_s_c19 y11_0 y117 y39 y69 x73 x74))
noncomputable def f13_Q_c19 (k : Nat) (R_l6 : f13_S) : f13_L := [.blk 7, .c (f13_p 8103) 6, .j (fun σ => R_l6 (cut f13_A.loops 6 σ)), .blk 6, .c (f13_p 127) 0]
noncomputable def f13_C_c19 (k : Nat) (R_l6 : f13_S) : f13_S := fun σ => f13_a k (f13_Q_c19 k R_l6) .nx σ
noncomputable def f13_F_b6 (k : Nat) : f13_L := .c (f13_p 127) 0 :: []
theorem f13_f_b6 (k : Nat) : f13_a k (f13_Q_b6 k) = f13_a k (f13_F_b6 k) := (ap_cons _ rfl)
noncomputable def f13_F_r3 (k : Nat) (G_l0 G_l2 G_l4 G_l6 G_b6 : f13_S) : f13_L := .c (f13_p 481) 0 :: .j (fun σ => f13_a k (.c (f13_p 964) 1 :: .j (fun σ => f13_a k (.j (fun σ => G_l2 (cut f13_A.loops 2 σ)) :: .blk 2 :: .c (f13_p 1931) 1 :: .blk 1 :: .j (fun σ => G_l0 (cut f13_A.loops 0 σ)) :: .blk 0 :: .c (f13_p 124) 0 :: .j (fun σ => f13_a k (.j (fun σ => G_l4 (cut f13_A.loops 4 σ)) :: .blk 4 :: .c (f13_p 252) 0 :: .j (fun σ => f13_a k (.j (fun σ => G_l6 (cut f13_A.loops 6 σ)) :: .b 6 (fun σ => G_b6 (cut f13_A.blks 6 σ)) :: f13_F_b6 k) .nx σ) :: f13_F_b6 k) .nx σ) :: .c (f13_p 252) 0 :: .j (fun σ => f13_a k (.j (fun σ => G_l6 (cut f13_A.loops 6 σ)) :: .b 6 (fun σ => G_b6 (cut f13_A.blks 6 σ)) :: f13_F_b6 k) .nx σ) :: f13_F_b6 k) .nx σ) :: .c (f13_p 1931) 1 :: .blk 1 :: .j (fun σ => G_l0 (cut f13_A.loops 0 σ)) :: .blk 0 :: .c (f13_p 124) 0 :: .j (fun σ => f13_a k (.j (fun σ => G_l4 (cut f13_A.loops 4 σ)) :: .blk 4 :: .c (f13_p 252) 0 :: .j (fun σ => f13_a k (.j (fun σ => G_l6 (cut f13_A.loops 6 σ)) :: .b 6 (fun σ => G_b6 (cut f13_A.blks 6 σ)) :: f13_F_b6 k) .nx σ) :: f13_F_b6 k) .nx σ) :: .c (f13_p 252) 0 :: .j (fun σ => f13_a k (.j (fun σ => G_l6 (cut f13_A.loops 6 σ)) :: .b 6 (fun σ => G_b6 (cut f13_A.blks 6 σ)) :: f13_F_b6 k) .nx σ) :: f13_F_b6 k) .nx σ) :: .j (fun σ => G_l0 (cut f13_A.loops 0 σ)) :: .blk 0 :: .c (f13_p 124) 0 :: .j (fun σ => f13_a k (.j (fun σ => G_l4 (cut f13_A.loops 4 σ)) :: .blk 4 :: .c (f13_p 252) 0 :: .j (fun σ => f13_a k (.j (fun σ => G_l6 (cut f13_A.loops 6 σ)) :: .b 6 (fun σ => G_b6 (cut f13_A.blks 6 σ)) :: f13_F_b6 k) .nx σ) :: f13_F_b6 k) .nx σ) :: .c (f13_p 252) 0 :: .j (fun σ => f13_a k (.j (fun σ => G_l6 (cut f13_A.loops 6 σ)) :: .b 6 (fun σ => G_b6 (cut f13_A.blks 6 σ)) :: f13_F_b6 k) .nx σ) :: f13_F_b6 k
theorem f13_f_r3 (k : Nat) (R_l0 : f13_S) : f13_a k (f13_Q_r3 k R_l0) = f13_a k (f13_F_r3 k R_l0 (f13_C_l2 k R_l0 k) (f13_C_l4 k k) (f13_C_l6 k k) (f13_C_b6 k)) := (ap_cons _ (Eq.trans (ap_bl 1) (Eq.trans (ap_j (Eq.trans ap_sq (ap_cons _ (Eq.trans ap_sq (Eq.trans (ap_bl 2) (Eq.trans (ap_j (Eq.trans (ap_lp (C := (f13_C_l2 k R_l0)) (fun _ _ => rfl)) (ap_cons _ (ap_cons _ (ap_cons _ (ap_cons _ (ap_cons _ (ap_cons _ (Eq.trans ap_sq (Eq.trans ap_sq (ap_cons _ (Eq.trans (ap_bl 4) (Eq.trans (ap_j (Eq.trans (ap_lp (C := (f13_C_l4 k)) (fun _ _ => rfl)) (ap_cons _ (ap_cons _ (Eq.trans ap_sq (Eq.trans ap_sq (ap_cons _ (Eq.trans (ap_bl 6) (Eq.trans (ap_j (Eq.trans (ap_lp (C := (f13_C_l6 k)) (fun _ _ => rfl)) (ap_cons _ (Eq.trans (ap_blkb (C := (f13_C_b6 k)) (fun _ => rfl)) (ap_cons _ (f13_f_b6 k)))))) (ap_cons _ (f13_f_b6 k))))))))))) (ap_cons _ (Eq.trans ap_sq (Eq.trans ap_sq (ap_cons _ (Eq.trans (ap_bl 6) (Eq.trans (ap_j (Eq.trans (ap_lp (C := (f13_C_l6 k)) (fun _ _ => rfl)) (ap_cons _ (Eq.trans (ap_blkb (C := (f13_C_b6 k)) (fun _ => rfl)) (ap_cons _ (f13_f_b6 k)))))) (ap_cons _ (f13_f_b6 k))))))))))))))))))))) (ap_cons _ (ap_cons _ (ap_cons _ (ap_cons _ (ap_cons _ (Eq.trans ap_sq (Eq.trans ap_sq (ap_cons _ (Eq.trans (ap_bl 4) (Eq.trans (ap_j (Eq.trans (ap_lp (C := (f13_C_l4 k)) (fun _ _ => rfl)) (ap_cons _ (ap_cons _ (Eq.trans ap_sq (Eq.trans ap_sq (ap_cons _ (Eq.trans (ap_bl 6) (Eq.trans (ap_j (Eq.trans (ap_lp (C := (f13_C_l6 k)) (fun _ _ => rfl)) (ap_cons _ (Eq.trans (ap_blkb (C := (f13_C_b6 k)) (fun _ => rfl)) (ap_cons _ (f13_f_b6 k)))))) (ap_cons _ (f13_f_b6 k))))))))))) (ap_cons _ (Eq.trans ap_sq (Eq.trans ap_sq (ap_cons _ (Eq.trans (ap_bl 6) (Eq.trans (ap_j (Eq.trans (ap_lp (C := (f13_C_l6 k)) (fun _ _ => rfl)) (ap_cons _ (Eq.trans (ap_blkb (C := (f13_C_b6 k)) (fun _ => rfl)) (ap_cons _ (f13_f_b6 k)))))) (ap_cons _ (f13_f_b6 k)))))))))))))))))))))))) (ap_cons _ (ap_cons _ (ap_cons _ (Eq.trans ap_sq (Eq.trans ap_sq (ap_cons _ (Eq.trans (ap_bl 4) (Eq.trans (ap_j (Eq.trans (ap_lp (C := (f13_C_l4 k)) (fun _ _ => rfl)) (ap_cons _ (ap_cons _ (Eq.trans ap_sq (Eq.trans ap_sq (ap_cons _ (Eq.trans (ap_bl 6) (Eq.trans (ap_j (Eq.trans (ap_lp (C := (f13_C_l6 k)) (fun _ _ => rfl)) (ap_cons _ (Eq.trans (ap_blkb (C := (f13_C_b6 k)) (fun _ => rfl)) (ap_cons _ (f13_f_b6 k)))))) (ap_cons _ (f13_f_b6 k))))))))))) (ap_cons _ (Eq.trans ap_sq (Eq.trans ap_sq (ap_cons _ (Eq.trans (ap_bl 6) (Eq.trans (ap_j (Eq.trans (ap_lp (C := (f13_C_l6 k)) (fun _ _ => rfl)) (ap_cons _ (Eq.trans (ap_blkb (C := (f13_C_b6 k)) (fun _ => rfl)) (ap_cons _ (f13_f_b6 k)))))) (ap_cons _ (f13_f_b6 k)))))))))))))))))))
noncomputable def f13_F_l0 (k : Nat) (G_l0 G_r3 G_l2 G_l4 G_l6 G_b6 : f13_S) : f13_L := .c (f13_p 480) 0 :: .j G_r3 :: f13_F_r3 k G_l0 G_l2 G_l4 G_l6 G_b6
theorem f13_f_l0 (k : Nat) (R_l0 : f13_S) : f13_a k (f13_Q_l0 k R_l0) = f13_a k (f13_F_l0 k R_l0 (f13_C_r3 k R_l0) (f13_C_l2 k R_l0 k) (f13_C_l4 k k) (f13_C_l6 k k) (f13_C_b6 k)) := (Eq.trans ap_sq (Eq.trans ap_sq (ap_cons _ (Eq.trans (ap_pass (C := (f13_C_r3 k R_l0)) (fun _ => rfl)) (ap_cons _ (f13_f_r3 k R_l0))))))
noncomputable def f13_F_l2 (k : Nat) (G_l0 G_l2 G_l4 G_l6 G_b6 : f13_S) : f13_L := .c (f13_p 7720) 2 :: .j (fun σ => G_l2 (cut f13_A.loops 2 σ)) :: .blk 2 :: .c (f13_p 1931) 1 :: .blk 1 :: .j (fun σ => G_l0 (cut f13_A.loops 0 σ)) :: .blk 0 :: .c (f13_p 124) 0 :: .j (fun σ => f13_a k (.j (fun σ => G_l4 (cut f13_A.loops 4 σ)) :: .blk 4 :: .c (f13_p 252) 0 :: .j (fun σ => f13_a k (.j (fun σ => G_l6 (cut f13_A.loops 6 σ)) :: .b 6 (fun σ => G_b6 (cut f13_A.blks 6 σ)) :: f13_F_b6 k) .nx σ) :: f13_F_b6 k) .nx σ) :: .c (f13_p 252) 0 :: .j (fun σ => f13_a k (.j (fun σ => G_l6 (cut f13_A.loops 6 σ)) :: .b 6 (fun σ => G_b6 (cut f13_A.blks 6 σ)) :: f13_F_b6 k) .nx σ) :: f13_F_b6 k
theorem f13_f_l2 (k : Nat) (R_l0 R_l2 : f13_S) : f13_a k (f13_Q_l2 k R_l0 R_l2) = f13_a k (f13_F_l2 k R_l0 R_l2 (f13_C_l4 k k) (f13_C_l6 k k) (f13_C_b6 k)) := (ap_cons _ (ap_cons _ (ap_cons _ (ap_cons _ (ap_cons _ (ap_cons _ (ap_cons _ (Eq.trans ap_sq (Eq.trans ap_sq (ap_cons _ (Eq.trans (ap_bl 4) (Eq.trans (ap_j (Eq.trans (ap_lp (C := (f13_C_l4 k)) (fun _ _ => rfl)) (ap_cons _ (ap_cons _ (Eq.trans ap_sq (Eq.trans ap_sq (ap_cons _ (Eq.trans (ap_bl 6) (Eq.trans (ap_j (Eq.trans (ap_lp (C := (f13_C_l6 k)) (fun _ _ => rfl)) (ap_cons _ (Eq.trans (ap_blkb (C := (f13_C_b6 k)) (fun _ => rfl)) (ap_cons _ (f13_f_b6 k)))))) (ap_cons _ (f13_f_b6 k))))))))))) (ap_cons _ (Eq.trans ap_sq (Eq.trans ap_sq (ap_cons _ (Eq.trans (ap_bl 6) (Eq.trans (ap_j (Eq.trans (ap_lp (C := (f13_C_l6 k)) (fun _ _ => rfl)) (ap_cons _ (Eq.trans (ap_blkb (C := (f13_C_b6 k)) (fun _ => rfl)) (ap_cons _ (f13_f_b6 k)))))) (ap_cons _ (f13_f_b6 k))))))))))))))))))))
noncomputable def f13_F_c12 (k : Nat) (G_l4 G_l6 G_b6 : f13_S) : f13_L := .blk 5 :: .c (f13_p 4007) 4 :: .j (fun σ => G_l4 (cut f13_A.loops 4 σ)) :: .blk 4 :: .c (f13_p 252) 0 :: .j (fun σ => f13_a k (.j (fun σ => G_l6 (cut f13_A.loops 6 σ)) :: .b 6 (fun σ => G_b6 (cut f13_A.blks 6 σ)) :: f13_F_b6 k) .nx σ) :: f13_F_b6 k
theorem f13_f_c12 (k : Nat) (R_l4 : f13_S) : f13_a k (f13_Q_c12 k R_l4) = f13_a k (f13_F_c12 k R_l4 (f13_C_l6 k k) (f13_C_b6 k)) := (ap_cons _ (ap_cons _ (ap_cons _ (ap_cons _ (Eq.trans ap_sq (Eq.trans ap_sq (ap_cons _ (Eq.trans (ap_bl 6) (Eq.trans (ap_j (Eq.trans (ap_lp (C := (f13_C_l6 k)) (fun _ _ => rfl)) (ap_cons _ (Eq.trans (ap_blkb (C := (f13_C_b6 k)) (fun _ => rfl)) (ap_cons _ (f13_f_b6 k)))))) (ap_cons _ (f13_f_b6 k)))))))))))
noncomputable def f13_F_l4 (k : Nat) (G_l4 G_c12 G_l6 G_b6 : f13_S) : f13_L := .c (f13_p 1000) 4 :: .c (f13_p 2002) 4 :: .j (fun σ => f13_a k (.c (f13_p 16024) 5 :: .c (f13_p 32050) 5 :: .c (f13_p 32051) 5 :: .j G_c12 :: f13_F_c12 k G_l4 G_l6 G_b6) .nx σ) :: .c (f13_p 4007) 4 :: .j (fun σ => G_l4 (cut f13_A.loops 4 σ)) :: .blk 4 :: .c (f13_p 252) 0 :: .j (fun σ => f13_a k (.j (fun σ => G_l6 (cut f13_A.loops 6 σ)) :: .b 6 (fun σ => G_b6 (cut f13_A.blks 6 σ)) :: f13_F_b6 k) .nx σ) :: f13_F_b6 k
theorem f13_f_l4 (k : Nat) (R_l4 : f13_S) : f13_a k (f13_Q_l4 k R_l4) = f13_a k (f13_F_l4 k R_l4 (f13_C_c12 k R_l4) (f13_C_l6 k k) (f13_C_b6 k)) := (Eq.trans ap_sq (ap_cons _ (Eq.trans ap_sq (ap_cons _ (Eq.trans ap_sq (Eq.trans (ap_bl 5) (Eq.trans (ap_j (Eq.trans ap_sq (ap_cons _ (Eq.trans ap_sq (ap_cons _ (ap_cons _ (Eq.trans (ap_pass (C := (f13_C_c12 k R_l4)) (fun _ => rfl)) (ap_cons _ (f13_f_c12 k R_l4))))))))) (ap_cons _ (ap_cons _ (ap_cons _ (ap_cons _ (Eq.trans ap_sq (Eq.trans ap_sq (ap_cons _ (Eq.trans (ap_bl 6) (Eq.trans (ap_j (Eq.trans (ap_lp (C := (f13_C_l6 k)) (fun _ _ => rfl)) (ap_cons _ (Eq.trans (ap_blkb (C := (f13_C_b6 k)) (fun _ => rfl)) (ap_cons _ (f13_f_b6 k)))))) (ap_cons _ (f13_f_b6 k))))))))))))))))))
noncomputable def f13_F_c19 (k : Nat) (G_l6 G_b6 : f13_S) : f13_L := .blk 7 :: .c (f13_p 8103) 6 :: .j (fun σ => G_l6 (cut f13_A.loops 6 σ)) :: .b 6 (fun σ => G_b6 (cut f13_A.blks 6 σ)) :: f13_F_b6 k
theorem f13_f_c19 (k : Nat) (R_l6 : f13_S) : f13_a k (f13_Q_c19 k R_l6) = f13_a k (f13_F_c19 k R_l6 (f13_C_b6 k)) := (ap_cons _ (ap_cons _ (ap_cons _ (Eq.trans (ap_blkb (C := (f13_C_b6 k)) (fun _ => rfl)) (ap_cons _ (f13_f_b6 k))))))
noncomputable def f13_F_r18 (k : Nat) (G_l6 G_b6 G_c19 : f13_S) : f13_L := .c (f13_p 129639) 7 :: .j G_c19 :: f13_F_c19 k G_l6 G_b6
theorem f13_f_r18 (k : Nat) (R_l6 : f13_S) : f13_a k (f13_Q_r18 k R_l6) = f13_a k (f13_F_r18 k R_l6 (f13_C_b6 k) (f13_C_c19 k R_l6)) := (ap_cons _ (Eq.trans (ap_pass (C := (f13_C_c19 k R_l6)) (fun _ => rfl)) (ap_cons _ (f13_f_c19 k R_l6))))
noncomputable def f13_F_l6 (k : Nat) (G_l6 G_b6 G_r18 G_c19 : f13_S) : f13_L := .c (f13_p 2024) 6 :: .c (f13_p 4050) 6 :: .j (fun σ => f13_a k (.c (f13_p 32408) 7 :: .c (f13_p 64818) 7 :: .c (f13_p 129638) 7 :: .j G_r18 :: f13_F_r18 k G_l6 G_b6 G_c19) .nx σ) :: .c (f13_p 8103) 6 :: .j (fun σ => G_l6 (cut f13_A.loops 6 σ)) :: .b 6 (fun σ => G_b6 (cut f13_A.blks 6 σ)) :: f13_F_b6 k
theorem f13_f_l6 (k : Nat) (R_l6 : f13_S) : f13_a k (f13_Q_l6 k R_l6) = f13_a k (f13_F_l6 k R_l6 (f13_C_b6 k) (f13_C_r18 k R_l6) (f13_C_c19 k R_l6)) := (Eq.trans ap_sq (ap_cons _ (Eq.trans ap_sq (ap_cons _ (Eq.trans ap_sq (Eq.trans (ap_bl 7) (Eq.trans (ap_j (Eq.trans ap_sq (ap_cons _ (Eq.trans ap_sq (ap_cons _ (Eq.trans ap_sq (ap_cons _ (Eq.trans (ap_pass (C := (f13_C_r18 k R_l6)) (fun _ => rfl)) (ap_cons _ (f13_f_r18 k R_l6)))))))))) (ap_cons _ (ap_cons _ (ap_cons _ (Eq.trans (ap_blkb (C := (f13_C_b6 k)) (fun _ => rfl)) (ap_cons _ (f13_f_b6 k)))))))))))))
def f13_entry_B (k : Nat) (g_l0 : f13_t_l0) (a0 : (List Int)) : Option (Td12 × Unit) := (g_l0 a0 ([] : List (Int × Int)))
def f13_l0_B (k : Nat) (g_r3 : f13_t_r3) (y11_0 : (List Int)) (y39 : (List (Int × Int))) : Option (Td12 × Unit) := ((f43 k y11_0 7).bind fun r1 => (if (y39.length : Int) < (w64 (2 + r1.2.1)) then (g_r3 r1.1.1.1 y39 true) else (g_r3 r1.1.1.1 y39 (decide ((y39.length : Int) < 2)))))
def f13_r3_B (k : Nat) (g_l2 : f13_t_l2) (g_l4 : f13_t_l4) (y11_0 : (List Int)) (y39 : (List (Int × Int))) (x24 : Bool) : Option (Td12 × Unit) := (if x24 = true then ((f44 k y11_0).bind fun r1 => (g_l2 r1.1.1.1 y39 r1.2.1.1 r1.2.1.2)) else ((f43 k y11_0 17).bind fun r2 => (g_l4 r2.1.1.1 y39 ([] : List (Int × (Int × (Int × Int)))) r2.2.1 0)))
def f13_l2_B (k : Nat) (g_l0 : f13_t_l0) (g_l2 : f13_t_l2) (y11_0 : (List Int)) (y39 : (List (Int × Int))) (y5_0 : Int) (y5_1 : Int) : Option (Td12 × Unit) := ((f45 k y39 (y5_0, y5_1)).bind fun r1 => (if r1.1 = true then (g_l2 y11_0 y39 (w64 (y5_0 + 1)) y5_1) else (if (y39.length + 1) * 16 ≤ 140737488355328 then (g_l0 y11_0 (y39 ++ [(y5_0, y5_1)])) else none)))
def f13_l4_B (k : Nat) (g_c12 : f13_t_c12) (g_l6 : f13_t_l6) (y11_0 : (List Int)) (y39 : (List (Int × Int))) (y69 : (List (Int × (Int × (Int × Int))))) (x42 : Int) (x43 : Int) : Option (Td12 × Unit) := (if x43 < x42 then ((f43 k y11_0 (y39.length : Int)).bind fun r1 => ((f43 k r1.1.1.1 (y39.length : Int)).bind fun r2 => (if ¬ (r1.2.1 = r2.2.1) then ((f43 k r2.1.1.1 20).bind fun r3 => ((f43 k r3.1.1.1 5).bind fun r4 => (if (y69.length + 1) * 32 ≤ 140737488355328 then (g_c12 r4.1.1.1 y39 (y69 ++ [(r1.2.1, (r2.2.1, (w64 (1 + r3.2.1), r4.2.1)))]) x42 x43) else none))) else (g_c12 r2.1.1.1 y39 y69 x42 x43)))) else ((f43 k y11_0 4).bind fun r5 => (g_l6 r5.1.1.1 ([] : List (Int × Int)) y39 y69 r5.2.1 0)))
def f13_c12_B (k : Nat) (g_l4 : f13_t_l4) (y11_0 : (List Int)) (y39 : (List (Int × Int))) (y69 : (List (Int × (Int × (Int × Int))))) (x42 : Int) (x43 : Int) : Option (Td12 × Unit) := (g_l4 y11_0 y39 y69 x42 (w64 (x43 + 1)))
def f13_l6_B (k : Nat) (g_b6 : f13_t_b6) (g_r18 : f13_t_r18) (y11_0 : (List Int)) (y117 : (List (Int × Int))) (y39 : (List (Int × Int))) (y69 : (List (Int × (Int × (Int × Int))))) (x73 : Int) (x74 : Int) : Option (Td12 × Unit) := (if x74 < x73 then (if (y69.length : Int) = 0 then (g_b6 y117 y39 y69) else ((f43 k y11_0 (y69.length : Int)).bind fun r1 => ((f43 k r1.1.1.1 (y69.length : Int)).bind fun r2 => (if 0 ≤ r1.2.1 then (if r1.2.1 < (y69.length : Int) then (if 0 ≤ r2.2.1 then (if r2.2.1 < (y69.length : Int) then (if (((y69.getD ((r1.2.1).toNat) (0, (0, (0, 0)))).2).1) = ((y69.getD ((r2.2.1).toNat) (0, (0, (0, 0)))).1) then ((f46 k y117 (r1.2.1, r2.2.1)).bind fun r3 => (g_r18 r2.1.1.1 y117 y39 y69 r1.2.1 r2.2.1 (decide (¬ (r3.1 = true))) x73 x74)) else (g_r18 r2.1.1.1 y117 y39 y69 r1.2.1 r2.2.1 false x73 x74)) else none) else none) else none) else none)))) else (g_b6 y117 y39 y69))
def f13_b6_B (k : Nat) (y117 : (List (Int × Int))) (y39 : (List (Int × Int))) (y69 : (List (Int × (Int × (Int × Int))))) : Option (Td12 × Unit) := ((f47 k y117 ()).bind fun r1 => some ((y39, (y69, r1.1.1)), ()))
def f13_r18_B (k : Nat) (g_c19 : f13_t_c19) (y11_0 : (List Int)) (y117 : (List (Int × Int))) (y39 : (List (Int × Int))) (y69 : (List (Int × (Int × (Int × Int))))) (y8_0 : Int) (y8_1 : Int) (x112 : Bool) (x73 : Int) (x74 : Int) : Option (Td12 × Unit) := (if x112 = true then (if (y117.length + 1) * 16 ≤ 140737488355328 then (g_c19 y11_0 (y117 ++ [(y8_0, y8_1)]) y39 y69 x73 x74) else none) else (g_c19 y11_0 y117 y39 y69 x73 x74))
def f13_c19_B (k : Nat) (g_l6 : f13_t_l6) (y11_0 : (List Int)) (y117 : (List (Int × Int))) (y39 : (List (Int × Int))) (y69 : (List (Int × (Int × (Int × Int))))) (x73 : Int) (x74 : Int) : Option (Td12 × Unit) := (g_l6 y11_0 y117 y39 y69 x73 (w64 (x74 + 1)))
theorem f13_l2_P (k : Nat) (G_l0 G_l2 G_l4 G_l6 G_b6 : f13_S) : f13_o_l2 (fun σ => f13_a k (f13_F_l2 k G_l0 G_l2 G_l4 G_l6 G_b6) .nx σ) = f13_l2_B k (f13_o_l0 G_l0) (f13_o_l2 G_l2) := by kernel_rfl
def f13_l2 (k : Nat) (r_l0 : f13_t_l0) : Nat → f13_t_l2
  | 0 => fun _ _ _ _ => none
  | n + 1 => f13_l2_B k r_l0 (f13_l2 k r_l0 n)
theorem f13_l2_E (k : Nat) (R_l0 : f13_S) : ∀ n, f13_o_l2 (f13_C_l2 k R_l0 n) = f13_l2 k (f13_o_l0 R_l0) n
  | 0 => rfl
  | n + 1 =>
    Eq.trans (congrArg f13_o_l2 (Eq.trans (b := fun σ => f13_a k (f13_Q_l2 k R_l0 (f13_C_l2 k R_l0 n)) .nx σ) (by kernel_rfl) (ap_fn (f13_f_l2 k R_l0 (f13_C_l2 k R_l0 n))))) ((f13_l2_P k R_l0 (f13_C_l2 k R_l0 n) (f13_C_l4 k k) (f13_C_l6 k k) (f13_C_b6 k)).trans (by rw [f13_l2_E k R_l0 n] <;> rfl))
theorem f13_c12_P (k : Nat) (G_l4 G_l6 G_b6 : f13_S) : f13_o_c12 (fun σ => f13_a k (f13_F_c12 k G_l4 G_l6 G_b6) .nx σ) = f13_c12_B k (f13_o_l4 G_l4) := by kernel_rfl
def f13_c12 (k : Nat) (r_l4 : f13_t_l4) : f13_t_c12 := f13_c12_B k r_l4
theorem f13_c12_E (k : Nat) (R_l4 : f13_S) : f13_o_c12 (f13_C_c12 k R_l4) = f13_c12 k (f13_o_l4 R_l4) :=
  Eq.trans (congrArg f13_o_c12 (ap_fn (f13_f_c12 k R_l4))) ((f13_c12_P k R_l4 (f13_C_l6 k k) (f13_C_b6 k)).trans (by rfl))
theorem f13_b6_P (k : Nat) : f13_o_b6 (fun σ => f13_a k (f13_F_b6 k) .nx σ) = f13_b6_B k := by kernel_rfl
def f13_b6 (k : Nat) : f13_t_b6 := f13_b6_B k
theorem f13_b6_E (k : Nat) : f13_o_b6 (f13_C_b6 k) = f13_b6 k :=
  Eq.trans (congrArg f13_o_b6 (ap_fn (f13_f_b6 k))) ((f13_b6_P k).trans (by rfl))
theorem f13_c19_P (k : Nat) (G_l6 G_b6 : f13_S) : f13_o_c19 (fun σ => f13_a k (f13_F_c19 k G_l6 G_b6) .nx σ) = f13_c19_B k (f13_o_l6 G_l6) := by kernel_rfl
def f13_c19 (k : Nat) (r_l6 : f13_t_l6) : f13_t_c19 := f13_c19_B k r_l6
theorem f13_c19_E (k : Nat) (R_l6 : f13_S) : f13_o_c19 (f13_C_c19 k R_l6) = f13_c19 k (f13_o_l6 R_l6) :=
  Eq.trans (congrArg f13_o_c19 (ap_fn (f13_f_c19 k R_l6))) ((f13_c19_P k R_l6 (f13_C_b6 k)).trans (by rfl))
theorem f13_r18_P (k : Nat) (G_l6 G_b6 G_c19 : f13_S) : f13_o_r18 (fun σ => f13_a k (f13_F_r18 k G_l6 G_b6 G_c19) .nx σ) = f13_r18_B k (f13_o_c19 G_c19) := by kernel_rfl
def f13_r18 (k : Nat) (r_l6 : f13_t_l6) : f13_t_r18 := f13_r18_B k (f13_c19 k r_l6)
theorem f13_r18_E (k : Nat) (R_l6 : f13_S) : f13_o_r18 (f13_C_r18 k R_l6) = f13_r18 k (f13_o_l6 R_l6) :=
  Eq.trans (congrArg f13_o_r18 (ap_fn (f13_f_r18 k R_l6))) ((f13_r18_P k R_l6 (f13_C_b6 k) (f13_C_c19 k R_l6)).trans (by rw [f13_c19_E k R_l6] <;> rfl))
theorem f13_l6_P (k : Nat) (G_l6 G_b6 G_r18 G_c19 : f13_S) : f13_o_l6 (fun σ => f13_a k (f13_F_l6 k G_l6 G_b6 G_r18 G_c19) .nx σ) = f13_l6_B k (f13_o_b6 G_b6) (f13_o_r18 G_r18) := by kernel_rfl
def f13_l6 (k : Nat) : Nat → f13_t_l6
  | 0 => fun _ _ _ _ _ _ => none
  | n + 1 => f13_l6_B k (f13_b6 k) (f13_r18 k (f13_l6 k n))
theorem f13_l6_E (k : Nat) : ∀ n, f13_o_l6 (f13_C_l6 k n) = f13_l6 k n
  | 0 => rfl
  | n + 1 =>
    Eq.trans (congrArg f13_o_l6 (Eq.trans (b := fun σ => f13_a k (f13_Q_l6 k (f13_C_l6 k n)) .nx σ) (by kernel_rfl) (ap_fn (f13_f_l6 k (f13_C_l6 k n))))) ((f13_l6_P k (f13_C_l6 k n) (f13_C_b6 k) (f13_C_r18 k (f13_C_l6 k n)) (f13_C_c19 k (f13_C_l6 k n))).trans (by rw [f13_b6_E k, f13_r18_E k (f13_C_l6 k n), f13_l6_E k n] <;> rfl))
theorem f13_l4_P (k : Nat) (G_l4 G_c12 G_l6 G_b6 : f13_S) : f13_o_l4 (fun σ => f13_a k (f13_F_l4 k G_l4 G_c12 G_l6 G_b6) .nx σ) = f13_l4_B k (f13_o_c12 G_c12) (f13_o_l6 G_l6) := by kernel_rfl
def f13_l4 (k : Nat) : Nat → f13_t_l4
  | 0 => fun _ _ _ _ _ => none
  | n + 1 => f13_l4_B k (f13_c12 k (f13_l4 k n)) (f13_l6 k k)
theorem f13_l4_E (k : Nat) : ∀ n, f13_o_l4 (f13_C_l4 k n) = f13_l4 k n
  | 0 => rfl
  | n + 1 =>
    Eq.trans (congrArg f13_o_l4 (Eq.trans (b := fun σ => f13_a k (f13_Q_l4 k (f13_C_l4 k n)) .nx σ) (by kernel_rfl) (ap_fn (f13_f_l4 k (f13_C_l4 k n))))) ((f13_l4_P k (f13_C_l4 k n) (f13_C_c12 k (f13_C_l4 k n)) (f13_C_l6 k k) (f13_C_b6 k)).trans (by rw [f13_c12_E k (f13_C_l4 k n), f13_l6_E k k, f13_l4_E k n] <;> rfl))
theorem f13_r3_P (k : Nat) (G_l0 G_l2 G_l4 G_l6 G_b6 : f13_S) : f13_o_r3 (fun σ => f13_a k (f13_F_r3 k G_l0 G_l2 G_l4 G_l6 G_b6) .nx σ) = f13_r3_B k (f13_o_l2 G_l2) (f13_o_l4 G_l4) := by kernel_rfl
def f13_r3 (k : Nat) (r_l0 : f13_t_l0) : f13_t_r3 := f13_r3_B k (f13_l2 k r_l0 k) (f13_l4 k k)
theorem f13_r3_E (k : Nat) (R_l0 : f13_S) : f13_o_r3 (f13_C_r3 k R_l0) = f13_r3 k (f13_o_l0 R_l0) :=
  Eq.trans (congrArg f13_o_r3 (ap_fn (f13_f_r3 k R_l0))) ((f13_r3_P k R_l0 (f13_C_l2 k R_l0 k) (f13_C_l4 k k) (f13_C_l6 k k) (f13_C_b6 k)).trans (by rw [f13_l2_E k R_l0 k, f13_l4_E k k] <;> rfl))
theorem f13_l0_P (k : Nat) (G_l0 G_r3 G_l2 G_l4 G_l6 G_b6 : f13_S) : f13_o_l0 (fun σ => f13_a k (f13_F_l0 k G_l0 G_r3 G_l2 G_l4 G_l6 G_b6) .nx σ) = f13_l0_B k (f13_o_r3 G_r3) := by kernel_rfl
def f13_l0 (k : Nat) : Nat → f13_t_l0
  | 0 => fun _ _ => none
  | n + 1 => f13_l0_B k (f13_r3 k (f13_l0 k n))
theorem f13_l0_E (k : Nat) : ∀ n, f13_o_l0 (f13_C_l0 k n) = f13_l0 k n
  | 0 => rfl
  | n + 1 =>
    Eq.trans (congrArg f13_o_l0 (Eq.trans (b := fun σ => f13_a k (f13_Q_l0 k (f13_C_l0 k n)) .nx σ) (by kernel_rfl) (ap_fn (f13_f_l0 k (f13_C_l0 k n))))) ((f13_l0_P k (f13_C_l0 k n) (f13_C_r3 k (f13_C_l0 k n)) (f13_C_l2 k (f13_C_l0 k n) k) (f13_C_l4 k k) (f13_C_l6 k k) (f13_C_b6 k)).trans (by rw [f13_r3_E k (f13_C_l0 k n), f13_l0_E k n] <;> rfl))
theorem f13_entry_P (k : Nat) (G_l0 G_l4 G_l6 G_b6 : f13_S) (xs : DL f13_sig) : f13_a k (.c (f13_p 2) 0 :: .c (f13_p 6) 0 :: .c (f13_p 14) 0 :: .j (fun σ => f13_a k (.j (fun σ => G_l0 (cut f13_A.loops 0 σ)) :: .blk 0 :: .c (f13_p 124) 0 :: .j (fun σ => f13_a k (.j (fun σ => G_l4 (cut f13_A.loops 4 σ)) :: .blk 4 :: .c (f13_p 252) 0 :: .j (fun σ => f13_a k (.j (fun σ => G_l6 (cut f13_A.loops 6 σ)) :: .b 6 (fun σ => G_b6 (cut f13_A.blks 6 σ)) :: f13_F_b6 k) .nx σ) :: f13_F_b6 k) .nx σ) :: .c (f13_p 252) 0 :: .j (fun σ => f13_a k (.j (fun σ => G_l6 (cut f13_A.loops 6 σ)) :: .b 6 (fun σ => G_b6 (cut f13_A.blks 6 σ)) :: f13_F_b6 k) .nx σ) :: f13_F_b6 k) .nx σ) :: .c (f13_p 124) 0 :: .j (fun σ => f13_a k (.j (fun σ => G_l4 (cut f13_A.loops 4 σ)) :: .blk 4 :: .c (f13_p 252) 0 :: .j (fun σ => f13_a k (.j (fun σ => G_l6 (cut f13_A.loops 6 σ)) :: .b 6 (fun σ => G_b6 (cut f13_A.blks 6 σ)) :: f13_F_b6 k) .nx σ) :: f13_F_b6 k) .nx σ) :: .c (f13_p 252) 0 :: .j (fun σ => f13_a k (.j (fun σ => G_l6 (cut f13_A.loops 6 σ)) :: .b 6 (fun σ => G_b6 (cut f13_A.blks 6 σ)) :: f13_F_b6 k) .nx σ) :: f13_F_b6 k) .nx (σ0 124 384 f13_sig xs) = f13_entry_B k (f13_o_l0 G_l0) xs.1 := by kernel_rfl
def f13 (k : Nat) (a0 : (List Int)) : Option (Td12 × Unit) := f13_entry_B k (f13_l0 k k) a0
theorem f13_fe (k : Nat) : f13_a k [.c (f13_p 1) 0] = f13_a k (.c (f13_p 2) 0 :: .c (f13_p 6) 0 :: .c (f13_p 14) 0 :: .j (fun σ => f13_a k (.j (fun σ => (f13_C_l0 k k) (cut f13_A.loops 0 σ)) :: .blk 0 :: .c (f13_p 124) 0 :: .j (fun σ => f13_a k (.j (fun σ => (f13_C_l4 k k) (cut f13_A.loops 4 σ)) :: .blk 4 :: .c (f13_p 252) 0 :: .j (fun σ => f13_a k (.j (fun σ => (f13_C_l6 k k) (cut f13_A.loops 6 σ)) :: .b 6 (fun σ => (f13_C_b6 k) (cut f13_A.blks 6 σ)) :: f13_F_b6 k) .nx σ) :: f13_F_b6 k) .nx σ) :: .c (f13_p 252) 0 :: .j (fun σ => f13_a k (.j (fun σ => (f13_C_l6 k k) (cut f13_A.loops 6 σ)) :: .b 6 (fun σ => (f13_C_b6 k) (cut f13_A.blks 6 σ)) :: f13_F_b6 k) .nx σ) :: f13_F_b6 k) .nx σ) :: .c (f13_p 124) 0 :: .j (fun σ => f13_a k (.j (fun σ => (f13_C_l4 k k) (cut f13_A.loops 4 σ)) :: .blk 4 :: .c (f13_p 252) 0 :: .j (fun σ => f13_a k (.j (fun σ => (f13_C_l6 k k) (cut f13_A.loops 6 σ)) :: .b 6 (fun σ => (f13_C_b6 k) (cut f13_A.blks 6 σ)) :: f13_F_b6 k) .nx σ) :: f13_F_b6 k) .nx σ) :: .c (f13_p 252) 0 :: .j (fun σ => f13_a k (.j (fun σ => (f13_C_l6 k k) (cut f13_A.loops 6 σ)) :: .b 6 (fun σ => (f13_C_b6 k) (cut f13_A.blks 6 σ)) :: f13_F_b6 k) .nx σ) :: f13_F_b6 k) := (Eq.trans ap_sq (ap_cons _ (Eq.trans ap_sq (ap_cons _ (Eq.trans ap_sq (ap_cons _ (Eq.trans ap_sq (Eq.trans (ap_bl 0) (Eq.trans (ap_j (Eq.trans (ap_lp (C := (f13_C_l0 k)) (fun _ _ => rfl)) (ap_cons _ (ap_cons _ (Eq.trans ap_sq (Eq.trans ap_sq (ap_cons _ (Eq.trans (ap_bl 4) (Eq.trans (ap_j (Eq.trans (ap_lp (C := (f13_C_l4 k)) (fun _ _ => rfl)) (ap_cons _ (ap_cons _ (Eq.trans ap_sq (Eq.trans ap_sq (ap_cons _ (Eq.trans (ap_bl 6) (Eq.trans (ap_j (Eq.trans (ap_lp (C := (f13_C_l6 k)) (fun _ _ => rfl)) (ap_cons _ (Eq.trans (ap_blkb (C := (f13_C_b6 k)) (fun _ => rfl)) (ap_cons _ (f13_f_b6 k)))))) (ap_cons _ (f13_f_b6 k))))))))))) (ap_cons _ (Eq.trans ap_sq (Eq.trans ap_sq (ap_cons _ (Eq.trans (ap_bl 6) (Eq.trans (ap_j (Eq.trans (ap_lp (C := (f13_C_l6 k)) (fun _ _ => rfl)) (ap_cons _ (Eq.trans (ap_blkb (C := (f13_C_b6 k)) (fun _ => rfl)) (ap_cons _ (f13_f_b6 k)))))) (ap_cons _ (f13_f_b6 k))))))))))))))))) (ap_cons _ (Eq.trans ap_sq (Eq.trans ap_sq (ap_cons _ (Eq.trans (ap_bl 4) (Eq.trans (ap_j (Eq.trans (ap_lp (C := (f13_C_l4 k)) (fun _ _ => rfl)) (ap_cons _ (ap_cons _ (Eq.trans ap_sq (Eq.trans ap_sq (ap_cons _ (Eq.trans (ap_bl 6) (Eq.trans (ap_j (Eq.trans (ap_lp (C := (f13_C_l6 k)) (fun _ _ => rfl)) (ap_cons _ (Eq.trans (ap_blkb (C := (f13_C_b6 k)) (fun _ => rfl)) (ap_cons _ (f13_f_b6 k)))))) (ap_cons _ (f13_f_b6 k))))))))))) (ap_cons _ (Eq.trans ap_sq (Eq.trans ap_sq (ap_cons _ (Eq.trans (ap_bl 6) (Eq.trans (ap_j (Eq.trans (ap_lp (C := (f13_C_l6 k)) (fun _ _ => rfl)) (ap_cons _ (Eq.trans (ap_blkb (C := (f13_C_b6 k)) (fun _ => rfl)) (ap_cons _ (f13_f_b6 k)))))) (ap_cons _ (f13_f_b6 k)))))))))))))))))))))))
theorem f13_eq (k : Nat) (xs : DL f13_sig) : den T f13_Y (f13_E k) f13_A k f13_c 0 (σ0 124 384 f13_sig xs) (Kfin T f13_rs f13_ts) = f13 k xs.1 :=
  Eq.trans (Eq.trans den_sb (ap_at (f13_fe k) _)) ((f13_entry_P k (f13_C_l0 k k) (f13_C_l4 k k) (f13_C_l6 k k) (f13_C_b6 k) xs).trans (by rw [f13_l0_E k k] <;> rfl))
noncomputable def f13_con (k : Nat) : Con := ⟨f13_sig, f13_rs, fun xs => f13 k xs.1⟩
theorem f13_ok (k : Nat) : PureOK Try.prog 13 f13_sig f13_rs (fun xs => f13 k xs.1) :=
  (pure_of_den (k := k) (A := f13_A) (T := T) (Y := f13_Y) (E := f13_E k) (M := 384) (ts := f13_ts) T_ok ⟨f43_ok k, f44_ok k, f45_ok k, f46_ok k, f47_ok k, trivial⟩ ⟨f43_ent, f44_ent, f45_ent, f46_ent, f47_ent, trivial⟩ mixed (f := 13) (fn := Try.f13) (c := f13_c) (by kernel_rfl) (by kernel_rfl) (by kernel_rfl) (by decide) (by kernel_rfl)).congr fun xs => (f13_eq k xs).symm
theorem f13_ent : Ent Try.prog 13 := fun args w => by kernel_rfl
/-! ### terrier/net.edge: function 62 -/
noncomputable def f62_c : Code := Try.f62.body.getD .skip
noncomputable abbrev f62_p (n : Nat) : Code := sb f62_c n
abbrev f62_sig : List PT := [(true, Tq9), (false, (.int .i64))]
abbrev f62_rs : List RT := [.d false .bool]
abbrev f62_ts : List RV := [.tmp 4]
abbrev f62_S := St → Option (RDL f62_rs)
abbrev f62_L := List (Fr (RDL f62_rs))
def f62_Y : Tys := []
noncomputable def f62_E (k : Nat) : Env := []
def f62_A : Ann := { regs := [(1, { slots := [(4, .bool)] })] }
noncomputable abbrev f62_a (k : Nat) (F : f62_L) : Kont (RDL f62_rs) := ap T f62_Y (f62_E k) f62_A k (Kfin T f62_rs f62_ts) F
def f62_s_r1 (x4 : Bool) : St := mkS 14 48 [(4, aB x4)] []
abbrev f62_t_r1 := Bool → Option (Bool × Unit)
abbrev f62_o_r1 (R : f62_S) : f62_t_r1 := (fun x4 => R (f62_s_r1 x4))
noncomputable def f62_Q_r1 (k : Nat) : f62_L := [.c (f62_p 7) 0]
noncomputable def f62_C_r1 (k : Nat) : f62_S := fun σ => f62_a k (f62_Q_r1 k) .nx σ
noncomputable def f62_F_r1 (k : Nat) : f62_L := .c (f62_p 7) 0 :: []
theorem f62_f_r1 (k : Nat) : f62_a k (f62_Q_r1 k) = f62_a k (f62_F_r1 k) := (ap_cons _ rfl)
def f62_entry_B (k : Nat) (g_r1 : f62_t_r1) (a0 : Td12) (a1 : Int) : Option (Bool × Unit) := (if 0 ≤ a1 then (g_r1 (decide (a1 < (a0.2.1.length : Int)))) else (g_r1 false))
def f62_r1_B (k : Nat) (x4 : Bool) : Option (Bool × Unit) := some (decide (x4 = true), ())
theorem f62_r1_P (k : Nat) : f62_o_r1 (fun σ => f62_a k (f62_F_r1 k) .nx σ) = f62_r1_B k := by kernel_rfl
def f62_r1 (k : Nat) : f62_t_r1 := f62_r1_B k
theorem f62_r1_E (k : Nat) : f62_o_r1 (f62_C_r1 k) = f62_r1 k :=
  Eq.trans (congrArg f62_o_r1 (ap_fn (f62_f_r1 k))) ((f62_r1_P k).trans (by rfl))
theorem f62_entry_P (k : Nat) (G_r1 : f62_S) (xs : DL f62_sig) : f62_a k (.c (f62_p 2) 0 :: .c (f62_p 6) 0 :: .j G_r1 :: f62_F_r1 k) .nx (σ0 14 48 f62_sig xs) = f62_entry_B k (f62_o_r1 G_r1) xs.1 xs.2.1 := by kernel_rfl
def f62 (k : Nat) (a0 : Td12) (a1 : Int) : Option (Bool × Unit) := f62_entry_B k (f62_r1 k) a0 a1
theorem f62_fe (k : Nat) : f62_a k [.c (f62_p 1) 0] = f62_a k (.c (f62_p 2) 0 :: .c (f62_p 6) 0 :: .j (f62_C_r1 k) :: f62_F_r1 k) := (Eq.trans ap_sq (ap_cons _ (Eq.trans ap_sq (ap_cons _ (Eq.trans (ap_pass (C := (f62_C_r1 k)) (fun _ => rfl)) (ap_cons _ (f62_f_r1 k)))))))
theorem f62_eq (k : Nat) (xs : DL f62_sig) : den T f62_Y (f62_E k) f62_A k f62_c 0 (σ0 14 48 f62_sig xs) (Kfin T f62_rs f62_ts) = f62 k xs.1 xs.2.1 :=
  Eq.trans (Eq.trans den_sb (ap_at (f62_fe k) _)) ((f62_entry_P k (f62_C_r1 k) xs).trans (by rw [f62_r1_E k] <;> rfl))
noncomputable def f62_con (k : Nat) : Con := ⟨f62_sig, f62_rs, fun xs => f62 k xs.1 xs.2.1⟩
theorem f62_ok (k : Nat) : PureOK Try.prog 62 f62_sig f62_rs (fun xs => f62 k xs.1 xs.2.1) :=
  (pure_of_den (k := k) (A := f62_A) (T := T) (Y := f62_Y) (E := f62_E k) (M := 48) (ts := f62_ts) T_ok trivial trivial mixed (f := 62) (fn := Try.f62) (c := f62_c) (by kernel_rfl) (by kernel_rfl) (by kernel_rfl) (by decide) (by kernel_rfl)).congr fun xs => (f62_eq k xs).symm
theorem f62_ent : Ent Try.prog 62 := fun args w => by kernel_rfl
/-! ### terrier/point.limit: function 105 -/
noncomputable def f105_c : Code := Try.f105.body.getD .skip
noncomputable abbrev f105_p (n : Nat) : Code := sb f105_c n
abbrev f105_sig : List PT := [(false, (.int .i64)), (false, (.int .i64))]
abbrev f105_rs : List RT := [.d false (.int .i64)]
abbrev f105_ts : List RV := [.tmp 4]
abbrev f105_S := St → Option (RDL f105_rs)
abbrev f105_L := List (Fr (RDL f105_rs))
def f105_Y : Tys := []
noncomputable def f105_E (k : Nat) : Env := []
def f105_A : Ann := {}
noncomputable abbrev f105_a (k : Nat) (F : f105_L) : Kont (RDL f105_rs) := ap T f105_Y (f105_E k) f105_A k (Kfin T f105_rs f105_ts) F
def f105_entry_B (k : Nat) (a0 : Int) (a1 : Int) : Option (Int × Unit) := some ((mx2 true (w64 (0 - a1)) (mx2 false a0 a1)), ())
theorem f105_entry_P (k : Nat) (xs : DL f105_sig) : f105_a k (.c (f105_p 1) 0 :: []) .nx (σ0 11 48 f105_sig xs) = f105_entry_B k xs.1 xs.2.1 := by kernel_rfl
def f105 (k : Nat) (a0 : Int) (a1 : Int) : Option (Int × Unit) := f105_entry_B k a0 a1
theorem f105_eq (k : Nat) (xs : DL f105_sig) : den T f105_Y (f105_E k) f105_A k f105_c 0 (σ0 11 48 f105_sig xs) (Kfin T f105_rs f105_ts) = f105 k xs.1 xs.2.1 :=
  Eq.trans (Eq.trans den_sb (ap_at (ap_cons _ rfl) _)) ((f105_entry_P k xs).trans (by rfl))
noncomputable def f105_con (k : Nat) : Con := ⟨f105_sig, f105_rs, fun xs => f105 k xs.1 xs.2.1⟩
theorem f105_ok (k : Nat) : PureOK Try.prog 105 f105_sig f105_rs (fun xs => f105 k xs.1 xs.2.1) :=
  (pure_of_den (k := k) (A := f105_A) (T := T) (Y := f105_Y) (E := f105_E k) (M := 48) (ts := f105_ts) T_ok trivial trivial mixed (f := 105) (fn := Try.f105) (c := f105_c) (by kernel_rfl) (by kernel_rfl) (by kernel_rfl) (by decide) (by kernel_rfl)).congr fun xs => (f105_eq k xs).symm
theorem f105_ent : Ent Try.prog 105 := fun args w => by kernel_rfl
/-! ### terrier/point.Clamp: function 76 -/
noncomputable def f76_c : Code := Try.f76.body.getD .skip
noncomputable abbrev f76_p (n : Nat) : Code := sb f76_c n
abbrev f76_sig : List PT := [(true, Tq2)]
abbrev f76_rs : List RT := [.d true Tq2]
abbrev f76_ts : List RV := [.cell 2 36]
abbrev f76_S := St → Option (RDL f76_rs)
abbrev f76_L := List (Fr (RDL f76_rs))
def f76_Y : Tys := []
noncomputable def f76_E (k : Nat) : Env := [(105, .c (f105_con k))]
def f76_A : Ann := {}
noncomputable abbrev f76_a (k : Nat) (F : f76_L) : Kont (RDL f76_rs) := ap T f76_Y (f76_E k) f76_A k (Kfin T f76_rs f76_ts) F
def f76_entry_B (k : Nat) (a0 : (Int × Int)) : Option ((Int × Int) × Unit) := ((f105 k a0.1 1048576).bind fun r1 => ((f105 k a0.2 1048576).bind fun r2 => some ((r1.1, r2.1), ())))
theorem f76_entry_P (k : Nat) (xs : DL f76_sig) : f76_a k (.c (f76_p 1) 0 :: []) .nx (σ0 10 32 f76_sig xs) = f76_entry_B k xs.1 := by kernel_rfl
def f76 (k : Nat) (a0 : (Int × Int)) : Option ((Int × Int) × Unit) := f76_entry_B k a0
theorem f76_eq (k : Nat) (xs : DL f76_sig) : den T f76_Y (f76_E k) f76_A k f76_c 0 (σ0 10 32 f76_sig xs) (Kfin T f76_rs f76_ts) = f76 k xs.1 :=
  Eq.trans (Eq.trans den_sb (ap_at (ap_cons _ rfl) _)) ((f76_entry_P k xs).trans (by rfl))
noncomputable def f76_con (k : Nat) : Con := ⟨f76_sig, f76_rs, fun xs => f76 k xs.1⟩
theorem f76_ok (k : Nat) : PureOK Try.prog 76 f76_sig f76_rs (fun xs => f76 k xs.1) :=
  (pure_of_den (k := k) (A := f76_A) (T := T) (Y := f76_Y) (E := f76_E k) (M := 32) (ts := f76_ts) T_ok ⟨f105_ok k, trivial⟩ ⟨f105_ent, trivial⟩ mixed (f := 76) (fn := Try.f76) (c := f76_c) (by kernel_rfl) (by kernel_rfl) (by kernel_rfl) (by decide) (by kernel_rfl)).congr fun xs => (f76_eq k xs).symm
theorem f76_ent : Ent Try.prog 76 := fun args w => by kernel_rfl
/-! ### terrier/point.Ok: function 72 -/
noncomputable def f72_c : Code := Try.f72.body.getD .skip
noncomputable abbrev f72_p (n : Nat) : Code := sb f72_c n
abbrev f72_sig : List PT := [(true, Tq2)]
abbrev f72_rs : List RT := [.d false .bool]
abbrev f72_ts : List RV := [.tmp 2]
abbrev f72_S := St → Option (RDL f72_rs)
abbrev f72_L := List (Fr (RDL f72_rs))
def f72_Y : Tys := []
noncomputable def f72_E (k : Nat) : Env := [(76, .c (f76_con k))]
def f72_A : Ann := {}
noncomputable abbrev f72_a (k : Nat) (F : f72_L) : Kont (RDL f72_rs) := ap T f72_Y (f72_E k) f72_A k (Kfin T f72_rs f72_ts) F
def f72_entry_B (k : Nat) (a0 : (Int × Int)) : Option (Bool × Unit) := ((f76 k (a0.1, a0.2)).bind fun r1 => some (decide ((a0.1 = r1.1.1) ∧ (a0.2 = r1.1.2)), ()))
theorem f72_entry_P (k : Nat) (xs : DL f72_sig) : f72_a k (.c (f72_p 1) 0 :: []) .nx (σ0 7 32 f72_sig xs) = f72_entry_B k xs.1 := by kernel_rfl
def f72 (k : Nat) (a0 : (Int × Int)) : Option (Bool × Unit) := f72_entry_B k a0
theorem f72_eq (k : Nat) (xs : DL f72_sig) : den T f72_Y (f72_E k) f72_A k f72_c 0 (σ0 7 32 f72_sig xs) (Kfin T f72_rs f72_ts) = f72 k xs.1 :=
  Eq.trans (Eq.trans den_sb (ap_at (ap_cons _ rfl) _)) ((f72_entry_P k xs).trans (by rfl))
noncomputable def f72_con (k : Nat) : Con := ⟨f72_sig, f72_rs, fun xs => f72 k xs.1⟩
theorem f72_ok (k : Nat) : PureOK Try.prog 72 f72_sig f72_rs (fun xs => f72 k xs.1) :=
  (pure_of_den (k := k) (A := f72_A) (T := T) (Y := f72_Y) (E := f72_E k) (M := 32) (ts := f72_ts) T_ok ⟨f76_ok k, trivial⟩ ⟨f76_ent, trivial⟩ mixed (f := 72) (fn := Try.f72) (c := f72_c) (by kernel_rfl) (by kernel_rfl) (by kernel_rfl) (by decide) (by kernel_rfl)).congr fun xs => (f72_eq k xs).symm
theorem f72_ent : Ent Try.prog 72 := fun args w => by kernel_rfl
/-! ### terrier/net.node: function 73 -/
noncomputable def f73_c : Code := Try.f73.body.getD .skip
noncomputable abbrev f73_p (n : Nat) : Code := sb f73_c n
abbrev f73_sig : List PT := [(true, Tq9), (false, (.int .i64))]
abbrev f73_rs : List RT := [.d false .bool]
abbrev f73_ts : List RV := [.tmp 4]
abbrev f73_S := St → Option (RDL f73_rs)
abbrev f73_L := List (Fr (RDL f73_rs))
def f73_Y : Tys := []
noncomputable def f73_E (k : Nat) : Env := []
def f73_A : Ann := { regs := [(1, { slots := [(4, .bool)] })] }
noncomputable abbrev f73_a (k : Nat) (F : f73_L) : Kont (RDL f73_rs) := ap T f73_Y (f73_E k) f73_A k (Kfin T f73_rs f73_ts) F
def f73_s_r1 (x4 : Bool) : St := mkS 14 48 [(4, aB x4)] []
abbrev f73_t_r1 := Bool → Option (Bool × Unit)
abbrev f73_o_r1 (R : f73_S) : f73_t_r1 := (fun x4 => R (f73_s_r1 x4))
noncomputable def f73_Q_r1 (k : Nat) : f73_L := [.c (f73_p 7) 0]
noncomputable def f73_C_r1 (k : Nat) : f73_S := fun σ => f73_a k (f73_Q_r1 k) .nx σ
noncomputable def f73_F_r1 (k : Nat) : f73_L := .c (f73_p 7) 0 :: []
theorem f73_f_r1 (k : Nat) : f73_a k (f73_Q_r1 k) = f73_a k (f73_F_r1 k) := (ap_cons _ rfl)
def f73_entry_B (k : Nat) (g_r1 : f73_t_r1) (a0 : Td12) (a1 : Int) : Option (Bool × Unit) := (if 0 ≤ a1 then (g_r1 (decide (a1 < (a0.1.length : Int)))) else (g_r1 false))
def f73_r1_B (k : Nat) (x4 : Bool) : Option (Bool × Unit) := some (decide (x4 = true), ())
theorem f73_r1_P (k : Nat) : f73_o_r1 (fun σ => f73_a k (f73_F_r1 k) .nx σ) = f73_r1_B k := by kernel_rfl
def f73_r1 (k : Nat) : f73_t_r1 := f73_r1_B k
theorem f73_r1_E (k : Nat) : f73_o_r1 (f73_C_r1 k) = f73_r1 k :=
  Eq.trans (congrArg f73_o_r1 (ap_fn (f73_f_r1 k))) ((f73_r1_P k).trans (by rfl))
theorem f73_entry_P (k : Nat) (G_r1 : f73_S) (xs : DL f73_sig) : f73_a k (.c (f73_p 2) 0 :: .c (f73_p 6) 0 :: .j G_r1 :: f73_F_r1 k) .nx (σ0 14 48 f73_sig xs) = f73_entry_B k (f73_o_r1 G_r1) xs.1 xs.2.1 := by kernel_rfl
def f73 (k : Nat) (a0 : Td12) (a1 : Int) : Option (Bool × Unit) := f73_entry_B k (f73_r1 k) a0 a1
theorem f73_fe (k : Nat) : f73_a k [.c (f73_p 1) 0] = f73_a k (.c (f73_p 2) 0 :: .c (f73_p 6) 0 :: .j (f73_C_r1 k) :: f73_F_r1 k) := (Eq.trans ap_sq (ap_cons _ (Eq.trans ap_sq (ap_cons _ (Eq.trans (ap_pass (C := (f73_C_r1 k)) (fun _ => rfl)) (ap_cons _ (f73_f_r1 k)))))))
theorem f73_eq (k : Nat) (xs : DL f73_sig) : den T f73_Y (f73_E k) f73_A k f73_c 0 (σ0 14 48 f73_sig xs) (Kfin T f73_rs f73_ts) = f73 k xs.1 xs.2.1 :=
  Eq.trans (Eq.trans den_sb (ap_at (f73_fe k) _)) ((f73_entry_P k (f73_C_r1 k) xs).trans (by rw [f73_r1_E k] <;> rfl))
noncomputable def f73_con (k : Nat) : Con := ⟨f73_sig, f73_rs, fun xs => f73 k xs.1 xs.2.1⟩
theorem f73_ok (k : Nat) : PureOK Try.prog 73 f73_sig f73_rs (fun xs => f73 k xs.1 xs.2.1) :=
  (pure_of_den (k := k) (A := f73_A) (T := T) (Y := f73_Y) (E := f73_E k) (M := 48) (ts := f73_ts) T_ok trivial trivial mixed (f := 73) (fn := Try.f73) (c := f73_c) (by kernel_rfl) (by kernel_rfl) (by kernel_rfl) (by decide) (by kernel_rfl)).congr fun xs => (f73_eq k xs).symm
theorem f73_ent : Ent Try.prog 73 := fun args w => by kernel_rfl
/-! ### terrier/net.Check: function 49 -/
noncomputable def f49_c : Code := Try.f49.body.getD .skip
noncomputable abbrev f49_p (n : Nat) : Code := sb f49_c n
abbrev f49_sig : List PT := [(true, Tq9)]
abbrev f49_rs : List RT := [.d false (.int .i64)]
abbrev f49_ts : List RV := [.tmp 2]
abbrev f49_S := St → Option (RDL f49_rs)
abbrev f49_L := List (Fr (RDL f49_rs))
def f49_Y : Tys := []
noncomputable def f49_E (k : Nat) : Env := [(45, .c (f45_con k)), (46, .c (f46_con k)), (62, .c (f62_con k)), (72, .c (f72_con k)), (73, .c (f73_con k))]
def f49_A : Ann := { regs := [(1, { slots := [(1, .id), (24, .bool)], keys := [(1, [.val false Tq2, .val false Tq6, .val false Tq2])] }), (14, { slots := [(1, .id), (6, .id), (44, .val false Tq6), (45, .id), (46, .id), (71, .bool)], keys := [(1, [.val false Tq2, .val false Tq6, .val false Tq2]), (6, [])] }), (22, { slots := [(1, .id), (7, .id), (8, .id), (79, .val false Tq2), (80, .id), (81, .id), (97, .bool)], keys := [(1, [.val false Tq2, .val false Tq6, .val false Tq2]), (8, [])] })], loops := [(0, { slots := [(1, .id), (26, .val false Tq2), (27, .id), (28, .id)], keys := [(1, [.val false Tq2, .val false Tq6, .val false Tq2])] }), (2, { slots := [(1, .id), (44, .val false Tq6), (45, .id), (46, .id)], keys := [(1, [.val false Tq2, .val false Tq6, .val false Tq2])] }), (4, { slots := [(1, .id), (79, .val false Tq2), (80, .id), (81, .id)], keys := [(1, [.val false Tq2, .val false Tq6, .val false Tq2])] })] }
noncomputable abbrev f49_a (k : Nat) (F : f49_L) : Kont (RDL f49_rs) := ap T f49_Y (f49_E k) f49_A k (Kfin T f49_rs f49_ts) F
def f49_s_r1 (y1_0 : (List (Int × Int))) (y1_1 : (List (Int × (Int × (Int × Int))))) (y1_2 : (List (Int × Int))) (x24 : Bool) : St := mkS 120 368 [(1, aP 1), (24, aB x24)] [(1, .box [cV Tq2 y1_0, cV Tq6 y1_1, cV Tq2 y1_2])]
abbrev f49_t_r1 := (List (Int × Int)) → (List (Int × (Int × (Int × Int)))) → (List (Int × Int)) → Bool → Option (Int × Unit)
abbrev f49_o_r1 (R : f49_S) : f49_t_r1 := (fun y1_0 y1_1 y1_2 x24 => R (f49_s_r1 y1_0 y1_1 y1_2 x24))
noncomputable def f49_Q_r1 (k : Nat) : f49_L := [.c (f49_p 13) 0, .c (f49_p 7) 0]
noncomputable def f49_C_r1 (k : Nat) : f49_S := fun σ => f49_a k (f49_Q_r1 k) .nx σ
def f49_s_l0 (y1_0 : (List (Int × Int))) (y1_1 : (List (Int × (Int × (Int × Int))))) (y1_2 : (List (Int × Int))) (x27 : Int) (x28 : Int) : St := mkS 120 368 [(1, aP 1), (26, aV Tq2 y1_0), (27, aI x27), (28, aI x28)] [(1, .box [cV Tq2 y1_0, cV Tq6 y1_1, cV Tq2 y1_2])]
abbrev f49_t_l0 := (List (Int × Int)) → (List (Int × (Int × (Int × Int)))) → (List (Int × Int)) → Int → Int → Option (Int × Unit)
abbrev f49_o_l0 (R : f49_S) : f49_t_l0 := (fun y1_0 y1_1 y1_2 x27 x28 => R (f49_s_l0 y1_0 y1_1 y1_2 x27 x28))
noncomputable def f49_Q_l0 (k : Nat) (R_l0 : f49_S) : f49_L := [.c (f49_p 116) 0, .j (fun σ => R_l0 (cut f49_A.loops 0 σ)), .blk 0, .c (f49_p 15) 0]
noncomputable def f49_C_l0 (k : Nat) (n : Nat) (σ : St) : Option (RDL f49_rs) := loopK (fun σ K => den T f49_Y (f49_E k) f49_A k (f49_p 116) 0 σ K) (cut f49_A.loops 0) (f49_a k [.blk 0, .c (f49_p 15) 0]) n σ
def f49_s_l2 (y1_0 : (List (Int × Int))) (y1_1 : (List (Int × (Int × (Int × Int))))) (y1_2 : (List (Int × Int))) (x45 : Int) (x46 : Int) : St := mkS 120 368 [(1, aP 1), (44, aV Tq6 y1_1), (45, aI x45), (46, aI x46)] [(1, .box [cV Tq2 y1_0, cV Tq6 y1_1, cV Tq2 y1_2])]
abbrev f49_t_l2 := (List (Int × Int)) → (List (Int × (Int × (Int × Int)))) → (List (Int × Int)) → Int → Int → Option (Int × Unit)
abbrev f49_o_l2 (R : f49_S) : f49_t_l2 := (fun y1_0 y1_1 y1_2 x45 x46 => R (f49_s_l2 y1_0 y1_1 y1_2 x45 x46))
noncomputable def f49_Q_l2 (k : Nat) (R_l2 : f49_S) : f49_L := [.c (f49_p 244) 2, .j (fun σ => R_l2 (cut f49_A.loops 2 σ)), .blk 2, .c (f49_p 31) 0]
noncomputable def f49_C_l2 (k : Nat) (n : Nat) (σ : St) : Option (RDL f49_rs) := loopK (fun σ K => den T f49_Y (f49_E k) f49_A k (f49_p 244) 2 σ K) (cut f49_A.loops 2) (f49_a k [.blk 2, .c (f49_p 31) 0]) n σ
def f49_s_r14 (y1_0 : (List (Int × Int))) (y1_1 : (List (Int × (Int × (Int × Int))))) (y1_2 : (List (Int × Int))) (y6_0 : Int) (y6_1 : Int) (y6_2 : Int) (y6_3 : Int) (x45 : Int) (x46 : Int) (x71 : Bool) : St := mkS 120 368 [(1, aP 1), (6, aP 6), (44, aV Tq6 y1_1), (45, aI x45), (46, aI x46), (71, aB x71)] [(1, .box [cV Tq2 y1_0, cV Tq6 y1_1, cV Tq2 y1_2]), (6, .box [cI y6_0, cI y6_1, cI y6_2, cI y6_3])]
abbrev f49_t_r14 := (List (Int × Int)) → (List (Int × (Int × (Int × Int)))) → (List (Int × Int)) → Int → Int → Int → Int → Int → Int → Bool → Option (Int × Unit)
abbrev f49_o_r14 (R : f49_S) : f49_t_r14 := (fun y1_0 y1_1 y1_2 y6_0 y6_1 y6_2 y6_3 x45 x46 x71 => R (f49_s_r14 y1_0 y1_1 y1_2 y6_0 y6_1 y6_2 y6_3 x45 x46 x71))
noncomputable def f49_Q_r14 (k : Nat) (R_l2 : f49_S) : f49_L := [.c (f49_p 31333) 3, .c (f49_p 15667) 3, .blk 3, .c (f49_p 1959) 2, .j (fun σ => R_l2 (cut f49_A.loops 2 σ)), .blk 2, .c (f49_p 31) 0]
noncomputable def f49_C_r14 (k : Nat) (R_l2 : f49_S) : f49_S := fun σ => f49_a k (f49_Q_r14 k R_l2) .nx σ
def f49_s_l4 (y1_0 : (List (Int × Int))) (y1_1 : (List (Int × (Int × (Int × Int))))) (y1_2 : (List (Int × Int))) (x80 : Int) (x81 : Int) : St := mkS 120 368 [(1, aP 1), (79, aV Tq2 y1_2), (80, aI x80), (81, aI x81)] [(1, .box [cV Tq2 y1_0, cV Tq6 y1_1, cV Tq2 y1_2])]
abbrev f49_t_l4 := (List (Int × Int)) → (List (Int × (Int × (Int × Int)))) → (List (Int × Int)) → Int → Int → Option (Int × Unit)
abbrev f49_o_l4 (R : f49_S) : f49_t_l4 := (fun y1_0 y1_1 y1_2 x80 x81 => R (f49_s_l4 y1_0 y1_1 y1_2 x80 x81))
noncomputable def f49_Q_l4 (k : Nat) (R_l4 : f49_S) : f49_L := [.c (f49_p 500) 4, .j (fun σ => R_l4 (cut f49_A.loops 4 σ)), .blk 4, .c (f49_p 63) 0]
noncomputable def f49_C_l4 (k : Nat) (n : Nat) (σ : St) : Option (RDL f49_rs) := loopK (fun σ K => den T f49_Y (f49_E k) f49_A k (f49_p 500) 4 σ K) (cut f49_A.loops 4) (f49_a k [.blk 4, .c (f49_p 63) 0]) n σ
def f49_s_r22 (y1_0 : (List (Int × Int))) (y1_1 : (List (Int × (Int × (Int × Int))))) (y1_2 : (List (Int × Int))) (y8_0 : Int) (y8_1 : Int) (x7 : Int) (x80 : Int) (x97 : Bool) : St := mkS 120 368 [(1, aP 1), (7, aI x7), (8, aP 8), (79, aV Tq2 y1_2), (80, aI x80), (81, aI x7), (97, aB x97)] [(1, .box [cV Tq2 y1_0, cV Tq6 y1_1, cV Tq2 y1_2]), (8, .box [cI y8_0, cI y8_1])]
abbrev f49_t_r22 := (List (Int × Int)) → (List (Int × (Int × (Int × Int)))) → (List (Int × Int)) → Int → Int → Int → Int → Bool → Option (Int × Unit)
abbrev f49_o_r22 (R : f49_S) : f49_t_r22 := (fun y1_0 y1_1 y1_2 y8_0 y8_1 x7 x80 x97 => R (f49_s_r22 y1_0 y1_1 y1_2 y8_0 y8_1 x7 x80 x97))
noncomputable def f49_Q_r22 (k : Nat) (R_l4 : f49_S) : f49_L := [.c (f49_p 64101) 5, .c (f49_p 32051) 5, .blk 5, .c (f49_p 4007) 4, .j (fun σ => R_l4 (cut f49_A.loops 4 σ)), .blk 4, .c (f49_p 63) 0]
noncomputable def f49_C_r22 (k : Nat) (R_l4 : f49_S) : f49_S := fun σ => f49_a k (f49_Q_r22 k R_l4) .nx σ
noncomputable def f49_F_r1 (k : Nat) (G_l0 G_l2 G_l4 : f49_S) : f49_L := .c (f49_p 13) 0 :: .c (f49_p 28) 0 :: .j (fun σ => f49_a k (.j (fun σ => G_l0 (cut f49_A.loops 0 σ)) :: .blk 0 :: .c (f49_p 60) 0 :: .j (fun σ => f49_a k (.j (fun σ => G_l2 (cut f49_A.loops 2 σ)) :: .blk 2 :: .c (f49_p 124) 0 :: .j (fun σ => f49_a k (.j (fun σ => G_l4 (cut f49_A.loops 4 σ)) :: .blk 4 :: .c (f49_p 63) 0 :: []) .nx σ) :: .c (f49_p 63) 0 :: []) .nx σ) :: .c (f49_p 124) 0 :: .j (fun σ => f49_a k (.j (fun σ => G_l4 (cut f49_A.loops 4 σ)) :: .blk 4 :: .c (f49_p 63) 0 :: []) .nx σ) :: .c (f49_p 63) 0 :: []) .nx σ) :: .c (f49_p 60) 0 :: .j (fun σ => f49_a k (.j (fun σ => G_l2 (cut f49_A.loops 2 σ)) :: .blk 2 :: .c (f49_p 124) 0 :: .j (fun σ => f49_a k (.j (fun σ => G_l4 (cut f49_A.loops 4 σ)) :: .blk 4 :: .c (f49_p 63) 0 :: []) .nx σ) :: .c (f49_p 63) 0 :: []) .nx σ) :: .c (f49_p 124) 0 :: .j (fun σ => f49_a k (.j (fun σ => G_l4 (cut f49_A.loops 4 σ)) :: .blk 4 :: .c (f49_p 63) 0 :: []) .nx σ) :: .c (f49_p 63) 0 :: []
theorem f49_f_r1 (k : Nat) : f49_a k (f49_Q_r1 k) = f49_a k (f49_F_r1 k (f49_C_l0 k k) (f49_C_l2 k k) (f49_C_l4 k k)) := (ap_cons _ (Eq.trans ap_sq (Eq.trans ap_sq (ap_cons _ (Eq.trans (ap_bl 0) (Eq.trans (ap_j (Eq.trans (ap_lp (C := (f49_C_l0 k)) (fun _ _ => rfl)) (ap_cons _ (ap_cons _ (Eq.trans ap_sq (Eq.trans ap_sq (ap_cons _ (Eq.trans (ap_bl 2) (Eq.trans (ap_j (Eq.trans (ap_lp (C := (f49_C_l2 k)) (fun _ _ => rfl)) (ap_cons _ (ap_cons _ (Eq.trans ap_sq (Eq.trans ap_sq (ap_cons _ (Eq.trans (ap_bl 4) (Eq.trans (ap_j (Eq.trans (ap_lp (C := (f49_C_l4 k)) (fun _ _ => rfl)) (ap_cons _ (ap_cons _ (ap_cons _ rfl))))) (ap_cons _ (ap_cons _ rfl))))))))))) (ap_cons _ (Eq.trans ap_sq (Eq.trans ap_sq (ap_cons _ (Eq.trans (ap_bl 4) (Eq.trans (ap_j (Eq.trans (ap_lp (C := (f49_C_l4 k)) (fun _ _ => rfl)) (ap_cons _ (ap_cons _ (ap_cons _ rfl))))) (ap_cons _ (ap_cons _ rfl))))))))))))))))) (ap_cons _ (Eq.trans ap_sq (Eq.trans ap_sq (ap_cons _ (Eq.trans (ap_bl 2) (Eq.trans (ap_j (Eq.trans (ap_lp (C := (f49_C_l2 k)) (fun _ _ => rfl)) (ap_cons _ (ap_cons _ (Eq.trans ap_sq (Eq.trans ap_sq (ap_cons _ (Eq.trans (ap_bl 4) (Eq.trans (ap_j (Eq.trans (ap_lp (C := (f49_C_l4 k)) (fun _ _ => rfl)) (ap_cons _ (ap_cons _ (ap_cons _ rfl))))) (ap_cons _ (ap_cons _ rfl))))))))))) (ap_cons _ (Eq.trans ap_sq (Eq.trans ap_sq (ap_cons _ (Eq.trans (ap_bl 4) (Eq.trans (ap_j (Eq.trans (ap_lp (C := (f49_C_l4 k)) (fun _ _ => rfl)) (ap_cons _ (ap_cons _ (ap_cons _ rfl))))) (ap_cons _ (ap_cons _ rfl))))))))))))))))))))
noncomputable def f49_F_l0 (k : Nat) (G_l0 G_l2 G_l4 : f49_S) : f49_L := .c (f49_p 116) 0 :: .j (fun σ => G_l0 (cut f49_A.loops 0 σ)) :: .blk 0 :: .c (f49_p 60) 0 :: .j (fun σ => f49_a k (.j (fun σ => G_l2 (cut f49_A.loops 2 σ)) :: .blk 2 :: .c (f49_p 124) 0 :: .j (fun σ => f49_a k (.j (fun σ => G_l4 (cut f49_A.loops 4 σ)) :: .blk 4 :: .c (f49_p 63) 0 :: []) .nx σ) :: .c (f49_p 63) 0 :: []) .nx σ) :: .c (f49_p 124) 0 :: .j (fun σ => f49_a k (.j (fun σ => G_l4 (cut f49_A.loops 4 σ)) :: .blk 4 :: .c (f49_p 63) 0 :: []) .nx σ) :: .c (f49_p 63) 0 :: []
theorem f49_f_l0 (k : Nat) (R_l0 : f49_S) : f49_a k (f49_Q_l0 k R_l0) = f49_a k (f49_F_l0 k R_l0 (f49_C_l2 k k) (f49_C_l4 k k)) := (ap_cons _ (ap_cons _ (ap_cons _ (Eq.trans ap_sq (Eq.trans ap_sq (ap_cons _ (Eq.trans (ap_bl 2) (Eq.trans (ap_j (Eq.trans (ap_lp (C := (f49_C_l2 k)) (fun _ _ => rfl)) (ap_cons _ (ap_cons _ (Eq.trans ap_sq (Eq.trans ap_sq (ap_cons _ (Eq.trans (ap_bl 4) (Eq.trans (ap_j (Eq.trans (ap_lp (C := (f49_C_l4 k)) (fun _ _ => rfl)) (ap_cons _ (ap_cons _ (ap_cons _ rfl))))) (ap_cons _ (ap_cons _ rfl))))))))))) (ap_cons _ (Eq.trans ap_sq (Eq.trans ap_sq (ap_cons _ (Eq.trans (ap_bl 4) (Eq.trans (ap_j (Eq.trans (ap_lp (C := (f49_C_l4 k)) (fun _ _ => rfl)) (ap_cons _ (ap_cons _ (ap_cons _ rfl))))) (ap_cons _ (ap_cons _ rfl))))))))))))))))
noncomputable def f49_F_r14 (k : Nat) (G_l2 G_l4 : f49_S) : f49_L := .c (f49_p 31333) 3 :: .c (f49_p 15667) 3 :: .blk 3 :: .c (f49_p 1959) 2 :: .j (fun σ => G_l2 (cut f49_A.loops 2 σ)) :: .blk 2 :: .c (f49_p 124) 0 :: .j (fun σ => f49_a k (.j (fun σ => G_l4 (cut f49_A.loops 4 σ)) :: .blk 4 :: .c (f49_p 63) 0 :: []) .nx σ) :: .c (f49_p 63) 0 :: []
theorem f49_f_r14 (k : Nat) (R_l2 : f49_S) : f49_a k (f49_Q_r14 k R_l2) = f49_a k (f49_F_r14 k R_l2 (f49_C_l4 k k)) := (ap_cons _ (ap_cons _ (ap_cons _ (ap_cons _ (ap_cons _ (ap_cons _ (Eq.trans ap_sq (Eq.trans ap_sq (ap_cons _ (Eq.trans (ap_bl 4) (Eq.trans (ap_j (Eq.trans (ap_lp (C := (f49_C_l4 k)) (fun _ _ => rfl)) (ap_cons _ (ap_cons _ (ap_cons _ rfl))))) (ap_cons _ (ap_cons _ rfl)))))))))))))
noncomputable def f49_F_l2 (k : Nat) (G_l2 G_r14 G_l4 : f49_S) : f49_L := .c (f49_p 488) 2 :: .c (f49_p 978) 2 :: .j (fun σ => f49_a k (.c (f49_p 7832) 3 :: .c (f49_p 31332) 3 :: .j G_r14 :: f49_F_r14 k G_l2 G_l4) .nx σ) :: .c (f49_p 1959) 2 :: .j (fun σ => G_l2 (cut f49_A.loops 2 σ)) :: .blk 2 :: .c (f49_p 124) 0 :: .j (fun σ => f49_a k (.j (fun σ => G_l4 (cut f49_A.loops 4 σ)) :: .blk 4 :: .c (f49_p 63) 0 :: []) .nx σ) :: .c (f49_p 63) 0 :: []
theorem f49_f_l2 (k : Nat) (R_l2 : f49_S) : f49_a k (f49_Q_l2 k R_l2) = f49_a k (f49_F_l2 k R_l2 (f49_C_r14 k R_l2) (f49_C_l4 k k)) := (Eq.trans ap_sq (ap_cons _ (Eq.trans ap_sq (ap_cons _ (Eq.trans ap_sq (Eq.trans (ap_bl 3) (Eq.trans (ap_j (Eq.trans ap_sq (ap_cons _ (Eq.trans ap_sq (Eq.trans ap_sq (ap_cons _ (Eq.trans (ap_pass (C := (f49_C_r14 k R_l2)) (fun _ => rfl)) (ap_cons _ (f49_f_r14 k R_l2))))))))) (ap_cons _ (ap_cons _ (ap_cons _ (ap_cons _ (Eq.trans ap_sq (Eq.trans ap_sq (ap_cons _ (Eq.trans (ap_bl 4) (Eq.trans (ap_j (Eq.trans (ap_lp (C := (f49_C_l4 k)) (fun _ _ => rfl)) (ap_cons _ (ap_cons _ (ap_cons _ rfl))))) (ap_cons _ (ap_cons _ rfl))))))))))))))))))
noncomputable def f49_F_r22 (k : Nat) (G_l4 : f49_S) : f49_L := .c (f49_p 64101) 5 :: .c (f49_p 32051) 5 :: .blk 5 :: .c (f49_p 4007) 4 :: .j (fun σ => G_l4 (cut f49_A.loops 4 σ)) :: .blk 4 :: .c (f49_p 63) 0 :: []
theorem f49_f_r22 (k : Nat) (R_l4 : f49_S) : f49_a k (f49_Q_r22 k R_l4) = f49_a k (f49_F_r22 k R_l4) := (ap_cons _ (ap_cons _ (ap_cons _ (ap_cons _ (ap_cons _ (ap_cons _ (ap_cons _ rfl)))))))
noncomputable def f49_F_l4 (k : Nat) (G_l4 G_r22 : f49_S) : f49_L := .c (f49_p 1000) 4 :: .c (f49_p 2002) 4 :: .j (fun σ => f49_a k (.c (f49_p 16024) 5 :: .c (f49_p 64100) 5 :: .j G_r22 :: f49_F_r22 k G_l4) .nx σ) :: .c (f49_p 4007) 4 :: .j (fun σ => G_l4 (cut f49_A.loops 4 σ)) :: .blk 4 :: .c (f49_p 63) 0 :: []
theorem f49_f_l4 (k : Nat) (R_l4 : f49_S) : f49_a k (f49_Q_l4 k R_l4) = f49_a k (f49_F_l4 k R_l4 (f49_C_r22 k R_l4)) := (Eq.trans ap_sq (ap_cons _ (Eq.trans ap_sq (ap_cons _ (Eq.trans ap_sq (Eq.trans (ap_bl 5) (Eq.trans (ap_j (Eq.trans ap_sq (ap_cons _ (Eq.trans ap_sq (Eq.trans ap_sq (ap_cons _ (Eq.trans (ap_pass (C := (f49_C_r22 k R_l4)) (fun _ => rfl)) (ap_cons _ (f49_f_r22 k R_l4))))))))) (ap_cons _ (ap_cons _ (ap_cons _ (ap_cons _ (ap_cons _ rfl))))))))))))
def f49_entry_B (k : Nat) (g_r1 : f49_t_r1) (a0 : Td12) : Option (Int × Unit) := (if 200 < (a0.1.length : Int) then (g_r1 a0.1 a0.2.1 a0.2.2 true) else (if 600 < (a0.2.1.length : Int) then (g_r1 a0.1 a0.2.1 a0.2.2 true) else (g_r1 a0.1 a0.2.1 a0.2.2 (decide (600 < (a0.2.2.length : Int))))))
def f49_r1_B (k : Nat) (g_l0 : f49_t_l0) (y1_0 : (List (Int × Int))) (y1_1 : (List (Int × (Int × (Int × Int))))) (y1_2 : (List (Int × Int))) (x24 : Bool) : Option (Int × Unit) := (if x24 = true then some (2, ()) else (g_l0 y1_0 y1_1 y1_2 (y1_0.length : Int) 0))
def f49_l0_B (k : Nat) (g_l0 : f49_t_l0) (g_l2 : f49_t_l2) (y1_0 : (List (Int × Int))) (y1_1 : (List (Int × (Int × (Int × Int))))) (y1_2 : (List (Int × Int))) (x27 : Int) (x28 : Int) : Option (Int × Unit) := (if x28 < x27 then (if 0 ≤ x28 then (if x28 < (y1_0.length : Int) then ((f72 k ((y1_0.getD (x28).toNat (0, 0)).1, (y1_0.getD (x28).toNat (0, 0)).2)).bind fun r1 => (if ¬ (r1.1 = true) then some (1, ()) else (if 0 ≤ x28 then (if x28 ≤ (y1_0.length : Int) then ((f45 k (y1_0.take (x28).toNat) ((y1_0.getD (x28).toNat (0, 0)).1, (y1_0.getD (x28).toNat (0, 0)).2)).bind fun r2 => (if r2.1 = true then some (5, ()) else (g_l0 y1_0 y1_1 y1_2 x27 (w64 (x28 + 1))))) else none) else none))) else none) else none) else (g_l2 y1_0 y1_1 y1_2 (y1_1.length : Int) 0))
def f49_l2_B (k : Nat) (g_r14 : f49_t_r14) (g_l4 : f49_t_l4) (y1_0 : (List (Int × Int))) (y1_1 : (List (Int × (Int × (Int × Int))))) (y1_2 : (List (Int × Int))) (x45 : Int) (x46 : Int) : Option (Int × Unit) := (if x46 < x45 then (if 0 ≤ x46 then (if x46 < (y1_1.length : Int) then ((f73 k (y1_0, (y1_1, y1_2)) ((y1_1.getD (x46).toNat (0, (0, (0, 0)))).1)).bind fun r1 => (if ¬ (r1.1 = true) then (g_r14 y1_0 y1_1 y1_2 ((y1_1.getD (x46).toNat (0, (0, (0, 0)))).1) (((y1_1.getD (x46).toNat (0, (0, (0, 0)))).2).1) ((((y1_1.getD (x46).toNat (0, (0, (0, 0)))).2).2).1) ((((y1_1.getD (x46).toNat (0, (0, (0, 0)))).2).2).2) x45 x46 true) else ((f73 k (y1_0, (y1_1, y1_2)) (((y1_1.getD (x46).toNat (0, (0, (0, 0)))).2).1)).bind fun r2 => (if ¬ (r2.1 = true) then (g_r14 y1_0 y1_1 y1_2 ((y1_1.getD (x46).toNat (0, (0, (0, 0)))).1) (((y1_1.getD (x46).toNat (0, (0, (0, 0)))).2).1) ((((y1_1.getD (x46).toNat (0, (0, (0, 0)))).2).2).1) ((((y1_1.getD (x46).toNat (0, (0, (0, 0)))).2).2).2) x45 x46 true) else (if ((((y1_1.getD (x46).toNat (0, (0, (0, 0)))).2).2).1) < 0 then (g_r14 y1_0 y1_1 y1_2 ((y1_1.getD (x46).toNat (0, (0, (0, 0)))).1) (((y1_1.getD (x46).toNat (0, (0, (0, 0)))).2).1) ((((y1_1.getD (x46).toNat (0, (0, (0, 0)))).2).2).1) ((((y1_1.getD (x46).toNat (0, (0, (0, 0)))).2).2).2) x45 x46 true) else (g_r14 y1_0 y1_1 y1_2 ((y1_1.getD (x46).toNat (0, (0, (0, 0)))).1) (((y1_1.getD (x46).toNat (0, (0, (0, 0)))).2).1) ((((y1_1.getD (x46).toNat (0, (0, (0, 0)))).2).2).1) ((((y1_1.getD (x46).toNat (0, (0, (0, 0)))).2).2).2) x45 x46 (decide (1099511627776 < ((((y1_1.getD (x46).toNat (0, (0, (0, 0)))).2).2).1))))))))) else none) else none) else (g_l4 y1_0 y1_1 y1_2 (y1_2.length : Int) 0))
def f49_r14_B (k : Nat) (g_l2 : f49_t_l2) (y1_0 : (List (Int × Int))) (y1_1 : (List (Int × (Int × (Int × Int))))) (y1_2 : (List (Int × Int))) (y6_0 : Int) (y6_1 : Int) (y6_2 : Int) (y6_3 : Int) (x45 : Int) (x46 : Int) (x71 : Bool) : Option (Int × Unit) := (if x71 = true then some (1, ()) else (if y6_0 = y6_1 then some (11, ()) else (g_l2 y1_0 y1_1 y1_2 x45 (w64 (x46 + 1)))))
def f49_l4_B (k : Nat) (g_r22 : f49_t_r22) (y1_0 : (List (Int × Int))) (y1_1 : (List (Int × (Int × (Int × Int))))) (y1_2 : (List (Int × Int))) (x80 : Int) (x81 : Int) : Option (Int × Unit) := (if x81 < x80 then (if 0 ≤ x81 then (if x81 < (y1_2.length : Int) then ((f62 k (y1_0, (y1_1, y1_2)) ((y1_2.getD (x81).toNat (0, 0)).1)).bind fun r1 => (if ¬ (r1.1 = true) then (g_r22 y1_0 y1_1 y1_2 ((y1_2.getD (x81).toNat (0, 0)).1) ((y1_2.getD (x81).toNat (0, 0)).2) x81 x80 true) else ((f62 k (y1_0, (y1_1, y1_2)) ((y1_2.getD (x81).toNat (0, 0)).2)).bind fun r2 => (g_r22 y1_0 y1_1 y1_2 ((y1_2.getD (x81).toNat (0, 0)).1) ((y1_2.getD (x81).toNat (0, 0)).2) x81 x80 (decide (¬ (r2.1 = true))))))) else none) else none) else some (0, ()))
def f49_r22_B (k : Nat) (g_l4 : f49_t_l4) (y1_0 : (List (Int × Int))) (y1_1 : (List (Int × (Int × (Int × Int))))) (y1_2 : (List (Int × Int))) (y8_0 : Int) (y8_1 : Int) (x7 : Int) (x80 : Int) (x97 : Bool) : Option (Int × Unit) := (if x97 = true then some (1, ()) else (if 0 ≤ y8_0 then (if y8_0 < (y1_1.length : Int) then (if 0 ≤ y8_1 then (if y8_1 < (y1_1.length : Int) then (if ¬ ((((y1_1.getD (y8_0).toNat (0, (0, (0, 0)))).2).1) = ((y1_1.getD (y8_1).toNat (0, (0, (0, 0)))).1)) then some (9, ()) else (if 0 ≤ x7 then (if x7 ≤ (y1_2.length : Int) then ((f46 k (y1_2.take (x7).toNat) (y8_0, y8_1)).bind fun r1 => (if r1.1 = true then some (5, ()) else (g_l4 y1_0 y1_1 y1_2 x80 (w64 (x7 + 1))))) else none) else none)) else none) else none) else none) else none))
theorem f49_r14_P (k : Nat) (G_l2 G_l4 : f49_S) : f49_o_r14 (fun σ => f49_a k (f49_F_r14 k G_l2 G_l4) .nx σ) = f49_r14_B k (f49_o_l2 G_l2) := by kernel_rfl
def f49_r14 (k : Nat) (r_l2 : f49_t_l2) : f49_t_r14 := f49_r14_B k r_l2
theorem f49_r14_E (k : Nat) (R_l2 : f49_S) : f49_o_r14 (f49_C_r14 k R_l2) = f49_r14 k (f49_o_l2 R_l2) :=
  Eq.trans (congrArg f49_o_r14 (ap_fn (f49_f_r14 k R_l2))) ((f49_r14_P k R_l2 (f49_C_l4 k k)).trans (by rfl))
theorem f49_r22_P (k : Nat) (G_l4 : f49_S) : f49_o_r22 (fun σ => f49_a k (f49_F_r22 k G_l4) .nx σ) = f49_r22_B k (f49_o_l4 G_l4) := by kernel_rfl
def f49_r22 (k : Nat) (r_l4 : f49_t_l4) : f49_t_r22 := f49_r22_B k r_l4
theorem f49_r22_E (k : Nat) (R_l4 : f49_S) : f49_o_r22 (f49_C_r22 k R_l4) = f49_r22 k (f49_o_l4 R_l4) :=
  Eq.trans (congrArg f49_o_r22 (ap_fn (f49_f_r22 k R_l4))) ((f49_r22_P k R_l4).trans (by rfl))
theorem f49_l4_P (k : Nat) (G_l4 G_r22 : f49_S) : f49_o_l4 (fun σ => f49_a k (f49_F_l4 k G_l4 G_r22) .nx σ) = f49_l4_B k (f49_o_r22 G_r22) := by kernel_rfl
def f49_l4 (k : Nat) : Nat → f49_t_l4
  | 0 => fun _ _ _ _ _ => none
  | n + 1 => f49_l4_B k (f49_r22 k (f49_l4 k n))
theorem f49_l4_E (k : Nat) : ∀ n, f49_o_l4 (f49_C_l4 k n) = f49_l4 k n
  | 0 => rfl
  | n + 1 =>
    Eq.trans (congrArg f49_o_l4 (Eq.trans (b := fun σ => f49_a k (f49_Q_l4 k (f49_C_l4 k n)) .nx σ) (by kernel_rfl) (ap_fn (f49_f_l4 k (f49_C_l4 k n))))) ((f49_l4_P k (f49_C_l4 k n) (f49_C_r22 k (f49_C_l4 k n))).trans (by rw [f49_r22_E k (f49_C_l4 k n), f49_l4_E k n] <;> rfl))
theorem f49_l2_P (k : Nat) (G_l2 G_r14 G_l4 : f49_S) : f49_o_l2 (fun σ => f49_a k (f49_F_l2 k G_l2 G_r14 G_l4) .nx σ) = f49_l2_B k (f49_o_r14 G_r14) (f49_o_l4 G_l4) := by kernel_rfl
def f49_l2 (k : Nat) : Nat → f49_t_l2
  | 0 => fun _ _ _ _ _ => none
  | n + 1 => f49_l2_B k (f49_r14 k (f49_l2 k n)) (f49_l4 k k)
theorem f49_l2_E (k : Nat) : ∀ n, f49_o_l2 (f49_C_l2 k n) = f49_l2 k n
  | 0 => rfl
  | n + 1 =>
    Eq.trans (congrArg f49_o_l2 (Eq.trans (b := fun σ => f49_a k (f49_Q_l2 k (f49_C_l2 k n)) .nx σ) (by kernel_rfl) (ap_fn (f49_f_l2 k (f49_C_l2 k n))))) ((f49_l2_P k (f49_C_l2 k n) (f49_C_r14 k (f49_C_l2 k n)) (f49_C_l4 k k)).trans (by rw [f49_r14_E k (f49_C_l2 k n), f49_l4_E k k, f49_l2_E k n] <;> rfl))
theorem f49_l0_P (k : Nat) (G_l0 G_l2 G_l4 : f49_S) : f49_o_l0 (fun σ => f49_a k (f49_F_l0 k G_l0 G_l2 G_l4) .nx σ) = f49_l0_B k (f49_o_l0 G_l0) (f49_o_l2 G_l2) := by kernel_rfl
def f49_l0 (k : Nat) : Nat → f49_t_l0
  | 0 => fun _ _ _ _ _ => none
  | n + 1 => f49_l0_B k (f49_l0 k n) (f49_l2 k k)
theorem f49_l0_E (k : Nat) : ∀ n, f49_o_l0 (f49_C_l0 k n) = f49_l0 k n
  | 0 => rfl
  | n + 1 =>
    Eq.trans (congrArg f49_o_l0 (Eq.trans (b := fun σ => f49_a k (f49_Q_l0 k (f49_C_l0 k n)) .nx σ) (by kernel_rfl) (ap_fn (f49_f_l0 k (f49_C_l0 k n))))) ((f49_l0_P k (f49_C_l0 k n) (f49_C_l2 k k) (f49_C_l4 k k)).trans (by rw [f49_l2_E k k, f49_l0_E k n] <;> rfl))
theorem f49_r1_P (k : Nat) (G_l0 G_l2 G_l4 : f49_S) : f49_o_r1 (fun σ => f49_a k (f49_F_r1 k G_l0 G_l2 G_l4) .nx σ) = f49_r1_B k (f49_o_l0 G_l0) := by kernel_rfl
def f49_r1 (k : Nat) : f49_t_r1 := f49_r1_B k (f49_l0 k k)
theorem f49_r1_E (k : Nat) : f49_o_r1 (f49_C_r1 k) = f49_r1 k :=
  Eq.trans (congrArg f49_o_r1 (ap_fn (f49_f_r1 k))) ((f49_r1_P k (f49_C_l0 k k) (f49_C_l2 k k) (f49_C_l4 k k)).trans (by rw [f49_l0_E k k] <;> rfl))
theorem f49_entry_P (k : Nat) (G_r1 G_l0 G_l2 G_l4 : f49_S) (xs : DL f49_sig) : f49_a k (.c (f49_p 2) 0 :: .c (f49_p 12) 0 :: .j G_r1 :: f49_F_r1 k G_l0 G_l2 G_l4) .nx (σ0 120 368 f49_sig xs) = f49_entry_B k (f49_o_r1 G_r1) xs.1 := by kernel_rfl
def f49 (k : Nat) (a0 : Td12) : Option (Int × Unit) := f49_entry_B k (f49_r1 k) a0
theorem f49_fe (k : Nat) : f49_a k [.c (f49_p 1) 0] = f49_a k (.c (f49_p 2) 0 :: .c (f49_p 12) 0 :: .j (f49_C_r1 k) :: f49_F_r1 k (f49_C_l0 k k) (f49_C_l2 k k) (f49_C_l4 k k)) := (Eq.trans ap_sq (ap_cons _ (Eq.trans ap_sq (Eq.trans ap_sq (ap_cons _ (Eq.trans (ap_pass (C := (f49_C_r1 k)) (fun _ => rfl)) (ap_cons _ (f49_f_r1 k))))))))
theorem f49_eq (k : Nat) (xs : DL f49_sig) : den T f49_Y (f49_E k) f49_A k f49_c 0 (σ0 120 368 f49_sig xs) (Kfin T f49_rs f49_ts) = f49 k xs.1 :=
  Eq.trans (Eq.trans den_sb (ap_at (f49_fe k) _)) ((f49_entry_P k (f49_C_r1 k) (f49_C_l0 k k) (f49_C_l2 k k) (f49_C_l4 k k) xs).trans (by rw [f49_r1_E k] <;> rfl))
noncomputable def f49_con (k : Nat) : Con := ⟨f49_sig, f49_rs, fun xs => f49 k xs.1⟩
theorem f49_ok (k : Nat) : PureOK Try.prog 49 f49_sig f49_rs (fun xs => f49 k xs.1) :=
  (pure_of_den (k := k) (A := f49_A) (T := T) (Y := f49_Y) (E := f49_E k) (M := 368) (ts := f49_ts) T_ok ⟨f45_ok k, f46_ok k, f62_ok k, f72_ok k, f73_ok k, trivial⟩ ⟨f45_ent, f46_ent, f62_ent, f72_ent, f73_ent, trivial⟩ mixed (f := 49) (fn := Try.f49) (c := f49_c) (by kernel_rfl) (by kernel_rfl) (by kernel_rfl) (by decide) (by kernel_rfl)).congr fun xs => (f49_eq k xs).symm
theorem f49_ent : Ent Try.prog 49 := fun args w => by kernel_rfl
/-! ### slices.Clone[[]terrier/api.Point,terrier/api.Point]: function 50 -/
noncomputable def f50_c : Code := Try.f50.body.getD .skip
noncomputable abbrev f50_p (n : Nat) : Code := sb f50_c n
abbrev f50_sig : List PT := [(false, Tq13)]
abbrev f50_rs : List RT := [.new Tq2]
abbrev f50_ts : List RV := [.tmp 2]
abbrev f50_S := St → Option (RDL f50_rs)
abbrev f50_L := List (Fr (RDL f50_rs))
def f50_Y : Tys := [(36, Tq2)]
noncomputable def f50_E (k : Nat) : Env := []
def f50_A : Ann := {}
noncomputable abbrev f50_a (k : Nat) (F : f50_L) : Kont (RDL f50_rs) := ap T f50_Y (f50_E k) f50_A k (Kfin T f50_rs f50_ts) F
def f50_entry_B (k : Nat) (a0 : Td14) : Option ((List (Int × Int)) × Unit) := (if isNilO a0 = true then some ([], ()) else (if (([] : List (Int × Int)).length + (slL true a0).length) * 16 ≤ 140737488355328 then some ((([] : List (Int × Int)) ++ (slL true a0)), ()) else none))
theorem f50_entry_P (k : Nat) (xs : DL f50_sig) : f50_a k (.c (f50_p 1) 0 :: []) .nx (σ0 8 32 f50_sig xs) = f50_entry_B k xs.1 := by kernel_rfl
def f50 (k : Nat) (a0 : Td14) : Option ((List (Int × Int)) × Unit) := f50_entry_B k a0
theorem f50_eq (k : Nat) (xs : DL f50_sig) : den T f50_Y (f50_E k) f50_A k f50_c 0 (σ0 8 32 f50_sig xs) (Kfin T f50_rs f50_ts) = f50 k xs.1 :=
  Eq.trans (Eq.trans den_sb (ap_at (ap_cons _ rfl) _)) ((f50_entry_P k xs).trans (by rfl))
noncomputable def f50_con (k : Nat) : Con := ⟨f50_sig, f50_rs, fun xs => f50 k xs.1⟩
theorem f50_ok (k : Nat) : PureOK Try.prog 50 f50_sig f50_rs (fun xs => f50 k xs.1) :=
  (pure_of_den (k := k) (A := f50_A) (T := T) (Y := f50_Y) (E := f50_E k) (M := 32) (ts := f50_ts) T_ok trivial trivial mixed (f := 50) (fn := Try.f50) (c := f50_c) (by kernel_rfl) (by kernel_rfl) (by kernel_rfl) (by decide) (by kernel_rfl)).congr fun xs => (f50_eq k xs).symm
theorem f50_ent : Ent Try.prog 50 := fun args w => by kernel_rfl
def f50u (k : Nat) (a0 : List (Int × Int)) : Option (List (Int × Int) × Unit) := unnil1 (f50 k) a0
noncomputable def f50u_con (k : Nat) : Con := ⟨[(false, .sl false Tq2)], f50_rs, fun xs => f50u k xs.1⟩
theorem f50u_ok (k : Nat) : PureOK Try.prog 50 [(false, .sl false Tq2)] f50_rs (fun xs => f50u k xs.1) := (f50_ok k).unnil1
theorem f50u_ent : Ent Try.prog 50 := f50_ent
/-! ### terrier/net.Back: function 14 -/
noncomputable def f14_c : Code := Try.f14.body.getD .skip
noncomputable abbrev f14_p (n : Nat) : Code := sb f14_c n
abbrev f14_sig : List PT := [(true, Tq9)]
abbrev f14_rs : List RT := [.d true Tq9, .d false (.int .i64)]
abbrev f14_ts : List RV := [.cell 2 27, .tmp 3]
abbrev f14_S := St → Option (RDL f14_rs)
abbrev f14_L := List (Fr (RDL f14_rs))
def f14_Y : Tys := [(39, Tq6), (42, Tq2)]
noncomputable def f14_E (k : Nat) : Env := [(49, .c (f49_con k)), (50, .c (f50u_con k))]
def f14_A : Ann := { loops := [(0, { matb := [(5, 1, 39, Tq6)], slots := [(1, .id), (2, .id), (5, .id), (21, .val false Tq6), (22, .id), (23, .id)], keys := [(1, [.val false Tq2, .val false Tq6, .val false Tq2]), (2, []), (5, []), (18, []), (39, [])] }), (2, { matb := [(5, 1, 39, Tq6), (5, 2, 57, Tq2)], slots := [(2, .id), (5, .id), (43, .val false Tq2), (44, .id), (45, .id)], keys := [(2, []), (5, []), (18, []), (39, []), (57, [])] })] }
noncomputable abbrev f14_a (k : Nat) (F : f14_L) : Kont (RDL f14_rs) := ap T f14_Y (f14_E k) f14_A k (Kfin T f14_rs f14_ts) F
def f14_s_l0 (y1_0 : (List (Int × Int))) (y1_1 : (List (Int × (Int × (Int × Int))))) (y1_2 : (List (Int × Int))) (y18 : (List (Int × Int))) (y39 : (List (Int × (Int × (Int × Int))))) (x22 : Int) (x23 : Int) : St := mkS 61 192 [(1, aP 1), (2, aP 2), (5, aP 5), (21, aV Tq6 y1_1), (22, aI x22), (23, aI x23)] [(1, .box [cV Tq2 y1_0, cV Tq6 y1_1, cV Tq2 y1_2]), (2, .box [.nil, .nil, .nil]), (5, .box [.own 18, .own 39, .nil]), (18, .vec Tq2 y18), (39, .vec Tq6 y39)]
abbrev f14_t_l0 := (List (Int × Int)) → (List (Int × (Int × (Int × Int)))) → (List (Int × Int)) → (List (Int × Int)) → (List (Int × (Int × (Int × Int)))) → Int → Int → Option (Td12 × Int × Unit)
abbrev f14_o_l0 (R : f14_S) : f14_t_l0 := (fun y1_0 y1_1 y1_2 y18 y39 x22 x23 => R (f14_s_l0 y1_0 y1_1 y1_2 y18 y39 x22 x23))
noncomputable def f14_Q_l0 (k : Nat) (R_l0 : f14_S) : f14_L := [.c (f14_p 244) 0, .j (fun σ => R_l0 (cut f14_A.loops 0 σ)), .blk 0, .c (f14_p 31) 0]
noncomputable def f14_C_l0 (k : Nat) (n : Nat) (σ : St) : Option (RDL f14_rs) := loopK (fun σ K => den T f14_Y (f14_E k) f14_A k (f14_p 244) 0 σ K) (cut f14_A.loops 0) (f14_a k [.blk 0, .c (f14_p 31) 0]) n σ
def f14_s_l2 (y18 : (List (Int × Int))) (y39 : (List (Int × (Int × (Int × Int))))) (y57 : (List (Int × Int))) (x43 : (List (Int × Int))) (x44 : Int) (x45 : Int) : St := mkS 61 192 [(2, aP 2), (5, aP 5), (43, aV Tq2 x43), (44, aI x44), (45, aI x45)] [(2, .box [.nil, .nil, .nil]), (5, .box [.own 18, .own 39, .own 57]), (18, .vec Tq2 y18), (39, .vec Tq6 y39), (57, .vec Tq2 y57)]
abbrev f14_t_l2 := (List (Int × Int)) → (List (Int × (Int × (Int × Int)))) → (List (Int × Int)) → (List (Int × Int)) → Int → Int → Option (Td12 × Int × Unit)
abbrev f14_o_l2 (R : f14_S) : f14_t_l2 := (fun y18 y39 y57 x43 x44 x45 => R (f14_s_l2 y18 y39 y57 x43 x44 x45))
noncomputable def f14_Q_l2 (k : Nat) (R_l2 : f14_S) : f14_L := [.c (f14_p 500) 2, .j (fun σ => R_l2 (cut f14_A.loops 2 σ)), .blk 2, .c (f14_p 63) 0]
noncomputable def f14_C_l2 (k : Nat) (n : Nat) (σ : St) : Option (RDL f14_rs) := loopK (fun σ K => den T f14_Y (f14_E k) f14_A k (f14_p 500) 2 σ K) (cut f14_A.loops 2) (f14_a k [.blk 2, .c (f14_p 63) 0]) n σ
noncomputable def f14_F_l0 (k : Nat) (G_l0 G_l2 : f14_S) : f14_L := .c (f14_p 244) 0 :: .j (fun σ => G_l0 (cut f14_A.loops 0 σ)) :: .blk 0 :: .c (f14_p 124) 0 :: .j (fun σ => f14_a k (.j (fun σ => G_l2 (cut f14_A.loops 2 σ)) :: .blk 2 :: .c (f14_p 63) 0 :: []) .nx σ) :: .c (f14_p 63) 0 :: []
theorem f14_f_l0 (k : Nat) (R_l0 : f14_S) : f14_a k (f14_Q_l0 k R_l0) = f14_a k (f14_F_l0 k R_l0 (f14_C_l2 k k)) := (ap_cons _ (ap_cons _ (ap_cons _ (Eq.trans ap_sq (Eq.trans ap_sq (ap_cons _ (Eq.trans (ap_bl 2) (Eq.trans (ap_j (Eq.trans (ap_lp (C := (f14_C_l2 k)) (fun _ _ => rfl)) (ap_cons _ (ap_cons _ (ap_cons _ rfl))))) (ap_cons _ (ap_cons _ rfl))))))))))
noncomputable def f14_F_l2 (k : Nat) (G_l2 : f14_S) : f14_L := .c (f14_p 500) 2 :: .j (fun σ => G_l2 (cut f14_A.loops 2 σ)) :: .blk 2 :: .c (f14_p 63) 0 :: []
theorem f14_f_l2 (k : Nat) (R_l2 : f14_S) : f14_a k (f14_Q_l2 k R_l2) = f14_a k (f14_F_l2 k R_l2) := (ap_cons _ (ap_cons _ (ap_cons _ (ap_cons _ rfl))))
def f14_entry_B (k : Nat) (g_l0 : f14_t_l0) (a0 : Td12) : Option (Td12 × Int × Unit) := ((f49 k (a0.1, (a0.2.1, a0.2.2))).bind fun r1 => (if ¬ (r1.1 = 0) then some (([], ([], [])), r1.1, ()) else ((f50u k a0.1).bind fun r2 => (g_l0 a0.1 a0.2.1 a0.2.2 r2.1 ([] : List (Int × (Int × (Int × Int)))) (a0.2.1.length : Int) 0))))
def f14_l0_B (k : Nat) (g_l0 : f14_t_l0) (g_l2 : f14_t_l2) (y1_0 : (List (Int × Int))) (y1_1 : (List (Int × (Int × (Int × Int))))) (y1_2 : (List (Int × Int))) (y18 : (List (Int × Int))) (y39 : (List (Int × (Int × (Int × Int))))) (x22 : Int) (x23 : Int) : Option (Td12 × Int × Unit) := (if x23 < x22 then (if 0 ≤ x23 then (if x23 < (y1_1.length : Int) then (if (y39.length + 1) * 32 ≤ 140737488355328 then (g_l0 y1_0 y1_1 y1_2 y18 (y39 ++ [(((y1_1.getD (x23).toNat (0, (0, (0, 0)))).2).1, ((y1_1.getD (x23).toNat (0, (0, (0, 0)))).1, ((((y1_1.getD (x23).toNat (0, (0, (0, 0)))).2).2).1, (((y1_1.getD (x23).toNat (0, (0, (0, 0)))).2).2).2)))]) x22 (w64 (x23 + 1))) else none) else none) else none) else (g_l2 y18 y39 ([] : List (Int × Int)) y1_2 (y1_2.length : Int) 0))
def f14_l2_B (k : Nat) (g_l2 : f14_t_l2) (y18 : (List (Int × Int))) (y39 : (List (Int × (Int × (Int × Int))))) (y57 : (List (Int × Int))) (x43 : (List (Int × Int))) (x44 : Int) (x45 : Int) : Option (Td12 × Int × Unit) := (if x45 < x44 then (if 0 ≤ x45 then (if x45 < (x43.length : Int) then (if (y57.length + 1) * 16 ≤ 140737488355328 then (g_l2 y18 y39 (y57 ++ [((x43.getD (x45).toNat (0, 0)).2, (x43.getD (x45).toNat (0, 0)).1)]) x43 x44 (w64 (x45 + 1))) else none) else none) else none) else some ((y18, (y39, y57)), 0, ()))
theorem f14_l2_P (k : Nat) (G_l2 : f14_S) : f14_o_l2 (fun σ => f14_a k (f14_F_l2 k G_l2) .nx σ) = f14_l2_B k (f14_o_l2 G_l2) := by kernel_rfl
def f14_l2 (k : Nat) : Nat → f14_t_l2
  | 0 => fun _ _ _ _ _ _ => none
  | n + 1 => f14_l2_B k (f14_l2 k n)
theorem f14_l2_E (k : Nat) : ∀ n, f14_o_l2 (f14_C_l2 k n) = f14_l2 k n
  | 0 => rfl
  | n + 1 =>
    Eq.trans (congrArg f14_o_l2 (Eq.trans (b := fun σ => f14_a k (f14_Q_l2 k (f14_C_l2 k n)) .nx σ) (by kernel_rfl) (ap_fn (f14_f_l2 k (f14_C_l2 k n))))) ((f14_l2_P k (f14_C_l2 k n)).trans (by rw [f14_l2_E k n] <;> rfl))
theorem f14_l0_P (k : Nat) (G_l0 G_l2 : f14_S) : f14_o_l0 (fun σ => f14_a k (f14_F_l0 k G_l0 G_l2) .nx σ) = f14_l0_B k (f14_o_l0 G_l0) (f14_o_l2 G_l2) := by kernel_rfl
def f14_l0 (k : Nat) : Nat → f14_t_l0
  | 0 => fun _ _ _ _ _ _ _ => none
  | n + 1 => f14_l0_B k (f14_l0 k n) (f14_l2 k k)
theorem f14_l0_E (k : Nat) : ∀ n, f14_o_l0 (f14_C_l0 k n) = f14_l0 k n
  | 0 => rfl
  | n + 1 =>
    Eq.trans (congrArg f14_o_l0 (Eq.trans (b := fun σ => f14_a k (f14_Q_l0 k (f14_C_l0 k n)) .nx σ) (by kernel_rfl) (ap_fn (f14_f_l0 k (f14_C_l0 k n))))) ((f14_l0_P k (f14_C_l0 k n) (f14_C_l2 k k)).trans (by rw [f14_l2_E k k, f14_l0_E k n] <;> rfl))
theorem f14_entry_P (k : Nat) (G_l0 G_l2 : f14_S) (xs : DL f14_sig) : f14_a k (.c (f14_p 2) 0 :: .c (f14_p 6) 0 :: .c (f14_p 14) 0 :: .c (f14_p 60) 0 :: .j (fun σ => f14_a k (.j (fun σ => G_l0 (cut f14_A.loops 0 σ)) :: .blk 0 :: .c (f14_p 124) 0 :: .j (fun σ => f14_a k (.j (fun σ => G_l2 (cut f14_A.loops 2 σ)) :: .blk 2 :: .c (f14_p 63) 0 :: []) .nx σ) :: .c (f14_p 63) 0 :: []) .nx σ) :: .c (f14_p 124) 0 :: .j (fun σ => f14_a k (.j (fun σ => G_l2 (cut f14_A.loops 2 σ)) :: .blk 2 :: .c (f14_p 63) 0 :: []) .nx σ) :: .c (f14_p 63) 0 :: []) .nx (σ0 61 192 f14_sig xs) = f14_entry_B k (f14_o_l0 G_l0) xs.1 := by kernel_rfl
def f14 (k : Nat) (a0 : Td12) : Option (Td12 × Int × Unit) := f14_entry_B k (f14_l0 k k) a0
theorem f14_fe (k : Nat) : f14_a k [.c (f14_p 1) 0] = f14_a k (.c (f14_p 2) 0 :: .c (f14_p 6) 0 :: .c (f14_p 14) 0 :: .c (f14_p 60) 0 :: .j (fun σ => f14_a k (.j (fun σ => (f14_C_l0 k k) (cut f14_A.loops 0 σ)) :: .blk 0 :: .c (f14_p 124) 0 :: .j (fun σ => f14_a k (.j (fun σ => (f14_C_l2 k k) (cut f14_A.loops 2 σ)) :: .blk 2 :: .c (f14_p 63) 0 :: []) .nx σ) :: .c (f14_p 63) 0 :: []) .nx σ) :: .c (f14_p 124) 0 :: .j (fun σ => f14_a k (.j (fun σ => (f14_C_l2 k k) (cut f14_A.loops 2 σ)) :: .blk 2 :: .c (f14_p 63) 0 :: []) .nx σ) :: .c (f14_p 63) 0 :: []) := (Eq.trans ap_sq (ap_cons _ (Eq.trans ap_sq (ap_cons _ (Eq.trans ap_sq (ap_cons _ (Eq.trans ap_sq (Eq.trans ap_sq (ap_cons _ (Eq.trans (ap_bl 0) (Eq.trans (ap_j (Eq.trans (ap_lp (C := (f14_C_l0 k)) (fun _ _ => rfl)) (ap_cons _ (ap_cons _ (Eq.trans ap_sq (Eq.trans ap_sq (ap_cons _ (Eq.trans (ap_bl 2) (Eq.trans (ap_j (Eq.trans (ap_lp (C := (f14_C_l2 k)) (fun _ _ => rfl)) (ap_cons _ (ap_cons _ (ap_cons _ rfl))))) (ap_cons _ (ap_cons _ rfl))))))))))) (ap_cons _ (Eq.trans ap_sq (Eq.trans ap_sq (ap_cons _ (Eq.trans (ap_bl 2) (Eq.trans (ap_j (Eq.trans (ap_lp (C := (f14_C_l2 k)) (fun _ _ => rfl)) (ap_cons _ (ap_cons _ (ap_cons _ rfl))))) (ap_cons _ (ap_cons _ rfl)))))))))))))))))))
theorem f14_eq (k : Nat) (xs : DL f14_sig) : den T f14_Y (f14_E k) f14_A k f14_c 0 (σ0 61 192 f14_sig xs) (Kfin T f14_rs f14_ts) = f14 k xs.1 :=
  Eq.trans (Eq.trans den_sb (ap_at (f14_fe k) _)) ((f14_entry_P k (f14_C_l0 k k) (f14_C_l2 k k) xs).trans (by rw [f14_l0_E k k] <;> rfl))
noncomputable def f14_con (k : Nat) : Con := ⟨f14_sig, f14_rs, fun xs => f14 k xs.1⟩
theorem f14_ok (k : Nat) : PureOK Try.prog 14 f14_sig f14_rs (fun xs => f14 k xs.1) :=
  (pure_of_den (k := k) (A := f14_A) (T := T) (Y := f14_Y) (E := f14_E k) (M := 192) (ts := f14_ts) T_ok ⟨f49_ok k, f50u_ok k, trivial⟩ ⟨f49_ent, f50u_ent, trivial⟩ mixed (f := 14) (fn := Try.f14) (c := f14_c) (by kernel_rfl) (by kernel_rfl) (by kernel_rfl) (by decide) (by kernel_rfl)).congr fun xs => (f14_eq k xs).symm
theorem f14_ent : Ent Try.prog 14 := fun args w => by kernel_rfl
/-! ### terrier/net.Turn: function 63 -/
noncomputable def f63_c : Code := Try.f63.body.getD .skip
noncomputable abbrev f63_p (n : Nat) : Code := sb f63_c n
abbrev f63_sig : List PT := [(true, Tq9), (false, (.int .i64)), (false, (.int .i64))]
abbrev f63_rs : List RT := [.d false .bool]
abbrev f63_ts : List RV := [.tmp 6]
abbrev f63_S := St → Option (RDL f63_rs)
abbrev f63_L := List (Fr (RDL f63_rs))
def f63_Y : Tys := []
noncomputable def f63_E (k : Nat) : Env := [(46, .c (f46_con k)), (62, .c (f62_con k))]
def f63_A : Ann := { regs := [(1, { slots := [(6, .bool)] })] }
noncomputable abbrev f63_a (k : Nat) (F : f63_L) : Kont (RDL f63_rs) := ap T f63_Y (f63_E k) f63_A k (Kfin T f63_rs f63_ts) F
def f63_s_r1 (x6 : Bool) : St := mkS 39 128 [(6, aB x6)] []
abbrev f63_t_r1 := Bool → Option (Bool × Unit)
abbrev f63_o_r1 (R : f63_S) : f63_t_r1 := (fun x6 => R (f63_s_r1 x6))
noncomputable def f63_Q_r1 (k : Nat) : f63_L := [.c (f63_p 7) 0]
noncomputable def f63_C_r1 (k : Nat) : f63_S := fun σ => f63_a k (f63_Q_r1 k) .nx σ
noncomputable def f63_F_r1 (k : Nat) : f63_L := .c (f63_p 7) 0 :: []
theorem f63_f_r1 (k : Nat) : f63_a k (f63_Q_r1 k) = f63_a k (f63_F_r1 k) := (ap_cons _ rfl)
def f63_entry_B (k : Nat) (g_r1 : f63_t_r1) (a0 : Td12) (a1 : Int) (a2 : Int) : Option (Bool × Unit) := ((f62 k (a0.1, (a0.2.1, a0.2.2)) a1).bind fun r1 => (if r1.1 = true then ((f62 k (a0.1, (a0.2.1, a0.2.2)) a2).bind fun r2 => (if r2.1 = true then (if 0 ≤ a1 then (if a1 < (a0.2.1.length : Int) then (if 0 ≤ a2 then (if a2 < (a0.2.1.length : Int) then (if (((a0.2.1.getD (a1).toNat (0, (0, (0, 0)))).2).1) = ((a0.2.1.getD (a2).toNat (0, (0, (0, 0)))).1) then ((f46 k a0.2.2 (a1, a2)).bind fun r3 => (g_r1 (decide (¬ (r3.1 = true))))) else (g_r1 false)) else none) else none) else none) else none) else (g_r1 false))) else (g_r1 false)))
def f63_r1_B (k : Nat) (x6 : Bool) : Option (Bool × Unit) := some (decide (x6 = true), ())
theorem f63_r1_P (k : Nat) : f63_o_r1 (fun σ => f63_a k (f63_F_r1 k) .nx σ) = f63_r1_B k := by kernel_rfl
def f63_r1 (k : Nat) : f63_t_r1 := f63_r1_B k
theorem f63_r1_E (k : Nat) : f63_o_r1 (f63_C_r1 k) = f63_r1 k :=
  Eq.trans (congrArg f63_o_r1 (ap_fn (f63_f_r1 k))) ((f63_r1_P k).trans (by rfl))
theorem f63_entry_P (k : Nat) (G_r1 : f63_S) (xs : DL f63_sig) : f63_a k (.c (f63_p 2) 0 :: .c (f63_p 6) 0 :: .j G_r1 :: f63_F_r1 k) .nx (σ0 39 128 f63_sig xs) = f63_entry_B k (f63_o_r1 G_r1) xs.1 xs.2.1 xs.2.2.1 := by kernel_rfl
def f63 (k : Nat) (a0 : Td12) (a1 : Int) (a2 : Int) : Option (Bool × Unit) := f63_entry_B k (f63_r1 k) a0 a1 a2
theorem f63_fe (k : Nat) : f63_a k [.c (f63_p 1) 0] = f63_a k (.c (f63_p 2) 0 :: .c (f63_p 6) 0 :: .j (f63_C_r1 k) :: f63_F_r1 k) := (Eq.trans ap_sq (ap_cons _ (Eq.trans ap_sq (ap_cons _ (Eq.trans (ap_pass (C := (f63_C_r1 k)) (fun _ => rfl)) (ap_cons _ (f63_f_r1 k)))))))
theorem f63_eq (k : Nat) (xs : DL f63_sig) : den T f63_Y (f63_E k) f63_A k f63_c 0 (σ0 39 128 f63_sig xs) (Kfin T f63_rs f63_ts) = f63 k xs.1 xs.2.1 xs.2.2.1 :=
  Eq.trans (Eq.trans den_sb (ap_at (f63_fe k) _)) ((f63_entry_P k (f63_C_r1 k) xs).trans (by rw [f63_r1_E k] <;> rfl))
noncomputable def f63_con (k : Nat) : Con := ⟨f63_sig, f63_rs, fun xs => f63 k xs.1 xs.2.1 xs.2.2.1⟩
theorem f63_ok (k : Nat) : PureOK Try.prog 63 f63_sig f63_rs (fun xs => f63 k xs.1 xs.2.1 xs.2.2.1) :=
  (pure_of_den (k := k) (A := f63_A) (T := T) (Y := f63_Y) (E := f63_E k) (M := 128) (ts := f63_ts) T_ok ⟨f46_ok k, f62_ok k, trivial⟩ ⟨f46_ent, f62_ent, trivial⟩ mixed (f := 63) (fn := Try.f63) (c := f63_c) (by kernel_rfl) (by kernel_rfl) (by kernel_rfl) (by decide) (by kernel_rfl)).congr fun xs => (f63_eq k xs).symm
theorem f63_ent : Ent Try.prog 63 := fun args w => by kernel_rfl
/-! ### terrier/net.Cost: function 33 -/
noncomputable def f33_c : Code := Try.f33.body.getD .skip
noncomputable abbrev f33_p (n : Nat) : Code := sb f33_c n
abbrev f33_sig : List PT := [(true, Tq9), (false, Tq1)]
abbrev f33_rs : List RT := [.d false (.int .i64), .d false (.int .i64)]
abbrev f33_ts : List RV := [.tmp 4, .tmp 5]
abbrev f33_S := St → Option (RDL f33_rs)
abbrev f33_L := List (Fr (RDL f33_rs))
def f33_Y : Tys := []
noncomputable def f33_E (k : Nat) : Env := [(49, .c (f49_con k)), (62, .c (f62_con k)), (63, .c (f63_con k))]
def f33_A : Ann := { loops := [(0, { slots := [(1, .val false (.int .i64)), (2, .id), (7, .id), (15, .val false (.int .i64)), (16, .id), (17, .id)], keys := [(2, [.val false Tq2, .val false Tq6, .val false Tq2])] })], regs := [(10, { slots := [(1, .val false (.int .i64)), (2, .id), (7, .id), (8, .id), (9, .id), (15, .val false (.int .i64)), (16, .id), (17, .id), (46, .bool)], keys := [(2, [.val false Tq2, .val false Tq6, .val false Tq2])] }), (12, { slots := [(1, .val false (.int .i64)), (2, .id), (7, .id), (9, .id), (15, .val false (.int .i64)), (16, .id), (17, .id), (59, .bool)], keys := [(2, [.val false Tq2, .val false Tq6, .val false Tq2])] })] }
noncomputable abbrev f33_a (k : Nat) (F : f33_L) : Kont (RDL f33_rs) := ap T f33_Y (f33_E k) f33_A k (Kfin T f33_rs f33_ts) F
def f33_s_l0 (y2_0 : (List (Int × Int))) (y2_1 : (List (Int × (Int × (Int × Int))))) (y2_2 : (List (Int × Int))) (x1 : (List Int)) (x16 : Int) (x17 : Int) (x7 : Int) : St := mkS 70 224 [(1, aV (.int .i64) x1), (2, aP 2), (7, aI x7), (15, aV (.int .i64) x1), (16, aI x16), (17, aI x17)] [(2, .box [cV Tq2 y2_0, cV Tq6 y2_1, cV Tq2 y2_2])]
abbrev f33_t_l0 := (List (Int × Int)) → (List (Int × (Int × (Int × Int)))) → (List (Int × Int)) → (List Int) → Int → Int → Int → Option (Int × Int × Unit)
abbrev f33_o_l0 (R : f33_S) : f33_t_l0 := (fun y2_0 y2_1 y2_2 x1 x16 x17 x7 => R (f33_s_l0 y2_0 y2_1 y2_2 x1 x16 x17 x7))
noncomputable def f33_Q_l0 (k : Nat) (R_l0 : f33_S) : f33_L := [.c (f33_p 244) 0, .j (fun σ => R_l0 (cut f33_A.loops 0 σ)), .blk 0, .c (f33_p 31) 0]
noncomputable def f33_C_l0 (k : Nat) (n : Nat) (σ : St) : Option (RDL f33_rs) := loopK (fun σ K => den T f33_Y (f33_E k) f33_A k (f33_p 244) 0 σ K) (cut f33_A.loops 0) (f33_a k [.blk 0, .c (f33_p 31) 0]) n σ
def f33_s_r10 (y2_0 : (List (Int × Int))) (y2_1 : (List (Int × (Int × (Int × Int))))) (y2_2 : (List (Int × Int))) (x1 : (List Int)) (x16 : Int) (x17 : Int) (x46 : Bool) (x7 : Int) (x9 : Int) : St := mkS 70 224 [(1, aV (.int .i64) x1), (2, aP 2), (7, aI x7), (8, aI x17), (9, aI x9), (15, aV (.int .i64) x1), (16, aI x16), (17, aI x17), (46, aB x46)] [(2, .box [cV Tq2 y2_0, cV Tq6 y2_1, cV Tq2 y2_2])]
abbrev f33_t_r10 := (List (Int × Int)) → (List (Int × (Int × (Int × Int)))) → (List (Int × Int)) → (List Int) → Int → Int → Bool → Int → Int → Option (Int × Int × Unit)
abbrev f33_o_r10 (R : f33_S) : f33_t_r10 := (fun y2_0 y2_1 y2_2 x1 x16 x17 x46 x7 x9 => R (f33_s_r10 y2_0 y2_1 y2_2 x1 x16 x17 x46 x7 x9))
noncomputable def f33_Q_r10 (k : Nat) (R_l0 : f33_S) : f33_L := [.c (f33_p 62669) 1, .c (f33_p 31335) 1, .blk 1, .c (f33_p 1959) 0, .j (fun σ => R_l0 (cut f33_A.loops 0 σ)), .blk 0, .c (f33_p 31) 0]
noncomputable def f33_C_r10 (k : Nat) (R_l0 : f33_S) : f33_S := fun σ => f33_a k (f33_Q_r10 k R_l0) .nx σ
def f33_s_r12 (y2_0 : (List (Int × Int))) (y2_1 : (List (Int × (Int × (Int × Int))))) (y2_2 : (List (Int × Int))) (x1 : (List Int)) (x16 : Int) (x17 : Int) (x59 : Bool) (x7 : Int) (x9 : Int) : St := mkS 70 224 [(1, aV (.int .i64) x1), (2, aP 2), (7, aI x7), (9, aI x9), (15, aV (.int .i64) x1), (16, aI x16), (17, aI x17), (59, aB x59)] [(2, .box [cV Tq2 y2_0, cV Tq6 y2_1, cV Tq2 y2_2])]
abbrev f33_t_r12 := (List (Int × Int)) → (List (Int × (Int × (Int × Int)))) → (List (Int × Int)) → (List Int) → Int → Int → Bool → Int → Int → Option (Int × Int × Unit)
abbrev f33_o_r12 (R : f33_S) : f33_t_r12 := (fun y2_0 y2_1 y2_2 x1 x16 x17 x59 x7 x9 => R (f33_s_r12 y2_0 y2_1 y2_2 x1 x16 x17 x59 x7 x9))
noncomputable def f33_Q_r12 (k : Nat) (R_l0 : f33_S) : f33_L := [.c (f33_p 125341) 1, .c (f33_p 62671) 1, .blk 1, .c (f33_p 1959) 0, .j (fun σ => R_l0 (cut f33_A.loops 0 σ)), .blk 0, .c (f33_p 31) 0]
noncomputable def f33_C_r12 (k : Nat) (R_l0 : f33_S) : f33_S := fun σ => f33_a k (f33_Q_r12 k R_l0) .nx σ
noncomputable def f33_F_r12 (k : Nat) (G_l0 : f33_S) : f33_L := .c (f33_p 125341) 1 :: .c (f33_p 62671) 1 :: .blk 1 :: .c (f33_p 1959) 0 :: .j (fun σ => G_l0 (cut f33_A.loops 0 σ)) :: .blk 0 :: .c (f33_p 31) 0 :: []
theorem f33_f_r12 (k : Nat) (R_l0 : f33_S) : f33_a k (f33_Q_r12 k R_l0) = f33_a k (f33_F_r12 k R_l0) := (ap_cons _ (ap_cons _ (ap_cons _ (ap_cons _ (ap_cons _ (ap_cons _ (ap_cons _ rfl)))))))
noncomputable def f33_F_r10 (k : Nat) (G_l0 G_r12 : f33_S) : f33_L := .c (f33_p 62669) 1 :: .c (f33_p 125340) 1 :: .j G_r12 :: f33_F_r12 k G_l0
theorem f33_f_r10 (k : Nat) (R_l0 : f33_S) : f33_a k (f33_Q_r10 k R_l0) = f33_a k (f33_F_r10 k R_l0 (f33_C_r12 k R_l0)) := (ap_cons _ (Eq.trans ap_sq (Eq.trans ap_sq (ap_cons _ (Eq.trans (ap_pass (C := (f33_C_r12 k R_l0)) (fun _ => rfl)) (ap_cons _ (f33_f_r12 k R_l0)))))))
noncomputable def f33_F_l0 (k : Nat) (G_l0 G_r10 G_r12 : f33_S) : f33_L := .c (f33_p 488) 0 :: .c (f33_p 978) 0 :: .j (fun σ => f33_a k (.c (f33_p 7832) 1 :: .c (f33_p 15666) 1 :: .c (f33_p 62668) 1 :: .j G_r10 :: f33_F_r10 k G_l0 G_r12) .nx σ) :: .c (f33_p 1959) 0 :: .j (fun σ => G_l0 (cut f33_A.loops 0 σ)) :: .blk 0 :: .c (f33_p 31) 0 :: []
theorem f33_f_l0 (k : Nat) (R_l0 : f33_S) : f33_a k (f33_Q_l0 k R_l0) = f33_a k (f33_F_l0 k R_l0 (f33_C_r10 k R_l0) (f33_C_r12 k R_l0)) := (Eq.trans ap_sq (ap_cons _ (Eq.trans ap_sq (ap_cons _ (Eq.trans ap_sq (Eq.trans (ap_bl 1) (Eq.trans (ap_j (Eq.trans ap_sq (ap_cons _ (Eq.trans ap_sq (ap_cons _ (Eq.trans ap_sq (Eq.trans ap_sq (ap_cons _ (Eq.trans (ap_pass (C := (f33_C_r10 k R_l0)) (fun _ => rfl)) (ap_cons _ (f33_f_r10 k R_l0))))))))))) (ap_cons _ (ap_cons _ (ap_cons _ (ap_cons _ (ap_cons _ rfl))))))))))))
def f33_entry_B (k : Nat) (g_l0 : f33_t_l0) (a0 : Td12) (a1 : (List Int)) : Option (Int × Int × Unit) := ((f49 k (a0.1, (a0.2.1, a0.2.2))).bind fun r1 => (if ¬ (r1.1 = 0) then some (0, r1.1, ()) else (g_l0 a0.1 a0.2.1 a0.2.2 a1 (a1.length : Int) 0 0)))
def f33_l0_B (k : Nat) (g_r10 : f33_t_r10) (y2_0 : (List (Int × Int))) (y2_1 : (List (Int × (Int × (Int × Int))))) (y2_2 : (List (Int × Int))) (x1 : (List Int)) (x16 : Int) (x17 : Int) (x7 : Int) : Option (Int × Int × Unit) := (if x17 < x16 then (if 0 ≤ x17 then (if x17 < (x1.length : Int) then ((f62 k (y2_0, (y2_1, y2_2)) (x1.getD (x17).toNat 0)).bind fun r1 => (if ¬ (r1.1 = true) then some (0, 1, ()) else (if 0 < x17 then (if 0 ≤ (w64 (x17 - 1)) then (if (w64 (x17 - 1)) < (x1.length : Int) then (if 0 ≤ (x1.getD (w64 (x17 - 1)).toNat 0) then (if (x1.getD (w64 (x17 - 1)).toNat 0) < (y2_1.length : Int) then (if 0 ≤ (x1.getD (x17).toNat 0) then (if (x1.getD (x17).toNat 0) < (y2_1.length : Int) then (g_r10 y2_0 y2_1 y2_2 x1 x16 x17 (decide (¬ ((((y2_1.getD ((x1.getD (w64 (x17 - 1)).toNat 0)).toNat (0, (0, (0, 0)))).2).1) = ((y2_1.getD ((x1.getD (x17).toNat 0)).toNat (0, (0, (0, 0)))).1)))) x7 (x1.getD (x17).toNat 0)) else none) else none) else none) else none) else none) else none) else (g_r10 y2_0 y2_1 y2_2 x1 x16 x17 false x7 (x1.getD (x17).toNat 0))))) else none) else none) else some (x7, 0, ()))
def f33_r10_B (k : Nat) (g_r12 : f33_t_r12) (y2_0 : (List (Int × Int))) (y2_1 : (List (Int × (Int × (Int × Int))))) (y2_2 : (List (Int × Int))) (x1 : (List Int)) (x16 : Int) (x17 : Int) (x46 : Bool) (x7 : Int) (x9 : Int) : Option (Int × Int × Unit) := (if x46 = true then some (0, 9, ()) else (if 0 < x17 then (if 0 ≤ (w64 (x17 - 1)) then (if (w64 (x17 - 1)) < (x1.length : Int) then ((f63 k (y2_0, (y2_1, y2_2)) (x1.getD (w64 (x17 - 1)).toNat 0) x9).bind fun r1 => (g_r12 y2_0 y2_1 y2_2 x1 x16 x17 (decide (¬ (r1.1 = true))) x7 x9)) else none) else none) else (g_r12 y2_0 y2_1 y2_2 x1 x16 x17 false x7 x9)))
def f33_r12_B (k : Nat) (g_l0 : f33_t_l0) (y2_0 : (List (Int × Int))) (y2_1 : (List (Int × (Int × (Int × Int))))) (y2_2 : (List (Int × Int))) (x1 : (List Int)) (x16 : Int) (x17 : Int) (x59 : Bool) (x7 : Int) (x9 : Int) : Option (Int × Int × Unit) := (if x59 = true then some (0, 19, ()) else (if 0 ≤ x9 then (if x9 < (y2_1.length : Int) then (g_l0 y2_0 y2_1 y2_2 x1 x16 (w64 (x17 + 1)) (w64 (x7 + ((((y2_1.getD (x9).toNat (0, (0, (0, 0)))).2).2).1)))) else none) else none))
theorem f33_r12_P (k : Nat) (G_l0 : f33_S) : f33_o_r12 (fun σ => f33_a k (f33_F_r12 k G_l0) .nx σ) = f33_r12_B k (f33_o_l0 G_l0) := by kernel_rfl
def f33_r12 (k : Nat) (r_l0 : f33_t_l0) : f33_t_r12 := f33_r12_B k r_l0
theorem f33_r12_E (k : Nat) (R_l0 : f33_S) : f33_o_r12 (f33_C_r12 k R_l0) = f33_r12 k (f33_o_l0 R_l0) :=
  Eq.trans (congrArg f33_o_r12 (ap_fn (f33_f_r12 k R_l0))) ((f33_r12_P k R_l0).trans (by rfl))
theorem f33_r10_P (k : Nat) (G_l0 G_r12 : f33_S) : f33_o_r10 (fun σ => f33_a k (f33_F_r10 k G_l0 G_r12) .nx σ) = f33_r10_B k (f33_o_r12 G_r12) := by kernel_rfl
def f33_r10 (k : Nat) (r_l0 : f33_t_l0) : f33_t_r10 := f33_r10_B k (f33_r12 k r_l0)
theorem f33_r10_E (k : Nat) (R_l0 : f33_S) : f33_o_r10 (f33_C_r10 k R_l0) = f33_r10 k (f33_o_l0 R_l0) :=
  Eq.trans (congrArg f33_o_r10 (ap_fn (f33_f_r10 k R_l0))) ((f33_r10_P k R_l0 (f33_C_r12 k R_l0)).trans (by rw [f33_r12_E k R_l0] <;> rfl))
theorem f33_l0_P (k : Nat) (G_l0 G_r10 G_r12 : f33_S) : f33_o_l0 (fun σ => f33_a k (f33_F_l0 k G_l0 G_r10 G_r12) .nx σ) = f33_l0_B k (f33_o_r10 G_r10) := by kernel_rfl
def f33_l0 (k : Nat) : Nat → f33_t_l0
  | 0 => fun _ _ _ _ _ _ _ => none
  | n + 1 => f33_l0_B k (f33_r10 k (f33_l0 k n))
theorem f33_l0_E (k : Nat) : ∀ n, f33_o_l0 (f33_C_l0 k n) = f33_l0 k n
  | 0 => rfl
  | n + 1 =>
    Eq.trans (congrArg f33_o_l0 (Eq.trans (b := fun σ => f33_a k (f33_Q_l0 k (f33_C_l0 k n)) .nx σ) (by kernel_rfl) (ap_fn (f33_f_l0 k (f33_C_l0 k n))))) ((f33_l0_P k (f33_C_l0 k n) (f33_C_r10 k (f33_C_l0 k n)) (f33_C_r12 k (f33_C_l0 k n))).trans (by rw [f33_r10_E k (f33_C_l0 k n), f33_l0_E k n] <;> rfl))
theorem f33_entry_P (k : Nat) (G_l0 : f33_S) (xs : DL f33_sig) : f33_a k (.c (f33_p 2) 0 :: .c (f33_p 6) 0 :: .c (f33_p 14) 0 :: .c (f33_p 60) 0 :: .j (fun σ => f33_a k (.j (fun σ => G_l0 (cut f33_A.loops 0 σ)) :: .blk 0 :: .c (f33_p 31) 0 :: []) .nx σ) :: .c (f33_p 31) 0 :: []) .nx (σ0 70 224 f33_sig xs) = f33_entry_B k (f33_o_l0 G_l0) xs.1 xs.2.1 := by kernel_rfl
def f33 (k : Nat) (a0 : Td12) (a1 : (List Int)) : Option (Int × Int × Unit) := f33_entry_B k (f33_l0 k k) a0 a1
theorem f33_fe (k : Nat) : f33_a k [.c (f33_p 1) 0] = f33_a k (.c (f33_p 2) 0 :: .c (f33_p 6) 0 :: .c (f33_p 14) 0 :: .c (f33_p 60) 0 :: .j (fun σ => f33_a k (.j (fun σ => (f33_C_l0 k k) (cut f33_A.loops 0 σ)) :: .blk 0 :: .c (f33_p 31) 0 :: []) .nx σ) :: .c (f33_p 31) 0 :: []) := (Eq.trans ap_sq (ap_cons _ (Eq.trans ap_sq (ap_cons _ (Eq.trans ap_sq (ap_cons _ (Eq.trans ap_sq (Eq.trans ap_sq (ap_cons _ (Eq.trans (ap_bl 0) (Eq.trans (ap_j (Eq.trans (ap_lp (C := (f33_C_l0 k)) (fun _ _ => rfl)) (ap_cons _ (ap_cons _ (ap_cons _ rfl))))) (ap_cons _ (ap_cons _ rfl)))))))))))))
theorem f33_eq (k : Nat) (xs : DL f33_sig) : den T f33_Y (f33_E k) f33_A k f33_c 0 (σ0 70 224 f33_sig xs) (Kfin T f33_rs f33_ts) = f33 k xs.1 xs.2.1 :=
  Eq.trans (Eq.trans den_sb (ap_at (f33_fe k) _)) ((f33_entry_P k (f33_C_l0 k k) xs).trans (by rw [f33_l0_E k k] <;> rfl))
noncomputable def f33_con (k : Nat) : Con := ⟨f33_sig, f33_rs, fun xs => f33 k xs.1 xs.2.1⟩
theorem f33_ok (k : Nat) : PureOK Try.prog 33 f33_sig f33_rs (fun xs => f33 k xs.1 xs.2.1) :=
  (pure_of_den (k := k) (A := f33_A) (T := T) (Y := f33_Y) (E := f33_E k) (M := 224) (ts := f33_ts) T_ok ⟨f49_ok k, f62_ok k, f63_ok k, trivial⟩ ⟨f49_ent, f62_ent, f63_ent, trivial⟩ mixed (f := 33) (fn := Try.f33) (c := f33_c) (by kernel_rfl) (by kernel_rfl) (by kernel_rfl) (by decide) (by kernel_rfl)).congr fun xs => (f33_eq k xs).symm
theorem f33_ent : Ent Try.prog 33 := fun args w => by kernel_rfl
/-! ### terrier/terrkeep4.pair: function 51 -/
noncomputable def f51_c : Code := Try.f51.body.getD .skip
noncomputable abbrev f51_p (n : Nat) : Code := sb f51_c n
abbrev f51_sig : List PT := []
abbrev f51_rs : List RT := [.d true Tq9]
abbrev f51_ts : List RV := [.cell 0 27]
abbrev f51_S := St → Option (RDL f51_rs)
abbrev f51_L := List (Fr (RDL f51_rs))
def f51_Y : Tys := [(36, Tq2), (39, Tq6)]
noncomputable def f51_E (k : Nat) : Env := []
def f51_A : Ann := {}
noncomputable abbrev f51_a (k : Nat) (F : f51_L) : Kont (RDL f51_rs) := ap T f51_Y (f51_E k) f51_A k (Kfin T f51_rs f51_ts) F
def f51_entry_B (k : Nat)  : Option (Td12 × Unit) := some (([(0, 0), (1, 0)], ([(0, (1, (7, 0)))], [])), ())
theorem f51_entry_P (k : Nat) (xs : DL f51_sig) : f51_a k (.c (f51_p 1) 0 :: []) .nx (σ0 7 32 f51_sig xs) = f51_entry_B k  := by kernel_rfl
def f51 (k : Nat)  : Option (Td12 × Unit) := f51_entry_B k 
theorem f51_eq (k : Nat) (xs : DL f51_sig) : den T f51_Y (f51_E k) f51_A k f51_c 0 (σ0 7 32 f51_sig xs) (Kfin T f51_rs f51_ts) = f51 k  :=
  Eq.trans (Eq.trans den_sb (ap_at (ap_cons _ rfl) _)) ((f51_entry_P k xs).trans (by rfl))
noncomputable def f51_con (k : Nat) : Con := ⟨f51_sig, f51_rs, fun xs => f51 k ⟩
theorem f51_ok (k : Nat) : PureOK Try.prog 51 f51_sig f51_rs (fun xs => f51 k ) :=
  (pure_of_den (k := k) (A := f51_A) (T := T) (Y := f51_Y) (E := f51_E k) (M := 32) (ts := f51_ts) T_ok trivial trivial mixed (f := 51) (fn := Try.f51) (c := f51_c) (by kernel_rfl) (by kernel_rfl) (by kernel_rfl) (by decide) (by kernel_rfl)).congr fun xs => (f51_eq k xs).symm
theorem f51_ent : Ent Try.prog 51 := fun args w => by kernel_rfl
/-! ### terrier/net.root: function 74 -/
noncomputable def f74_c : Code := Try.f74.body.getD .skip
noncomputable abbrev f74_p (n : Nat) : Code := sb f74_c n
abbrev f74_sig : List PT := [(false, (.int .i64))]
abbrev f74_rs : List RT := [.d false (.int .i64)]
abbrev f74_ts : List RV := [.tmp 2]
abbrev f74_S := St → Option (RDL f74_rs)
abbrev f74_L := List (Fr (RDL f74_rs))
def f74_Y : Tys := []
noncomputable def f74_E (k : Nat) : Env := []
def f74_A : Ann := { loops := [(0, { slots := [(0, .id), (3, .id), (4, .id)] })], conds := [(5, { slots := [(0, .id), (3, .id), (4, .id)] })] }
noncomputable abbrev f74_a (k : Nat) (F : f74_L) : Kont (RDL f74_rs) := ap T f74_Y (f74_E k) f74_A k (Kfin T f74_rs f74_ts) F
def f74_s_l0 (x0 : Int) (x3 : Int) (x4 : Int) : St := mkS 22 80 [(0, aI x0), (3, aI x3), (4, aI x4)] []
abbrev f74_t_l0 := Int → Int → Int → Option (Int × Unit)
abbrev f74_o_l0 (R : f74_S) : f74_t_l0 := (fun x0 x3 x4 => R (f74_s_l0 x0 x3 x4))
noncomputable def f74_Q_l0 (k : Nat) (R_l0 : f74_S) : f74_L := [.c (f74_p 56) 0, .j (fun σ => R_l0 (cut f74_A.loops 0 σ)), .blk 0, .c (f74_p 15) 0]
noncomputable def f74_C_l0 (k : Nat) (n : Nat) (σ : St) : Option (RDL f74_rs) := loopK (fun σ K => den T f74_Y (f74_E k) f74_A k (f74_p 56) 0 σ K) (cut f74_A.loops 0) (f74_a k [.blk 0, .c (f74_p 15) 0]) n σ
def f74_s_c5 (x0 : Int) (x3 : Int) (x4 : Int) : St := mkS 22 80 [(0, aI x0), (3, aI x3), (4, aI x4)] []
abbrev f74_t_c5 := Int → Int → Int → Option (Int × Unit)
abbrev f74_o_c5 (R : f74_S) : f74_t_c5 := (fun x0 x3 x4 => R (f74_s_c5 x0 x3 x4))
noncomputable def f74_Q_c5 (k : Nat) (R_l0 : f74_S) : f74_L := [.blk 1, .j (fun σ => R_l0 (cut f74_A.loops 0 σ)), .blk 0, .c (f74_p 15) 0]
noncomputable def f74_C_c5 (k : Nat) (R_l0 : f74_S) : f74_S := fun σ => f74_a k (f74_Q_c5 k R_l0) .nx σ
noncomputable def f74_F_c5 (k : Nat) (G_l0 : f74_S) : f74_L := .blk 1 :: .j (fun σ => G_l0 (cut f74_A.loops 0 σ)) :: .blk 0 :: .c (f74_p 15) 0 :: []
theorem f74_f_c5 (k : Nat) (R_l0 : f74_S) : f74_a k (f74_Q_c5 k R_l0) = f74_a k (f74_F_c5 k R_l0) := (ap_cons _ (ap_cons _ (ap_cons _ (ap_cons _ rfl))))
noncomputable def f74_F_l0 (k : Nat) (G_l0 G_c5 : f74_S) : f74_L := .c (f74_p 112) 0 :: .j (fun σ => f74_a k (.c (f74_p 452) 1 :: .c (f74_p 906) 1 :: .c (f74_p 907) 1 :: .j G_c5 :: f74_F_c5 k G_l0) .nx σ) :: .j (fun σ => G_l0 (cut f74_A.loops 0 σ)) :: .blk 0 :: .c (f74_p 15) 0 :: []
theorem f74_f_l0 (k : Nat) (R_l0 : f74_S) : f74_a k (f74_Q_l0 k R_l0) = f74_a k (f74_F_l0 k R_l0 (f74_C_c5 k R_l0)) := (Eq.trans ap_sq (ap_cons _ (Eq.trans (ap_bl 1) (Eq.trans (ap_j (Eq.trans ap_sq (ap_cons _ (Eq.trans ap_sq (ap_cons _ (ap_cons _ (Eq.trans (ap_pass (C := (f74_C_c5 k R_l0)) (fun _ => rfl)) (ap_cons _ (f74_f_c5 k R_l0))))))))) (ap_cons _ (ap_cons _ (ap_cons _ (ap_cons _ rfl))))))))
def f74_entry_B (k : Nat) (g_l0 : f74_t_l0) (a0 : Int) : Option (Int × Unit) := (g_l0 a0 0 4194304)
def f74_l0_B (k : Nat) (g_c5 : f74_t_c5) (x0 : Int) (x3 : Int) (x4 : Int) : Option (Int × Unit) := (if 1 < (w64 (x4 - x3)) then (if (w64 ((w64 ((w64 (x3 + x4)).tdiv 2)) * (w64 ((w64 (x3 + x4)).tdiv 2)))) ≤ x0 then (g_c5 x0 (w64 ((w64 (x3 + x4)).tdiv 2)) x4) else (g_c5 x0 x3 (w64 ((w64 (x3 + x4)).tdiv 2)))) else some (x3, ()))
def f74_c5_B (k : Nat) (g_l0 : f74_t_l0) (x0 : Int) (x3 : Int) (x4 : Int) : Option (Int × Unit) := (g_l0 x0 x3 x4)
theorem f74_c5_P (k : Nat) (G_l0 : f74_S) : f74_o_c5 (fun σ => f74_a k (f74_F_c5 k G_l0) .nx σ) = f74_c5_B k (f74_o_l0 G_l0) := by kernel_rfl
def f74_c5 (k : Nat) (r_l0 : f74_t_l0) : f74_t_c5 := f74_c5_B k r_l0
theorem f74_c5_E (k : Nat) (R_l0 : f74_S) : f74_o_c5 (f74_C_c5 k R_l0) = f74_c5 k (f74_o_l0 R_l0) :=
  Eq.trans (congrArg f74_o_c5 (ap_fn (f74_f_c5 k R_l0))) ((f74_c5_P k R_l0).trans (by rfl))
theorem f74_l0_P (k : Nat) (G_l0 G_c5 : f74_S) : f74_o_l0 (fun σ => f74_a k (f74_F_l0 k G_l0 G_c5) .nx σ) = f74_l0_B k (f74_o_c5 G_c5) := by kernel_rfl
def f74_l0 (k : Nat) : Nat → f74_t_l0
  | 0 => fun _ _ _ => none
  | n + 1 => f74_l0_B k (f74_c5 k (f74_l0 k n))
theorem f74_l0_E (k : Nat) : ∀ n, f74_o_l0 (f74_C_l0 k n) = f74_l0 k n
  | 0 => rfl
  | n + 1 =>
    Eq.trans (congrArg f74_o_l0 (Eq.trans (b := fun σ => f74_a k (f74_Q_l0 k (f74_C_l0 k n)) .nx σ) (by kernel_rfl) (ap_fn (f74_f_l0 k (f74_C_l0 k n))))) ((f74_l0_P k (f74_C_l0 k n) (f74_C_c5 k (f74_C_l0 k n))).trans (by rw [f74_c5_E k (f74_C_l0 k n), f74_l0_E k n] <;> rfl))
theorem f74_entry_P (k : Nat) (G_l0 : f74_S) (xs : DL f74_sig) : f74_a k (.c (f74_p 2) 0 :: .c (f74_p 6) 0 :: .j (fun σ => f74_a k (.j (fun σ => G_l0 (cut f74_A.loops 0 σ)) :: .blk 0 :: .c (f74_p 15) 0 :: []) .nx σ) :: .c (f74_p 15) 0 :: []) .nx (σ0 22 80 f74_sig xs) = f74_entry_B k (f74_o_l0 G_l0) xs.1 := by kernel_rfl
def f74 (k : Nat) (a0 : Int) : Option (Int × Unit) := f74_entry_B k (f74_l0 k k) a0
theorem f74_fe (k : Nat) : f74_a k [.c (f74_p 1) 0] = f74_a k (.c (f74_p 2) 0 :: .c (f74_p 6) 0 :: .j (fun σ => f74_a k (.j (fun σ => (f74_C_l0 k k) (cut f74_A.loops 0 σ)) :: .blk 0 :: .c (f74_p 15) 0 :: []) .nx σ) :: .c (f74_p 15) 0 :: []) := (Eq.trans ap_sq (ap_cons _ (Eq.trans ap_sq (ap_cons _ (Eq.trans ap_sq (Eq.trans (ap_bl 0) (Eq.trans (ap_j (Eq.trans (ap_lp (C := (f74_C_l0 k)) (fun _ _ => rfl)) (ap_cons _ (ap_cons _ (ap_cons _ rfl))))) (ap_cons _ (ap_cons _ rfl)))))))))
theorem f74_eq (k : Nat) (xs : DL f74_sig) : den T f74_Y (f74_E k) f74_A k f74_c 0 (σ0 22 80 f74_sig xs) (Kfin T f74_rs f74_ts) = f74 k xs.1 :=
  Eq.trans (Eq.trans den_sb (ap_at (f74_fe k) _)) ((f74_entry_P k (f74_C_l0 k k) xs).trans (by rw [f74_l0_E k k] <;> rfl))
noncomputable def f74_con (k : Nat) : Con := ⟨f74_sig, f74_rs, fun xs => f74 k xs.1⟩
theorem f74_ok (k : Nat) : PureOK Try.prog 74 f74_sig f74_rs (fun xs => f74 k xs.1) :=
  (pure_of_den (k := k) (A := f74_A) (T := T) (Y := f74_Y) (E := f74_E k) (M := 80) (ts := f74_ts) T_ok trivial trivial mixed (f := 74) (fn := Try.f74) (c := f74_c) (by kernel_rfl) (by kernel_rfl) (by kernel_rfl) (by decide) (by kernel_rfl)).congr fun xs => (f74_eq k xs).symm
theorem f74_ent : Ent Try.prog 74 := fun args w => by kernel_rfl
/-! ### terrier/point.way: function 122 -/
noncomputable def f122_c : Code := Try.f122.body.getD .skip
noncomputable abbrev f122_p (n : Nat) : Code := sb f122_c n
abbrev f122_sig : List PT := [(true, Tq2), (true, Tq2)]
abbrev f122_rs : List RT := [.d true Tq2]
abbrev f122_ts : List RV := [.cell 4 36]
abbrev f122_S := St → Option (RDL f122_rs)
abbrev f122_L := List (Fr (RDL f122_rs))
def f122_Y : Tys := []
noncomputable def f122_E (k : Nat) : Env := [(76, .c (f76_con k))]
def f122_A : Ann := {}
noncomputable abbrev f122_a (k : Nat) (F : f122_L) : Kont (RDL f122_rs) := ap T f122_Y (f122_E k) f122_A k (Kfin T f122_rs f122_ts) F
def f122_entry_B (k : Nat) (a0 : (Int × Int)) (a1 : (Int × Int)) : Option ((Int × Int) × Unit) := ((f76 k (a0.1, a0.2)).bind fun r1 => ((f76 k (a1.1, a1.2)).bind fun r2 => some ((w64 (r2.1.1 - r1.1.1), w64 (r2.1.2 - r1.1.2)), ())))
theorem f122_entry_P (k : Nat) (xs : DL f122_sig) : f122_a k (.c (f122_p 1) 0 :: []) .nx (σ0 20 64 f122_sig xs) = f122_entry_B k xs.1 xs.2.1 := by kernel_rfl
def f122 (k : Nat) (a0 : (Int × Int)) (a1 : (Int × Int)) : Option ((Int × Int) × Unit) := f122_entry_B k a0 a1
theorem f122_eq (k : Nat) (xs : DL f122_sig) : den T f122_Y (f122_E k) f122_A k f122_c 0 (σ0 20 64 f122_sig xs) (Kfin T f122_rs f122_ts) = f122 k xs.1 xs.2.1 :=
  Eq.trans (Eq.trans den_sb (ap_at (ap_cons _ rfl) _)) ((f122_entry_P k xs).trans (by rfl))
noncomputable def f122_con (k : Nat) : Con := ⟨f122_sig, f122_rs, fun xs => f122 k xs.1 xs.2.1⟩
theorem f122_ok (k : Nat) : PureOK Try.prog 122 f122_sig f122_rs (fun xs => f122 k xs.1 xs.2.1) :=
  (pure_of_den (k := k) (A := f122_A) (T := T) (Y := f122_Y) (E := f122_E k) (M := 64) (ts := f122_ts) T_ok ⟨f76_ok k, trivial⟩ ⟨f76_ent, trivial⟩ mixed (f := 122) (fn := Try.f122) (c := f122_c) (by kernel_rfl) (by kernel_rfl) (by kernel_rfl) (by decide) (by kernel_rfl)).congr fun xs => (f122_eq k xs).symm
theorem f122_ent : Ent Try.prog 122 := fun args w => by kernel_rfl
/-! ### terrier/point.Dot: function 104 -/
noncomputable def f104_c : Code := Try.f104.body.getD .skip
noncomputable abbrev f104_p (n : Nat) : Code := sb f104_c n
abbrev f104_sig : List PT := [(true, Tq2), (true, Tq2), (true, Tq2)]
abbrev f104_rs : List RT := [.d false (.int .i64)]
abbrev f104_ts : List RV := [.tmp 6]
abbrev f104_S := St → Option (RDL f104_rs)
abbrev f104_L := List (Fr (RDL f104_rs))
def f104_Y : Tys := []
noncomputable def f104_E (k : Nat) : Env := [(122, .c (f122_con k))]
def f104_A : Ann := {}
noncomputable abbrev f104_a (k : Nat) (F : f104_L) : Kont (RDL f104_rs) := ap T f104_Y (f104_E k) f104_A k (Kfin T f104_rs f104_ts) F
def f104_entry_B (k : Nat) (a0 : (Int × Int)) (a1 : (Int × Int)) (a2 : (Int × Int)) : Option (Int × Unit) := ((f122 k (a0.1, a0.2) (a1.1, a1.2)).bind fun r1 => ((f122 k (a0.1, a0.2) (a2.1, a2.2)).bind fun r2 => some (w64 ((w64 (r1.1.1 * r2.1.1)) + (w64 (r1.1.2 * r2.1.2))), ())))
theorem f104_entry_P (k : Nat) (xs : DL f104_sig) : f104_a k (.c (f104_p 1) 0 :: []) .nx (σ0 26 80 f104_sig xs) = f104_entry_B k xs.1 xs.2.1 xs.2.2.1 := by kernel_rfl
def f104 (k : Nat) (a0 : (Int × Int)) (a1 : (Int × Int)) (a2 : (Int × Int)) : Option (Int × Unit) := f104_entry_B k a0 a1 a2
theorem f104_eq (k : Nat) (xs : DL f104_sig) : den T f104_Y (f104_E k) f104_A k f104_c 0 (σ0 26 80 f104_sig xs) (Kfin T f104_rs f104_ts) = f104 k xs.1 xs.2.1 xs.2.2.1 :=
  Eq.trans (Eq.trans den_sb (ap_at (ap_cons _ rfl) _)) ((f104_entry_P k xs).trans (by rfl))
noncomputable def f104_con (k : Nat) : Con := ⟨f104_sig, f104_rs, fun xs => f104 k xs.1 xs.2.1 xs.2.2.1⟩
theorem f104_ok (k : Nat) : PureOK Try.prog 104 f104_sig f104_rs (fun xs => f104 k xs.1 xs.2.1 xs.2.2.1) :=
  (pure_of_den (k := k) (A := f104_A) (T := T) (Y := f104_Y) (E := f104_E k) (M := 80) (ts := f104_ts) T_ok ⟨f122_ok k, trivial⟩ ⟨f122_ent, trivial⟩ mixed (f := 104) (fn := Try.f104) (c := f104_c) (by kernel_rfl) (by kernel_rfl) (by kernel_rfl) (by decide) (by kernel_rfl)).congr fun xs => (f104_eq k xs).symm
theorem f104_ent : Ent Try.prog 104 := fun args w => by kernel_rfl
/-! ### terrier/point.Sq: function 75 -/
noncomputable def f75_c : Code := Try.f75.body.getD .skip
noncomputable abbrev f75_p (n : Nat) : Code := sb f75_c n
abbrev f75_sig : List PT := [(true, Tq2), (true, Tq2)]
abbrev f75_rs : List RT := [.d false (.int .i64)]
abbrev f75_ts : List RV := [.tmp 4]
abbrev f75_S := St → Option (RDL f75_rs)
abbrev f75_L := List (Fr (RDL f75_rs))
def f75_Y : Tys := []
noncomputable def f75_E (k : Nat) : Env := [(104, .c (f104_con k))]
def f75_A : Ann := {}
noncomputable abbrev f75_a (k : Nat) (F : f75_L) : Kont (RDL f75_rs) := ap T f75_Y (f75_E k) f75_A k (Kfin T f75_rs f75_ts) F
def f75_entry_B (k : Nat) (a0 : (Int × Int)) (a1 : (Int × Int)) : Option (Int × Unit) := ((f104 k (a0.1, a0.2) (a1.1, a1.2) (a1.1, a1.2)).bind fun r1 => some (r1.1, ()))
theorem f75_entry_P (k : Nat) (xs : DL f75_sig) : f75_a k (.c (f75_p 1) 0 :: []) .nx (σ0 9 32 f75_sig xs) = f75_entry_B k xs.1 xs.2.1 := by kernel_rfl
def f75 (k : Nat) (a0 : (Int × Int)) (a1 : (Int × Int)) : Option (Int × Unit) := f75_entry_B k a0 a1
theorem f75_eq (k : Nat) (xs : DL f75_sig) : den T f75_Y (f75_E k) f75_A k f75_c 0 (σ0 9 32 f75_sig xs) (Kfin T f75_rs f75_ts) = f75 k xs.1 xs.2.1 :=
  Eq.trans (Eq.trans den_sb (ap_at (ap_cons _ rfl) _)) ((f75_entry_P k xs).trans (by rfl))
noncomputable def f75_con (k : Nat) : Con := ⟨f75_sig, f75_rs, fun xs => f75 k xs.1 xs.2.1⟩
theorem f75_ok (k : Nat) : PureOK Try.prog 75 f75_sig f75_rs (fun xs => f75 k xs.1 xs.2.1) :=
  (pure_of_den (k := k) (A := f75_A) (T := T) (Y := f75_Y) (E := f75_E k) (M := 32) (ts := f75_ts) T_ok ⟨f104_ok k, trivial⟩ ⟨f104_ent, trivial⟩ mixed (f := 75) (fn := Try.f75) (c := f75_c) (by kernel_rfl) (by kernel_rfl) (by kernel_rfl) (by decide) (by kernel_rfl)).congr fun xs => (f75_eq k xs).symm
theorem f75_ent : Ent Try.prog 75 := fun args w => by kernel_rfl
/-! ### terrier/net.Long: function 52 -/
noncomputable def f52_c : Code := Try.f52.body.getD .skip
noncomputable abbrev f52_p (n : Nat) : Code := sb f52_c n
abbrev f52_sig : List PT := [(true, Tq2), (true, Tq2), (false, (.int .i64))]
abbrev f52_rs : List RT := [.d false (.int .i64)]
abbrev f52_ts : List RV := [.tmp 6]
abbrev f52_S := St → Option (RDL f52_rs)
abbrev f52_L := List (Fr (RDL f52_rs))
def f52_Y : Tys := []
noncomputable def f52_E (k : Nat) : Env := [(74, .c (f74_con k)), (75, .c (f75_con k)), (76, .c (f76_con k))]
def f52_A : Ann := { regs := [(1, { slots := [(2, .id), (3, .id), (4, .id), (13, .bool)], keys := [(3, []), (4, [])] })], conds := [(2, { slots := [(2, .id), (3, .id), (4, .id)], keys := [(3, []), (4, [])] })] }
noncomputable abbrev f52_a (k : Nat) (F : f52_L) : Kont (RDL f52_rs) := ap T f52_Y (f52_E k) f52_A k (Kfin T f52_rs f52_ts) F
def f52_s_r1 (y3_0 : Int) (y3_1 : Int) (y4_0 : Int) (y4_1 : Int) (x13 : Bool) (x2 : Int) : St := mkS 27 96 [(2, aI x2), (3, aP 3), (4, aP 4), (13, aB x13)] [(3, .box [cI y3_0, cI y3_1]), (4, .box [cI y4_0, cI y4_1])]
abbrev f52_t_r1 := Int → Int → Int → Int → Bool → Int → Option (Int × Unit)
abbrev f52_o_r1 (R : f52_S) : f52_t_r1 := (fun y3_0 y3_1 y4_0 y4_1 x13 x2 => R (f52_s_r1 y3_0 y3_1 y4_0 y4_1 x13 x2))
noncomputable def f52_Q_r1 (k : Nat) : f52_L := [.c (f52_p 13) 0, .c (f52_p 7) 0]
noncomputable def f52_C_r1 (k : Nat) : f52_S := fun σ => f52_a k (f52_Q_r1 k) .nx σ
def f52_s_c2 (y3_0 : Int) (y3_1 : Int) (y4_0 : Int) (y4_1 : Int) (x2 : Int) : St := mkS 27 96 [(2, aI x2), (3, aP 3), (4, aP 4)] [(3, .box [cI y3_0, cI y3_1]), (4, .box [cI y4_0, cI y4_1])]
abbrev f52_t_c2 := Int → Int → Int → Int → Int → Option (Int × Unit)
abbrev f52_o_c2 (R : f52_S) : f52_t_c2 := (fun y3_0 y3_1 y4_0 y4_1 x2 => R (f52_s_c2 y3_0 y3_1 y4_0 y4_1 x2))
noncomputable def f52_Q_c2 (k : Nat) : f52_L := [.c (f52_p 7) 0]
noncomputable def f52_C_c2 (k : Nat) : f52_S := fun σ => f52_a k (f52_Q_c2 k) .nx σ
noncomputable def f52_F_c2 (k : Nat) : f52_L := .c (f52_p 7) 0 :: []
theorem f52_f_c2 (k : Nat) : f52_a k (f52_Q_c2 k) = f52_a k (f52_F_c2 k) := (ap_cons _ rfl)
noncomputable def f52_F_r1 (k : Nat) (G_c2 : f52_S) : f52_L := .c (f52_p 13) 0 :: .j G_c2 :: f52_F_c2 k
theorem f52_f_r1 (k : Nat) : f52_a k (f52_Q_r1 k) = f52_a k (f52_F_r1 k (f52_C_c2 k)) := (ap_cons _ (Eq.trans (ap_pass (C := (f52_C_c2 k)) (fun _ => rfl)) (ap_cons _ (f52_f_c2 k))))
def f52_entry_B (k : Nat) (g_r1 : f52_t_r1) (a0 : (Int × Int)) (a1 : (Int × Int)) (a2 : Int) : Option (Int × Unit) := (if a2 < 1 then (g_r1 a0.1 a0.2 a1.1 a1.2 true a2) else (g_r1 a0.1 a0.2 a1.1 a1.2 (decide (1000 < a2)) a2))
def f52_r1_B (k : Nat) (g_c2 : f52_t_c2) (y3_0 : Int) (y3_1 : Int) (y4_0 : Int) (y4_1 : Int) (x13 : Bool) (x2 : Int) : Option (Int × Unit) := (if x13 = true then (g_c2 y3_0 y3_1 y4_0 y4_1 100) else (g_c2 y3_0 y3_1 y4_0 y4_1 x2))
def f52_c2_B (k : Nat) (y3_0 : Int) (y3_1 : Int) (y4_0 : Int) (y4_1 : Int) (x2 : Int) : Option (Int × Unit) := ((f76 k (y3_0, y3_1)).bind fun r1 => ((f76 k (y4_0, y4_1)).bind fun r2 => ((f75 k (r1.1.1, r1.1.2) (r2.1.1, r2.1.2)).bind fun r3 => ((f74 k r3.1).bind fun r4 => (if ¬ x2 = 0 then some (w64 ((w64 ((w64 ((w64 (r4.1 * 100)) + x2)) - 1)).tdiv x2), ()) else none)))))
theorem f52_c2_P (k : Nat) : f52_o_c2 (fun σ => f52_a k (f52_F_c2 k) .nx σ) = f52_c2_B k := by kernel_rfl
def f52_c2 (k : Nat) : f52_t_c2 := f52_c2_B k
theorem f52_c2_E (k : Nat) : f52_o_c2 (f52_C_c2 k) = f52_c2 k :=
  Eq.trans (congrArg f52_o_c2 (ap_fn (f52_f_c2 k))) ((f52_c2_P k).trans (by rfl))
theorem f52_r1_P (k : Nat) (G_c2 : f52_S) : f52_o_r1 (fun σ => f52_a k (f52_F_r1 k G_c2) .nx σ) = f52_r1_B k (f52_o_c2 G_c2) := by kernel_rfl
def f52_r1 (k : Nat) : f52_t_r1 := f52_r1_B k (f52_c2 k)
theorem f52_r1_E (k : Nat) : f52_o_r1 (f52_C_r1 k) = f52_r1 k :=
  Eq.trans (congrArg f52_o_r1 (ap_fn (f52_f_r1 k))) ((f52_r1_P k (f52_C_c2 k)).trans (by rw [f52_c2_E k] <;> rfl))
theorem f52_entry_P (k : Nat) (G_r1 G_c2 : f52_S) (xs : DL f52_sig) : f52_a k (.c (f52_p 2) 0 :: .c (f52_p 12) 0 :: .j G_r1 :: f52_F_r1 k G_c2) .nx (σ0 27 96 f52_sig xs) = f52_entry_B k (f52_o_r1 G_r1) xs.1 xs.2.1 xs.2.2.1 := by kernel_rfl
def f52 (k : Nat) (a0 : (Int × Int)) (a1 : (Int × Int)) (a2 : Int) : Option (Int × Unit) := f52_entry_B k (f52_r1 k) a0 a1 a2
theorem f52_fe (k : Nat) : f52_a k [.c (f52_p 1) 0] = f52_a k (.c (f52_p 2) 0 :: .c (f52_p 12) 0 :: .j (f52_C_r1 k) :: f52_F_r1 k (f52_C_c2 k)) := (Eq.trans ap_sq (ap_cons _ (Eq.trans ap_sq (Eq.trans ap_sq (ap_cons _ (Eq.trans (ap_pass (C := (f52_C_r1 k)) (fun _ => rfl)) (ap_cons _ (f52_f_r1 k))))))))
theorem f52_eq (k : Nat) (xs : DL f52_sig) : den T f52_Y (f52_E k) f52_A k f52_c 0 (σ0 27 96 f52_sig xs) (Kfin T f52_rs f52_ts) = f52 k xs.1 xs.2.1 xs.2.2.1 :=
  Eq.trans (Eq.trans den_sb (ap_at (f52_fe k) _)) ((f52_entry_P k (f52_C_r1 k) (f52_C_c2 k) xs).trans (by rw [f52_r1_E k] <;> rfl))
noncomputable def f52_con (k : Nat) : Con := ⟨f52_sig, f52_rs, fun xs => f52 k xs.1 xs.2.1 xs.2.2.1⟩
theorem f52_ok (k : Nat) : PureOK Try.prog 52 f52_sig f52_rs (fun xs => f52 k xs.1 xs.2.1 xs.2.2.1) :=
  (pure_of_den (k := k) (A := f52_A) (T := T) (Y := f52_Y) (E := f52_E k) (M := 96) (ts := f52_ts) T_ok ⟨f74_ok k, f75_ok k, f76_ok k, trivial⟩ ⟨f74_ent, f75_ent, f76_ent, trivial⟩ mixed (f := 52) (fn := Try.f52) (c := f52_c) (by kernel_rfl) (by kernel_rfl) (by kernel_rfl) (by decide) (by kernel_rfl)).congr fun xs => (f52_eq k xs).symm
theorem f52_ent : Ent Try.prog 52 := fun args w => by kernel_rfl
/-! ### terrier/terrkeep4.netted: function 16 -/
noncomputable def f16_c : Code := Try.f16.body.getD .skip
noncomputable abbrev f16_p (n : Nat) : Code := sb f16_c n
abbrev f16_sig : List PT := []
abbrev f16_rs : List RT := [.d false .bool]
abbrev f16_ts : List RV := [.tmp 0]
abbrev f16_S := St → Option (RDL f16_rs)
abbrev f16_L := List (Fr (RDL f16_rs))
def f16_Y : Tys := [(3, (.int .i64))]
noncomputable def f16_E (k : Nat) : Env := [(33, .c (f33_con k)), (51, .c (f51_con k)), (52, .c (f52_con k))]
def f16_A : Ann := { regs := [(2, { slots := [(0, .bool)] })] }
noncomputable abbrev f16_a (k : Nat) (F : f16_L) : Kont (RDL f16_rs) := ap T f16_Y (f16_E k) f16_A k (Kfin T f16_rs f16_ts) F
def f16_s_r2 (x0 : Bool) : St := mkS 21 64 [(0, aB x0)] []
abbrev f16_t_r2 := Bool → Option (Bool × Unit)
abbrev f16_o_r2 (R : f16_S) : f16_t_r2 := (fun x0 => R (f16_s_r2 x0))
noncomputable def f16_Q_r2 (k : Nat) : f16_L := [.c (f16_p 15) 0]
noncomputable def f16_C_r2 (k : Nat) : f16_S := fun σ => f16_a k (f16_Q_r2 k) .nx σ
noncomputable def f16_F_r2 (k : Nat) : f16_L := .c (f16_p 15) 0 :: []
theorem f16_f_r2 (k : Nat) : f16_a k (f16_Q_r2 k) = f16_a k (f16_F_r2 k) := (ap_cons _ rfl)
def f16_entry_B (k : Nat) (g_r2 : f16_t_r2)  : Option (Bool × Unit) := ((f51 k ).bind fun r1 => ((f33 k (r1.1.1, (r1.1.2.1, r1.1.2.2)) ([0])).bind fun r2 => (if r2.2.1 = 0 then (if r2.1 = 7 then ((f52 k (0, 0) (3, 4) 0).bind fun r3 => (g_r2 (decide (r3.1 = 5)))) else (g_r2 false)) else (g_r2 false))))
def f16_r2_B (k : Nat) (x0 : Bool) : Option (Bool × Unit) := some (decide (x0 = true), ())
theorem f16_r2_P (k : Nat) : f16_o_r2 (fun σ => f16_a k (f16_F_r2 k) .nx σ) = f16_r2_B k := by kernel_rfl
def f16_r2 (k : Nat) : f16_t_r2 := f16_r2_B k
theorem f16_r2_E (k : Nat) : f16_o_r2 (f16_C_r2 k) = f16_r2 k :=
  Eq.trans (congrArg f16_o_r2 (ap_fn (f16_f_r2 k))) ((f16_r2_P k).trans (by rfl))
theorem f16_entry_P (k : Nat) (G_r2 : f16_S) (xs : DL f16_sig) : f16_a k (.c (f16_p 2) 0 :: .c (f16_p 6) 0 :: .c (f16_p 14) 0 :: .j G_r2 :: f16_F_r2 k) .nx (σ0 21 64 f16_sig xs) = f16_entry_B k (f16_o_r2 G_r2)  := by kernel_rfl
def f16 (k : Nat)  : Option (Bool × Unit) := f16_entry_B k (f16_r2 k) 
theorem f16_fe (k : Nat) : f16_a k [.c (f16_p 1) 0] = f16_a k (.c (f16_p 2) 0 :: .c (f16_p 6) 0 :: .c (f16_p 14) 0 :: .j (f16_C_r2 k) :: f16_F_r2 k) := (Eq.trans ap_sq (ap_cons _ (Eq.trans ap_sq (ap_cons _ (Eq.trans ap_sq (ap_cons _ (Eq.trans (ap_pass (C := (f16_C_r2 k)) (fun _ => rfl)) (ap_cons _ (f16_f_r2 k)))))))))
theorem f16_eq (k : Nat) (xs : DL f16_sig) : den T f16_Y (f16_E k) f16_A k f16_c 0 (σ0 21 64 f16_sig xs) (Kfin T f16_rs f16_ts) = f16 k  :=
  Eq.trans (Eq.trans den_sb (ap_at (f16_fe k) _)) ((f16_entry_P k (f16_C_r2 k) xs).trans (by rw [f16_r2_E k] <;> rfl))
noncomputable def f16_con (k : Nat) : Con := ⟨f16_sig, f16_rs, fun xs => f16 k ⟩
theorem f16_ok (k : Nat) : PureOK Try.prog 16 f16_sig f16_rs (fun xs => f16 k ) :=
  (pure_of_den (k := k) (A := f16_A) (T := T) (Y := f16_Y) (E := f16_E k) (M := 64) (ts := f16_ts) T_ok ⟨f33_ok k, f51_ok k, f52_ok k, trivial⟩ ⟨f33_ent, f51_ent, f52_ent, trivial⟩ mixed (f := 16) (fn := Try.f16) (c := f16_c) (by kernel_rfl) (by kernel_rfl) (by kernel_rfl) (by decide) (by kernel_rfl)).congr fun xs => (f16_eq k xs).symm
theorem f16_ent : Ent Try.prog 16 := fun args w => by kernel_rfl
/-! ### slices.Equal[[]terrier/api.Point,terrier/api.Point]: function 17 -/
noncomputable def f17_c : Code := Try.f17.body.getD .skip
noncomputable abbrev f17_p (n : Nat) : Code := sb f17_c n
abbrev f17_sig : List PT := [(false, Tq3), (false, Tq3)]
abbrev f17_rs : List RT := [.d false .bool]
abbrev f17_ts : List RV := [.tmp 4]
abbrev f17_S := St → Option (RDL f17_rs)
abbrev f17_L := List (Fr (RDL f17_rs))
def f17_Y : Tys := []
noncomputable def f17_E (k : Nat) : Env := []
def f17_A : Ann := { loops := [(0, { slots := [(0, .val false Tq2), (1, .val false Tq2), (12, .id), (13, .id)] })] }
noncomputable abbrev f17_a (k : Nat) (F : f17_L) : Kont (RDL f17_rs) := ap T f17_Y (f17_E k) f17_A k (Kfin T f17_rs f17_ts) F
def f17_s_l0 (x0 : (List (Int × Int))) (x1 : (List (Int × Int))) (x12 : Int) (x13 : Int) : St := mkS 26 80 [(0, aV Tq2 x0), (1, aV Tq2 x1), (12, aI x12), (13, aI x13)] []
abbrev f17_t_l0 := (List (Int × Int)) → (List (Int × Int)) → Int → Int → Option (Bool × Unit)
abbrev f17_o_l0 (R : f17_S) : f17_t_l0 := (fun x0 x1 x12 x13 => R (f17_s_l0 x0 x1 x12 x13))
noncomputable def f17_Q_l0 (k : Nat) (R_l0 : f17_S) : f17_L := [.c (f17_p 116) 0, .j (fun σ => R_l0 (cut f17_A.loops 0 σ)), .blk 0, .c (f17_p 15) 0]
noncomputable def f17_C_l0 (k : Nat) (n : Nat) (σ : St) : Option (RDL f17_rs) := loopK (fun σ K => den T f17_Y (f17_E k) f17_A k (f17_p 116) 0 σ K) (cut f17_A.loops 0) (f17_a k [.blk 0, .c (f17_p 15) 0]) n σ
noncomputable def f17_F_l0 (k : Nat) (G_l0 : f17_S) : f17_L := .c (f17_p 116) 0 :: .j (fun σ => G_l0 (cut f17_A.loops 0 σ)) :: .blk 0 :: .c (f17_p 15) 0 :: []
theorem f17_f_l0 (k : Nat) (R_l0 : f17_S) : f17_a k (f17_Q_l0 k R_l0) = f17_a k (f17_F_l0 k R_l0) := (ap_cons _ (ap_cons _ (ap_cons _ (ap_cons _ rfl))))
def f17_entry_B (k : Nat) (g_l0 : f17_t_l0) (a0 : Td4) (a1 : Td4) : Option (Bool × Unit) := (if ¬ ((a0.length : Int) = (a1.length : Int)) then some (false, ()) else (g_l0 a0 a1 (a0.length : Int) 0))
def f17_l0_B (k : Nat) (g_l0 : f17_t_l0) (x0 : (List (Int × Int))) (x1 : (List (Int × Int))) (x12 : Int) (x13 : Int) : Option (Bool × Unit) := (if x13 < x12 then (if 0 ≤ x13 then (if x13 < (x0.length : Int) then (if 0 ≤ x13 then (if x13 < (x1.length : Int) then (if ¬ ((((x0.getD (x13).toNat (0, 0)).1) = ((x1.getD (x13).toNat (0, 0)).1)) ∧ (((x0.getD (x13).toNat (0, 0)).2) = ((x1.getD (x13).toNat (0, 0)).2))) then some (false, ()) else (g_l0 x0 x1 x12 (w64 (x13 + 1)))) else none) else none) else none) else none) else some (true, ()))
theorem f17_l0_P (k : Nat) (G_l0 : f17_S) : f17_o_l0 (fun σ => f17_a k (f17_F_l0 k G_l0) .nx σ) = f17_l0_B k (f17_o_l0 G_l0) := by kernel_rfl
def f17_l0 (k : Nat) : Nat → f17_t_l0
  | 0 => fun _ _ _ _ => none
  | n + 1 => f17_l0_B k (f17_l0 k n)
theorem f17_l0_E (k : Nat) : ∀ n, f17_o_l0 (f17_C_l0 k n) = f17_l0 k n
  | 0 => rfl
  | n + 1 =>
    Eq.trans (congrArg f17_o_l0 (Eq.trans (b := fun σ => f17_a k (f17_Q_l0 k (f17_C_l0 k n)) .nx σ) (by kernel_rfl) (ap_fn (f17_f_l0 k (f17_C_l0 k n))))) ((f17_l0_P k (f17_C_l0 k n)).trans (by rw [f17_l0_E k n] <;> rfl))
theorem f17_entry_P (k : Nat) (G_l0 : f17_S) (xs : DL f17_sig) : f17_a k (.c (f17_p 2) 0 :: .c (f17_p 6) 0 :: .c (f17_p 28) 0 :: .j (fun σ => f17_a k (.j (fun σ => G_l0 (cut f17_A.loops 0 σ)) :: .blk 0 :: .c (f17_p 15) 0 :: []) .nx σ) :: .c (f17_p 15) 0 :: []) .nx (σ0 26 80 f17_sig xs) = f17_entry_B k (f17_o_l0 G_l0) xs.1 xs.2.1 := by kernel_rfl
def f17 (k : Nat) (a0 : Td4) (a1 : Td4) : Option (Bool × Unit) := f17_entry_B k (f17_l0 k k) a0 a1
theorem f17_fe (k : Nat) : f17_a k [.c (f17_p 1) 0] = f17_a k (.c (f17_p 2) 0 :: .c (f17_p 6) 0 :: .c (f17_p 28) 0 :: .j (fun σ => f17_a k (.j (fun σ => (f17_C_l0 k k) (cut f17_A.loops 0 σ)) :: .blk 0 :: .c (f17_p 15) 0 :: []) .nx σ) :: .c (f17_p 15) 0 :: []) := (Eq.trans ap_sq (ap_cons _ (Eq.trans ap_sq (ap_cons _ (Eq.trans ap_sq (Eq.trans ap_sq (ap_cons _ (Eq.trans (ap_bl 0) (Eq.trans (ap_j (Eq.trans (ap_lp (C := (f17_C_l0 k)) (fun _ _ => rfl)) (ap_cons _ (ap_cons _ (ap_cons _ rfl))))) (ap_cons _ (ap_cons _ rfl)))))))))))
theorem f17_eq (k : Nat) (xs : DL f17_sig) : den T f17_Y (f17_E k) f17_A k f17_c 0 (σ0 26 80 f17_sig xs) (Kfin T f17_rs f17_ts) = f17 k xs.1 xs.2.1 :=
  Eq.trans (Eq.trans den_sb (ap_at (f17_fe k) _)) ((f17_entry_P k (f17_C_l0 k k) xs).trans (by rw [f17_l0_E k k] <;> rfl))
noncomputable def f17_con (k : Nat) : Con := ⟨f17_sig, f17_rs, fun xs => f17 k xs.1 xs.2.1⟩
theorem f17_ok (k : Nat) : PureOK Try.prog 17 f17_sig f17_rs (fun xs => f17 k xs.1 xs.2.1) :=
  (pure_of_den (k := k) (A := f17_A) (T := T) (Y := f17_Y) (E := f17_E k) (M := 80) (ts := f17_ts) T_ok trivial trivial mixed (f := 17) (fn := Try.f17) (c := f17_c) (by kernel_rfl) (by kernel_rfl) (by kernel_rfl) (by decide) (by kernel_rfl)).congr fun xs => (f17_eq k xs).symm
theorem f17_ent : Ent Try.prog 17 := fun args w => by kernel_rfl
/-! ### slices.Equal[[]terrier/api.Edge,terrier/api.Edge]: function 18 -/
noncomputable def f18_c : Code := Try.f18.body.getD .skip
noncomputable abbrev f18_p (n : Nat) : Code := sb f18_c n
abbrev f18_sig : List PT := [(false, Tq7), (false, Tq7)]
abbrev f18_rs : List RT := [.d false .bool]
abbrev f18_ts : List RV := [.tmp 4]
abbrev f18_S := St → Option (RDL f18_rs)
abbrev f18_L := List (Fr (RDL f18_rs))
def f18_Y : Tys := []
noncomputable def f18_E (k : Nat) : Env := []
def f18_A : Ann := { loops := [(0, { slots := [(0, .val false Tq6), (1, .val false Tq6), (12, .id), (13, .id)] })] }
noncomputable abbrev f18_a (k : Nat) (F : f18_L) : Kont (RDL f18_rs) := ap T f18_Y (f18_E k) f18_A k (Kfin T f18_rs f18_ts) F
def f18_s_l0 (x0 : (List (Int × (Int × (Int × Int))))) (x1 : (List (Int × (Int × (Int × Int))))) (x12 : Int) (x13 : Int) : St := mkS 26 80 [(0, aV Tq6 x0), (1, aV Tq6 x1), (12, aI x12), (13, aI x13)] []
abbrev f18_t_l0 := (List (Int × (Int × (Int × Int)))) → (List (Int × (Int × (Int × Int)))) → Int → Int → Option (Bool × Unit)
abbrev f18_o_l0 (R : f18_S) : f18_t_l0 := (fun x0 x1 x12 x13 => R (f18_s_l0 x0 x1 x12 x13))
noncomputable def f18_Q_l0 (k : Nat) (R_l0 : f18_S) : f18_L := [.c (f18_p 116) 0, .j (fun σ => R_l0 (cut f18_A.loops 0 σ)), .blk 0, .c (f18_p 15) 0]
noncomputable def f18_C_l0 (k : Nat) (n : Nat) (σ : St) : Option (RDL f18_rs) := loopK (fun σ K => den T f18_Y (f18_E k) f18_A k (f18_p 116) 0 σ K) (cut f18_A.loops 0) (f18_a k [.blk 0, .c (f18_p 15) 0]) n σ
noncomputable def f18_F_l0 (k : Nat) (G_l0 : f18_S) : f18_L := .c (f18_p 116) 0 :: .j (fun σ => G_l0 (cut f18_A.loops 0 σ)) :: .blk 0 :: .c (f18_p 15) 0 :: []
theorem f18_f_l0 (k : Nat) (R_l0 : f18_S) : f18_a k (f18_Q_l0 k R_l0) = f18_a k (f18_F_l0 k R_l0) := (ap_cons _ (ap_cons _ (ap_cons _ (ap_cons _ rfl))))
def f18_entry_B (k : Nat) (g_l0 : f18_t_l0) (a0 : Td11) (a1 : Td11) : Option (Bool × Unit) := (if ¬ ((a0.length : Int) = (a1.length : Int)) then some (false, ()) else (g_l0 a0 a1 (a0.length : Int) 0))
def f18_l0_B (k : Nat) (g_l0 : f18_t_l0) (x0 : (List (Int × (Int × (Int × Int))))) (x1 : (List (Int × (Int × (Int × Int))))) (x12 : Int) (x13 : Int) : Option (Bool × Unit) := (if x13 < x12 then (if 0 ≤ x13 then (if x13 < (x0.length : Int) then (if 0 ≤ x13 then (if x13 < (x1.length : Int) then (if ¬ ((((x0.getD (x13).toNat (0, (0, (0, 0)))).1) = ((x1.getD (x13).toNat (0, (0, (0, 0)))).1)) ∧ ((((x0.getD (x13).toNat (0, (0, (0, 0)))).2).1) = (((x1.getD (x13).toNat (0, (0, (0, 0)))).2).1)) ∧ (((((x0.getD (x13).toNat (0, (0, (0, 0)))).2).2).1) = ((((x1.getD (x13).toNat (0, (0, (0, 0)))).2).2).1)) ∧ (((((x0.getD (x13).toNat (0, (0, (0, 0)))).2).2).2) = ((((x1.getD (x13).toNat (0, (0, (0, 0)))).2).2).2))) then some (false, ()) else (g_l0 x0 x1 x12 (w64 (x13 + 1)))) else none) else none) else none) else none) else some (true, ()))
theorem f18_l0_P (k : Nat) (G_l0 : f18_S) : f18_o_l0 (fun σ => f18_a k (f18_F_l0 k G_l0) .nx σ) = f18_l0_B k (f18_o_l0 G_l0) := by kernel_rfl
def f18_l0 (k : Nat) : Nat → f18_t_l0
  | 0 => fun _ _ _ _ => none
  | n + 1 => f18_l0_B k (f18_l0 k n)
theorem f18_l0_E (k : Nat) : ∀ n, f18_o_l0 (f18_C_l0 k n) = f18_l0 k n
  | 0 => rfl
  | n + 1 =>
    Eq.trans (congrArg f18_o_l0 (Eq.trans (b := fun σ => f18_a k (f18_Q_l0 k (f18_C_l0 k n)) .nx σ) (by kernel_rfl) (ap_fn (f18_f_l0 k (f18_C_l0 k n))))) ((f18_l0_P k (f18_C_l0 k n)).trans (by rw [f18_l0_E k n] <;> rfl))
theorem f18_entry_P (k : Nat) (G_l0 : f18_S) (xs : DL f18_sig) : f18_a k (.c (f18_p 2) 0 :: .c (f18_p 6) 0 :: .c (f18_p 28) 0 :: .j (fun σ => f18_a k (.j (fun σ => G_l0 (cut f18_A.loops 0 σ)) :: .blk 0 :: .c (f18_p 15) 0 :: []) .nx σ) :: .c (f18_p 15) 0 :: []) .nx (σ0 26 80 f18_sig xs) = f18_entry_B k (f18_o_l0 G_l0) xs.1 xs.2.1 := by kernel_rfl
def f18 (k : Nat) (a0 : Td11) (a1 : Td11) : Option (Bool × Unit) := f18_entry_B k (f18_l0 k k) a0 a1
theorem f18_fe (k : Nat) : f18_a k [.c (f18_p 1) 0] = f18_a k (.c (f18_p 2) 0 :: .c (f18_p 6) 0 :: .c (f18_p 28) 0 :: .j (fun σ => f18_a k (.j (fun σ => (f18_C_l0 k k) (cut f18_A.loops 0 σ)) :: .blk 0 :: .c (f18_p 15) 0 :: []) .nx σ) :: .c (f18_p 15) 0 :: []) := (Eq.trans ap_sq (ap_cons _ (Eq.trans ap_sq (ap_cons _ (Eq.trans ap_sq (Eq.trans ap_sq (ap_cons _ (Eq.trans (ap_bl 0) (Eq.trans (ap_j (Eq.trans (ap_lp (C := (f18_C_l0 k)) (fun _ _ => rfl)) (ap_cons _ (ap_cons _ (ap_cons _ rfl))))) (ap_cons _ (ap_cons _ rfl)))))))))))
theorem f18_eq (k : Nat) (xs : DL f18_sig) : den T f18_Y (f18_E k) f18_A k f18_c 0 (σ0 26 80 f18_sig xs) (Kfin T f18_rs f18_ts) = f18 k xs.1 xs.2.1 :=
  Eq.trans (Eq.trans den_sb (ap_at (f18_fe k) _)) ((f18_entry_P k (f18_C_l0 k k) xs).trans (by rw [f18_l0_E k k] <;> rfl))
noncomputable def f18_con (k : Nat) : Con := ⟨f18_sig, f18_rs, fun xs => f18 k xs.1 xs.2.1⟩
theorem f18_ok (k : Nat) : PureOK Try.prog 18 f18_sig f18_rs (fun xs => f18 k xs.1 xs.2.1) :=
  (pure_of_den (k := k) (A := f18_A) (T := T) (Y := f18_Y) (E := f18_E k) (M := 80) (ts := f18_ts) T_ok trivial trivial mixed (f := 18) (fn := Try.f18) (c := f18_c) (by kernel_rfl) (by kernel_rfl) (by kernel_rfl) (by decide) (by kernel_rfl)).congr fun xs => (f18_eq k xs).symm
theorem f18_ent : Ent Try.prog 18 := fun args w => by kernel_rfl
/-! ### slices.Equal[[]terrier/api.Ban,terrier/api.Ban]: function 19 -/
noncomputable def f19_c : Code := Try.f19.body.getD .skip
noncomputable abbrev f19_p (n : Nat) : Code := sb f19_c n
abbrev f19_sig : List PT := [(false, Tq3), (false, Tq3)]
abbrev f19_rs : List RT := [.d false .bool]
abbrev f19_ts : List RV := [.tmp 4]
abbrev f19_S := St → Option (RDL f19_rs)
abbrev f19_L := List (Fr (RDL f19_rs))
def f19_Y : Tys := []
noncomputable def f19_E (k : Nat) : Env := []
def f19_A : Ann := { loops := [(0, { slots := [(0, .val false Tq2), (1, .val false Tq2), (12, .id), (13, .id)] })] }
noncomputable abbrev f19_a (k : Nat) (F : f19_L) : Kont (RDL f19_rs) := ap T f19_Y (f19_E k) f19_A k (Kfin T f19_rs f19_ts) F
def f19_s_l0 (x0 : (List (Int × Int))) (x1 : (List (Int × Int))) (x12 : Int) (x13 : Int) : St := mkS 26 80 [(0, aV Tq2 x0), (1, aV Tq2 x1), (12, aI x12), (13, aI x13)] []
abbrev f19_t_l0 := (List (Int × Int)) → (List (Int × Int)) → Int → Int → Option (Bool × Unit)
abbrev f19_o_l0 (R : f19_S) : f19_t_l0 := (fun x0 x1 x12 x13 => R (f19_s_l0 x0 x1 x12 x13))
noncomputable def f19_Q_l0 (k : Nat) (R_l0 : f19_S) : f19_L := [.c (f19_p 116) 0, .j (fun σ => R_l0 (cut f19_A.loops 0 σ)), .blk 0, .c (f19_p 15) 0]
noncomputable def f19_C_l0 (k : Nat) (n : Nat) (σ : St) : Option (RDL f19_rs) := loopK (fun σ K => den T f19_Y (f19_E k) f19_A k (f19_p 116) 0 σ K) (cut f19_A.loops 0) (f19_a k [.blk 0, .c (f19_p 15) 0]) n σ
noncomputable def f19_F_l0 (k : Nat) (G_l0 : f19_S) : f19_L := .c (f19_p 116) 0 :: .j (fun σ => G_l0 (cut f19_A.loops 0 σ)) :: .blk 0 :: .c (f19_p 15) 0 :: []
theorem f19_f_l0 (k : Nat) (R_l0 : f19_S) : f19_a k (f19_Q_l0 k R_l0) = f19_a k (f19_F_l0 k R_l0) := (ap_cons _ (ap_cons _ (ap_cons _ (ap_cons _ rfl))))
def f19_entry_B (k : Nat) (g_l0 : f19_t_l0) (a0 : Td4) (a1 : Td4) : Option (Bool × Unit) := (if ¬ ((a0.length : Int) = (a1.length : Int)) then some (false, ()) else (g_l0 a0 a1 (a0.length : Int) 0))
def f19_l0_B (k : Nat) (g_l0 : f19_t_l0) (x0 : (List (Int × Int))) (x1 : (List (Int × Int))) (x12 : Int) (x13 : Int) : Option (Bool × Unit) := (if x13 < x12 then (if 0 ≤ x13 then (if x13 < (x0.length : Int) then (if 0 ≤ x13 then (if x13 < (x1.length : Int) then (if ¬ ((((x0.getD (x13).toNat (0, 0)).1) = ((x1.getD (x13).toNat (0, 0)).1)) ∧ (((x0.getD (x13).toNat (0, 0)).2) = ((x1.getD (x13).toNat (0, 0)).2))) then some (false, ()) else (g_l0 x0 x1 x12 (w64 (x13 + 1)))) else none) else none) else none) else none) else some (true, ()))
theorem f19_l0_P (k : Nat) (G_l0 : f19_S) : f19_o_l0 (fun σ => f19_a k (f19_F_l0 k G_l0) .nx σ) = f19_l0_B k (f19_o_l0 G_l0) := by kernel_rfl
def f19_l0 (k : Nat) : Nat → f19_t_l0
  | 0 => fun _ _ _ _ => none
  | n + 1 => f19_l0_B k (f19_l0 k n)
theorem f19_l0_E (k : Nat) : ∀ n, f19_o_l0 (f19_C_l0 k n) = f19_l0 k n
  | 0 => rfl
  | n + 1 =>
    Eq.trans (congrArg f19_o_l0 (Eq.trans (b := fun σ => f19_a k (f19_Q_l0 k (f19_C_l0 k n)) .nx σ) (by kernel_rfl) (ap_fn (f19_f_l0 k (f19_C_l0 k n))))) ((f19_l0_P k (f19_C_l0 k n)).trans (by rw [f19_l0_E k n] <;> rfl))
theorem f19_entry_P (k : Nat) (G_l0 : f19_S) (xs : DL f19_sig) : f19_a k (.c (f19_p 2) 0 :: .c (f19_p 6) 0 :: .c (f19_p 28) 0 :: .j (fun σ => f19_a k (.j (fun σ => G_l0 (cut f19_A.loops 0 σ)) :: .blk 0 :: .c (f19_p 15) 0 :: []) .nx σ) :: .c (f19_p 15) 0 :: []) .nx (σ0 26 80 f19_sig xs) = f19_entry_B k (f19_o_l0 G_l0) xs.1 xs.2.1 := by kernel_rfl
def f19 (k : Nat) (a0 : Td4) (a1 : Td4) : Option (Bool × Unit) := f19_entry_B k (f19_l0 k k) a0 a1
theorem f19_fe (k : Nat) : f19_a k [.c (f19_p 1) 0] = f19_a k (.c (f19_p 2) 0 :: .c (f19_p 6) 0 :: .c (f19_p 28) 0 :: .j (fun σ => f19_a k (.j (fun σ => (f19_C_l0 k k) (cut f19_A.loops 0 σ)) :: .blk 0 :: .c (f19_p 15) 0 :: []) .nx σ) :: .c (f19_p 15) 0 :: []) := (Eq.trans ap_sq (ap_cons _ (Eq.trans ap_sq (ap_cons _ (Eq.trans ap_sq (Eq.trans ap_sq (ap_cons _ (Eq.trans (ap_bl 0) (Eq.trans (ap_j (Eq.trans (ap_lp (C := (f19_C_l0 k)) (fun _ _ => rfl)) (ap_cons _ (ap_cons _ (ap_cons _ rfl))))) (ap_cons _ (ap_cons _ rfl)))))))))))
theorem f19_eq (k : Nat) (xs : DL f19_sig) : den T f19_Y (f19_E k) f19_A k f19_c 0 (σ0 26 80 f19_sig xs) (Kfin T f19_rs f19_ts) = f19 k xs.1 xs.2.1 :=
  Eq.trans (Eq.trans den_sb (ap_at (f19_fe k) _)) ((f19_entry_P k (f19_C_l0 k k) xs).trans (by rw [f19_l0_E k k] <;> rfl))
noncomputable def f19_con (k : Nat) : Con := ⟨f19_sig, f19_rs, fun xs => f19 k xs.1 xs.2.1⟩
theorem f19_ok (k : Nat) : PureOK Try.prog 19 f19_sig f19_rs (fun xs => f19 k xs.1 xs.2.1) :=
  (pure_of_den (k := k) (A := f19_A) (T := T) (Y := f19_Y) (E := f19_E k) (M := 80) (ts := f19_ts) T_ok trivial trivial mixed (f := 19) (fn := Try.f19) (c := f19_c) (by kernel_rfl) (by kernel_rfl) (by kernel_rfl) (by decide) (by kernel_rfl)).congr fun xs => (f19_eq k xs).symm
theorem f19_ent : Ent Try.prog 19 := fun args w => by kernel_rfl
/-! ### slices.Equal[[]int,int]: function 20 -/
noncomputable def f20_c : Code := Try.f20.body.getD .skip
noncomputable abbrev f20_p (n : Nat) : Code := sb f20_c n
abbrev f20_sig : List PT := [(false, Tq1), (false, Tq1)]
abbrev f20_rs : List RT := [.d false .bool]
abbrev f20_ts : List RV := [.tmp 4]
abbrev f20_S := St → Option (RDL f20_rs)
abbrev f20_L := List (Fr (RDL f20_rs))
def f20_Y : Tys := []
noncomputable def f20_E (k : Nat) : Env := []
def f20_A : Ann := { loops := [(0, { slots := [(0, .val false (.int .i64)), (1, .val false (.int .i64)), (12, .id), (13, .id)] })] }
noncomputable abbrev f20_a (k : Nat) (F : f20_L) : Kont (RDL f20_rs) := ap T f20_Y (f20_E k) f20_A k (Kfin T f20_rs f20_ts) F
def f20_s_l0 (x0 : (List Int)) (x1 : (List Int)) (x12 : Int) (x13 : Int) : St := mkS 26 80 [(0, aV (.int .i64) x0), (1, aV (.int .i64) x1), (12, aI x12), (13, aI x13)] []
abbrev f20_t_l0 := (List Int) → (List Int) → Int → Int → Option (Bool × Unit)
abbrev f20_o_l0 (R : f20_S) : f20_t_l0 := (fun x0 x1 x12 x13 => R (f20_s_l0 x0 x1 x12 x13))
noncomputable def f20_Q_l0 (k : Nat) (R_l0 : f20_S) : f20_L := [.c (f20_p 116) 0, .j (fun σ => R_l0 (cut f20_A.loops 0 σ)), .blk 0, .c (f20_p 15) 0]
noncomputable def f20_C_l0 (k : Nat) (n : Nat) (σ : St) : Option (RDL f20_rs) := loopK (fun σ K => den T f20_Y (f20_E k) f20_A k (f20_p 116) 0 σ K) (cut f20_A.loops 0) (f20_a k [.blk 0, .c (f20_p 15) 0]) n σ
noncomputable def f20_F_l0 (k : Nat) (G_l0 : f20_S) : f20_L := .c (f20_p 116) 0 :: .j (fun σ => G_l0 (cut f20_A.loops 0 σ)) :: .blk 0 :: .c (f20_p 15) 0 :: []
theorem f20_f_l0 (k : Nat) (R_l0 : f20_S) : f20_a k (f20_Q_l0 k R_l0) = f20_a k (f20_F_l0 k R_l0) := (ap_cons _ (ap_cons _ (ap_cons _ (ap_cons _ rfl))))
def f20_entry_B (k : Nat) (g_l0 : f20_t_l0) (a0 : (List Int)) (a1 : (List Int)) : Option (Bool × Unit) := (if ¬ ((a0.length : Int) = (a1.length : Int)) then some (false, ()) else (g_l0 a0 a1 (a0.length : Int) 0))
def f20_l0_B (k : Nat) (g_l0 : f20_t_l0) (x0 : (List Int)) (x1 : (List Int)) (x12 : Int) (x13 : Int) : Option (Bool × Unit) := (if x13 < x12 then (if 0 ≤ x13 then (if x13 < (x0.length : Int) then (if 0 ≤ x13 then (if x13 < (x1.length : Int) then (if ¬ ((x0.getD (x13).toNat 0) = (x1.getD (x13).toNat 0)) then some (false, ()) else (g_l0 x0 x1 x12 (w64 (x13 + 1)))) else none) else none) else none) else none) else some (true, ()))
theorem f20_l0_P (k : Nat) (G_l0 : f20_S) : f20_o_l0 (fun σ => f20_a k (f20_F_l0 k G_l0) .nx σ) = f20_l0_B k (f20_o_l0 G_l0) := by kernel_rfl
def f20_l0 (k : Nat) : Nat → f20_t_l0
  | 0 => fun _ _ _ _ => none
  | n + 1 => f20_l0_B k (f20_l0 k n)
theorem f20_l0_E (k : Nat) : ∀ n, f20_o_l0 (f20_C_l0 k n) = f20_l0 k n
  | 0 => rfl
  | n + 1 =>
    Eq.trans (congrArg f20_o_l0 (Eq.trans (b := fun σ => f20_a k (f20_Q_l0 k (f20_C_l0 k n)) .nx σ) (by kernel_rfl) (ap_fn (f20_f_l0 k (f20_C_l0 k n))))) ((f20_l0_P k (f20_C_l0 k n)).trans (by rw [f20_l0_E k n] <;> rfl))
theorem f20_entry_P (k : Nat) (G_l0 : f20_S) (xs : DL f20_sig) : f20_a k (.c (f20_p 2) 0 :: .c (f20_p 6) 0 :: .c (f20_p 28) 0 :: .j (fun σ => f20_a k (.j (fun σ => G_l0 (cut f20_A.loops 0 σ)) :: .blk 0 :: .c (f20_p 15) 0 :: []) .nx σ) :: .c (f20_p 15) 0 :: []) .nx (σ0 26 80 f20_sig xs) = f20_entry_B k (f20_o_l0 G_l0) xs.1 xs.2.1 := by kernel_rfl
def f20 (k : Nat) (a0 : (List Int)) (a1 : (List Int)) : Option (Bool × Unit) := f20_entry_B k (f20_l0 k k) a0 a1
theorem f20_fe (k : Nat) : f20_a k [.c (f20_p 1) 0] = f20_a k (.c (f20_p 2) 0 :: .c (f20_p 6) 0 :: .c (f20_p 28) 0 :: .j (fun σ => f20_a k (.j (fun σ => (f20_C_l0 k k) (cut f20_A.loops 0 σ)) :: .blk 0 :: .c (f20_p 15) 0 :: []) .nx σ) :: .c (f20_p 15) 0 :: []) := (Eq.trans ap_sq (ap_cons _ (Eq.trans ap_sq (ap_cons _ (Eq.trans ap_sq (Eq.trans ap_sq (ap_cons _ (Eq.trans (ap_bl 0) (Eq.trans (ap_j (Eq.trans (ap_lp (C := (f20_C_l0 k)) (fun _ _ => rfl)) (ap_cons _ (ap_cons _ (ap_cons _ rfl))))) (ap_cons _ (ap_cons _ rfl)))))))))))
theorem f20_eq (k : Nat) (xs : DL f20_sig) : den T f20_Y (f20_E k) f20_A k f20_c 0 (σ0 26 80 f20_sig xs) (Kfin T f20_rs f20_ts) = f20 k xs.1 xs.2.1 :=
  Eq.trans (Eq.trans den_sb (ap_at (f20_fe k) _)) ((f20_entry_P k (f20_C_l0 k k) xs).trans (by rw [f20_l0_E k k] <;> rfl))
noncomputable def f20_con (k : Nat) : Con := ⟨f20_sig, f20_rs, fun xs => f20 k xs.1 xs.2.1⟩
theorem f20_ok (k : Nat) : PureOK Try.prog 20 f20_sig f20_rs (fun xs => f20 k xs.1 xs.2.1) :=
  (pure_of_den (k := k) (A := f20_A) (T := T) (Y := f20_Y) (E := f20_E k) (M := 80) (ts := f20_ts) T_ok trivial trivial mixed (f := 20) (fn := Try.f20) (c := f20_c) (by kernel_rfl) (by kernel_rfl) (by kernel_rfl) (by decide) (by kernel_rfl)).congr fun xs => (f20_eq k xs).symm
theorem f20_ent : Ent Try.prog 20 := fun args w => by kernel_rfl
/-! ### terrier/net.Out: function 21 -/
noncomputable def f21_c : Code := Try.f21.body.getD .skip
noncomputable abbrev f21_p (n : Nat) : Code := sb f21_c n
abbrev f21_sig : List PT := [(true, Tq9), (false, (.int .i64))]
abbrev f21_rs : List RT := [.new (.int .i64)]
abbrev f21_ts : List RV := [.tmp 4]
abbrev f21_S := St → Option (RDL f21_rs)
abbrev f21_L := List (Fr (RDL f21_rs))
def f21_Y : Tys := [(3, (.int .i64))]
noncomputable def f21_E (k : Nat) : Env := []
def f21_A : Ann := { loops := [(0, { mat := [(5, 23, (.int .i64))], slots := [(1, .id), (5, .id), (9, .val false Tq6), (10, .id), (11, .id)], keys := [(23, [])] })], conds := [(6, { mat := [(5, 23, (.int .i64))], slots := [(1, .id), (5, .id), (9, .val false Tq6), (10, .id), (11, .id)], keys := [(23, [])] })] }
noncomputable abbrev f21_a (k : Nat) (F : f21_L) : Kont (RDL f21_rs) := ap T f21_Y (f21_E k) f21_A k (Kfin T f21_rs f21_ts) F
def f21_s_l0 (y23 : (List Int)) (x1 : Int) (x10 : Int) (x11 : Int) (x9 : (List (Int × (Int × (Int × Int))))) : St := mkS 26 80 [(1, aI x1), (5, aO 23), (9, aV Tq6 x9), (10, aI x10), (11, aI x11)] [(23, .vec (.int .i64) y23)]
abbrev f21_t_l0 := (List Int) → Int → Int → Int → (List (Int × (Int × (Int × Int)))) → Option ((List Int) × Unit)
abbrev f21_o_l0 (R : f21_S) : f21_t_l0 := (fun y23 x1 x10 x11 x9 => R (f21_s_l0 y23 x1 x10 x11 x9))
noncomputable def f21_Q_l0 (k : Nat) (R_l0 : f21_S) : f21_L := [.c (f21_p 116) 0, .j (fun σ => R_l0 (cut f21_A.loops 0 σ)), .blk 0, .c (f21_p 15) 0]
noncomputable def f21_C_l0 (k : Nat) (n : Nat) (σ : St) : Option (RDL f21_rs) := loopK (fun σ K => den T f21_Y (f21_E k) f21_A k (f21_p 116) 0 σ K) (cut f21_A.loops 0) (f21_a k [.blk 0, .c (f21_p 15) 0]) n σ
def f21_s_c6 (y23 : (List Int)) (x1 : Int) (x10 : Int) (x11 : Int) (x9 : (List (Int × (Int × (Int × Int))))) : St := mkS 26 80 [(1, aI x1), (5, aO 23), (9, aV Tq6 x9), (10, aI x10), (11, aI x11)] [(23, .vec (.int .i64) y23)]
abbrev f21_t_c6 := (List Int) → Int → Int → Int → (List (Int × (Int × (Int × Int)))) → Option ((List Int) × Unit)
abbrev f21_o_c6 (R : f21_S) : f21_t_c6 := (fun y23 x1 x10 x11 x9 => R (f21_s_c6 y23 x1 x10 x11 x9))
noncomputable def f21_Q_c6 (k : Nat) (R_l0 : f21_S) : f21_L := [.blk 1, .c (f21_p 935) 0, .j (fun σ => R_l0 (cut f21_A.loops 0 σ)), .blk 0, .c (f21_p 15) 0]
noncomputable def f21_C_c6 (k : Nat) (R_l0 : f21_S) : f21_S := fun σ => f21_a k (f21_Q_c6 k R_l0) .nx σ
noncomputable def f21_F_c6 (k : Nat) (G_l0 : f21_S) : f21_L := .blk 1 :: .c (f21_p 935) 0 :: .j (fun σ => G_l0 (cut f21_A.loops 0 σ)) :: .blk 0 :: .c (f21_p 15) 0 :: []
theorem f21_f_c6 (k : Nat) (R_l0 : f21_S) : f21_a k (f21_Q_c6 k R_l0) = f21_a k (f21_F_c6 k R_l0) := (ap_cons _ (ap_cons _ (ap_cons _ (ap_cons _ (ap_cons _ rfl)))))
noncomputable def f21_F_l0 (k : Nat) (G_l0 G_c6 : f21_S) : f21_L := .c (f21_p 232) 0 :: .c (f21_p 466) 0 :: .j (fun σ => f21_a k (.c (f21_p 3736) 1 :: .c (f21_p 7474) 1 :: .c (f21_p 7475) 1 :: .j G_c6 :: f21_F_c6 k G_l0) .nx σ) :: .c (f21_p 935) 0 :: .j (fun σ => G_l0 (cut f21_A.loops 0 σ)) :: .blk 0 :: .c (f21_p 15) 0 :: []
theorem f21_f_l0 (k : Nat) (R_l0 : f21_S) : f21_a k (f21_Q_l0 k R_l0) = f21_a k (f21_F_l0 k R_l0 (f21_C_c6 k R_l0)) := (Eq.trans ap_sq (ap_cons _ (Eq.trans ap_sq (ap_cons _ (Eq.trans ap_sq (Eq.trans (ap_bl 1) (Eq.trans (ap_j (Eq.trans ap_sq (ap_cons _ (Eq.trans ap_sq (ap_cons _ (ap_cons _ (Eq.trans (ap_pass (C := (f21_C_c6 k R_l0)) (fun _ => rfl)) (ap_cons _ (f21_f_c6 k R_l0))))))))) (ap_cons _ (ap_cons _ (ap_cons _ (ap_cons _ (ap_cons _ rfl))))))))))))
def f21_entry_B (k : Nat) (g_l0 : f21_t_l0) (a0 : Td12) (a1 : Int) : Option ((List Int) × Unit) := (g_l0 ([] : List Int) a1 (a0.2.1.length : Int) 0 a0.2.1)
def f21_l0_B (k : Nat) (g_c6 : f21_t_c6) (y23 : (List Int)) (x1 : Int) (x10 : Int) (x11 : Int) (x9 : (List (Int × (Int × (Int × Int))))) : Option ((List Int) × Unit) := (if x11 < x10 then (if 0 ≤ x11 then (if x11 < (x9.length : Int) then (if ((x9.getD (x11).toNat (0, (0, (0, 0)))).1) = x1 then (if (y23.length + 1) * 8 ≤ 140737488355328 then (g_c6 (y23 ++ [x11]) x1 x10 x11 x9) else none) else (g_c6 y23 x1 x10 x11 x9)) else none) else none) else some (y23, ()))
def f21_c6_B (k : Nat) (g_l0 : f21_t_l0) (y23 : (List Int)) (x1 : Int) (x10 : Int) (x11 : Int) (x9 : (List (Int × (Int × (Int × Int))))) : Option ((List Int) × Unit) := (g_l0 y23 x1 x10 (w64 (x11 + 1)) x9)
theorem f21_c6_P (k : Nat) (G_l0 : f21_S) : f21_o_c6 (fun σ => f21_a k (f21_F_c6 k G_l0) .nx σ) = f21_c6_B k (f21_o_l0 G_l0) := by kernel_rfl
def f21_c6 (k : Nat) (r_l0 : f21_t_l0) : f21_t_c6 := f21_c6_B k r_l0
theorem f21_c6_E (k : Nat) (R_l0 : f21_S) : f21_o_c6 (f21_C_c6 k R_l0) = f21_c6 k (f21_o_l0 R_l0) :=
  Eq.trans (congrArg f21_o_c6 (ap_fn (f21_f_c6 k R_l0))) ((f21_c6_P k R_l0).trans (by rfl))
theorem f21_l0_P (k : Nat) (G_l0 G_c6 : f21_S) : f21_o_l0 (fun σ => f21_a k (f21_F_l0 k G_l0 G_c6) .nx σ) = f21_l0_B k (f21_o_c6 G_c6) := by kernel_rfl
def f21_l0 (k : Nat) : Nat → f21_t_l0
  | 0 => fun _ _ _ _ _ => none
  | n + 1 => f21_l0_B k (f21_c6 k (f21_l0 k n))
theorem f21_l0_E (k : Nat) : ∀ n, f21_o_l0 (f21_C_l0 k n) = f21_l0 k n
  | 0 => rfl
  | n + 1 =>
    Eq.trans (congrArg f21_o_l0 (Eq.trans (b := fun σ => f21_a k (f21_Q_l0 k (f21_C_l0 k n)) .nx σ) (by kernel_rfl) (ap_fn (f21_f_l0 k (f21_C_l0 k n))))) ((f21_l0_P k (f21_C_l0 k n) (f21_C_c6 k (f21_C_l0 k n))).trans (by rw [f21_c6_E k (f21_C_l0 k n), f21_l0_E k n] <;> rfl))
theorem f21_entry_P (k : Nat) (G_l0 : f21_S) (xs : DL f21_sig) : f21_a k (.c (f21_p 2) 0 :: .c (f21_p 6) 0 :: .c (f21_p 28) 0 :: .j (fun σ => f21_a k (.j (fun σ => G_l0 (cut f21_A.loops 0 σ)) :: .blk 0 :: .c (f21_p 15) 0 :: []) .nx σ) :: .c (f21_p 15) 0 :: []) .nx (σ0 26 80 f21_sig xs) = f21_entry_B k (f21_o_l0 G_l0) xs.1 xs.2.1 := by kernel_rfl
def f21 (k : Nat) (a0 : Td12) (a1 : Int) : Option ((List Int) × Unit) := f21_entry_B k (f21_l0 k k) a0 a1
theorem f21_fe (k : Nat) : f21_a k [.c (f21_p 1) 0] = f21_a k (.c (f21_p 2) 0 :: .c (f21_p 6) 0 :: .c (f21_p 28) 0 :: .j (fun σ => f21_a k (.j (fun σ => (f21_C_l0 k k) (cut f21_A.loops 0 σ)) :: .blk 0 :: .c (f21_p 15) 0 :: []) .nx σ) :: .c (f21_p 15) 0 :: []) := (Eq.trans ap_sq (ap_cons _ (Eq.trans ap_sq (ap_cons _ (Eq.trans ap_sq (Eq.trans ap_sq (ap_cons _ (Eq.trans (ap_bl 0) (Eq.trans (ap_j (Eq.trans (ap_lp (C := (f21_C_l0 k)) (fun _ _ => rfl)) (ap_cons _ (ap_cons _ (ap_cons _ rfl))))) (ap_cons _ (ap_cons _ rfl)))))))))))
theorem f21_eq (k : Nat) (xs : DL f21_sig) : den T f21_Y (f21_E k) f21_A k f21_c 0 (σ0 26 80 f21_sig xs) (Kfin T f21_rs f21_ts) = f21 k xs.1 xs.2.1 :=
  Eq.trans (Eq.trans den_sb (ap_at (f21_fe k) _)) ((f21_entry_P k (f21_C_l0 k k) xs).trans (by rw [f21_l0_E k k] <;> rfl))
noncomputable def f21_con (k : Nat) : Con := ⟨f21_sig, f21_rs, fun xs => f21 k xs.1 xs.2.1⟩
theorem f21_ok (k : Nat) : PureOK Try.prog 21 f21_sig f21_rs (fun xs => f21 k xs.1 xs.2.1) :=
  (pure_of_den (k := k) (A := f21_A) (T := T) (Y := f21_Y) (E := f21_E k) (M := 80) (ts := f21_ts) T_ok trivial trivial mixed (f := 21) (fn := Try.f21) (c := f21_c) (by kernel_rfl) (by kernel_rfl) (by kernel_rfl) (by decide) (by kernel_rfl)).congr fun xs => (f21_eq k xs).symm
theorem f21_ent : Ent Try.prog 21 := fun args w => by kernel_rfl
/-! ### terrier/net.In: function 22 -/
noncomputable def f22_c : Code := Try.f22.body.getD .skip
noncomputable abbrev f22_p (n : Nat) : Code := sb f22_c n
abbrev f22_sig : List PT := [(true, Tq9), (false, (.int .i64))]
abbrev f22_rs : List RT := [.new (.int .i64)]
abbrev f22_ts : List RV := [.tmp 4]
abbrev f22_S := St → Option (RDL f22_rs)
abbrev f22_L := List (Fr (RDL f22_rs))
def f22_Y : Tys := [(3, (.int .i64))]
noncomputable def f22_E (k : Nat) : Env := []
def f22_A : Ann := { loops := [(0, { mat := [(5, 23, (.int .i64))], slots := [(1, .id), (5, .id), (9, .val false Tq6), (10, .id), (11, .id)], keys := [(23, [])] })], conds := [(6, { mat := [(5, 23, (.int .i64))], slots := [(1, .id), (5, .id), (9, .val false Tq6), (10, .id), (11, .id)], keys := [(23, [])] })] }
noncomputable abbrev f22_a (k : Nat) (F : f22_L) : Kont (RDL f22_rs) := ap T f22_Y (f22_E k) f22_A k (Kfin T f22_rs f22_ts) F
def f22_s_l0 (y23 : (List Int)) (x1 : Int) (x10 : Int) (x11 : Int) (x9 : (List (Int × (Int × (Int × Int))))) : St := mkS 26 80 [(1, aI x1), (5, aO 23), (9, aV Tq6 x9), (10, aI x10), (11, aI x11)] [(23, .vec (.int .i64) y23)]
abbrev f22_t_l0 := (List Int) → Int → Int → Int → (List (Int × (Int × (Int × Int)))) → Option ((List Int) × Unit)
abbrev f22_o_l0 (R : f22_S) : f22_t_l0 := (fun y23 x1 x10 x11 x9 => R (f22_s_l0 y23 x1 x10 x11 x9))
noncomputable def f22_Q_l0 (k : Nat) (R_l0 : f22_S) : f22_L := [.c (f22_p 116) 0, .j (fun σ => R_l0 (cut f22_A.loops 0 σ)), .blk 0, .c (f22_p 15) 0]
noncomputable def f22_C_l0 (k : Nat) (n : Nat) (σ : St) : Option (RDL f22_rs) := loopK (fun σ K => den T f22_Y (f22_E k) f22_A k (f22_p 116) 0 σ K) (cut f22_A.loops 0) (f22_a k [.blk 0, .c (f22_p 15) 0]) n σ
def f22_s_c6 (y23 : (List Int)) (x1 : Int) (x10 : Int) (x11 : Int) (x9 : (List (Int × (Int × (Int × Int))))) : St := mkS 26 80 [(1, aI x1), (5, aO 23), (9, aV Tq6 x9), (10, aI x10), (11, aI x11)] [(23, .vec (.int .i64) y23)]
abbrev f22_t_c6 := (List Int) → Int → Int → Int → (List (Int × (Int × (Int × Int)))) → Option ((List Int) × Unit)
abbrev f22_o_c6 (R : f22_S) : f22_t_c6 := (fun y23 x1 x10 x11 x9 => R (f22_s_c6 y23 x1 x10 x11 x9))
noncomputable def f22_Q_c6 (k : Nat) (R_l0 : f22_S) : f22_L := [.blk 1, .c (f22_p 935) 0, .j (fun σ => R_l0 (cut f22_A.loops 0 σ)), .blk 0, .c (f22_p 15) 0]
noncomputable def f22_C_c6 (k : Nat) (R_l0 : f22_S) : f22_S := fun σ => f22_a k (f22_Q_c6 k R_l0) .nx σ
noncomputable def f22_F_c6 (k : Nat) (G_l0 : f22_S) : f22_L := .blk 1 :: .c (f22_p 935) 0 :: .j (fun σ => G_l0 (cut f22_A.loops 0 σ)) :: .blk 0 :: .c (f22_p 15) 0 :: []
theorem f22_f_c6 (k : Nat) (R_l0 : f22_S) : f22_a k (f22_Q_c6 k R_l0) = f22_a k (f22_F_c6 k R_l0) := (ap_cons _ (ap_cons _ (ap_cons _ (ap_cons _ (ap_cons _ rfl)))))
noncomputable def f22_F_l0 (k : Nat) (G_l0 G_c6 : f22_S) : f22_L := .c (f22_p 232) 0 :: .c (f22_p 466) 0 :: .j (fun σ => f22_a k (.c (f22_p 3736) 1 :: .c (f22_p 7474) 1 :: .c (f22_p 7475) 1 :: .j G_c6 :: f22_F_c6 k G_l0) .nx σ) :: .c (f22_p 935) 0 :: .j (fun σ => G_l0 (cut f22_A.loops 0 σ)) :: .blk 0 :: .c (f22_p 15) 0 :: []
theorem f22_f_l0 (k : Nat) (R_l0 : f22_S) : f22_a k (f22_Q_l0 k R_l0) = f22_a k (f22_F_l0 k R_l0 (f22_C_c6 k R_l0)) := (Eq.trans ap_sq (ap_cons _ (Eq.trans ap_sq (ap_cons _ (Eq.trans ap_sq (Eq.trans (ap_bl 1) (Eq.trans (ap_j (Eq.trans ap_sq (ap_cons _ (Eq.trans ap_sq (ap_cons _ (ap_cons _ (Eq.trans (ap_pass (C := (f22_C_c6 k R_l0)) (fun _ => rfl)) (ap_cons _ (f22_f_c6 k R_l0))))))))) (ap_cons _ (ap_cons _ (ap_cons _ (ap_cons _ (ap_cons _ rfl))))))))))))
def f22_entry_B (k : Nat) (g_l0 : f22_t_l0) (a0 : Td12) (a1 : Int) : Option ((List Int) × Unit) := (g_l0 ([] : List Int) a1 (a0.2.1.length : Int) 0 a0.2.1)
def f22_l0_B (k : Nat) (g_c6 : f22_t_c6) (y23 : (List Int)) (x1 : Int) (x10 : Int) (x11 : Int) (x9 : (List (Int × (Int × (Int × Int))))) : Option ((List Int) × Unit) := (if x11 < x10 then (if 0 ≤ x11 then (if x11 < (x9.length : Int) then (if (((x9.getD (x11).toNat (0, (0, (0, 0)))).2).1) = x1 then (if (y23.length + 1) * 8 ≤ 140737488355328 then (g_c6 (y23 ++ [x11]) x1 x10 x11 x9) else none) else (g_c6 y23 x1 x10 x11 x9)) else none) else none) else some (y23, ()))
def f22_c6_B (k : Nat) (g_l0 : f22_t_l0) (y23 : (List Int)) (x1 : Int) (x10 : Int) (x11 : Int) (x9 : (List (Int × (Int × (Int × Int))))) : Option ((List Int) × Unit) := (g_l0 y23 x1 x10 (w64 (x11 + 1)) x9)
theorem f22_c6_P (k : Nat) (G_l0 : f22_S) : f22_o_c6 (fun σ => f22_a k (f22_F_c6 k G_l0) .nx σ) = f22_c6_B k (f22_o_l0 G_l0) := by kernel_rfl
def f22_c6 (k : Nat) (r_l0 : f22_t_l0) : f22_t_c6 := f22_c6_B k r_l0
theorem f22_c6_E (k : Nat) (R_l0 : f22_S) : f22_o_c6 (f22_C_c6 k R_l0) = f22_c6 k (f22_o_l0 R_l0) :=
  Eq.trans (congrArg f22_o_c6 (ap_fn (f22_f_c6 k R_l0))) ((f22_c6_P k R_l0).trans (by rfl))
theorem f22_l0_P (k : Nat) (G_l0 G_c6 : f22_S) : f22_o_l0 (fun σ => f22_a k (f22_F_l0 k G_l0 G_c6) .nx σ) = f22_l0_B k (f22_o_c6 G_c6) := by kernel_rfl
def f22_l0 (k : Nat) : Nat → f22_t_l0
  | 0 => fun _ _ _ _ _ => none
  | n + 1 => f22_l0_B k (f22_c6 k (f22_l0 k n))
theorem f22_l0_E (k : Nat) : ∀ n, f22_o_l0 (f22_C_l0 k n) = f22_l0 k n
  | 0 => rfl
  | n + 1 =>
    Eq.trans (congrArg f22_o_l0 (Eq.trans (b := fun σ => f22_a k (f22_Q_l0 k (f22_C_l0 k n)) .nx σ) (by kernel_rfl) (ap_fn (f22_f_l0 k (f22_C_l0 k n))))) ((f22_l0_P k (f22_C_l0 k n) (f22_C_c6 k (f22_C_l0 k n))).trans (by rw [f22_c6_E k (f22_C_l0 k n), f22_l0_E k n] <;> rfl))
theorem f22_entry_P (k : Nat) (G_l0 : f22_S) (xs : DL f22_sig) : f22_a k (.c (f22_p 2) 0 :: .c (f22_p 6) 0 :: .c (f22_p 28) 0 :: .j (fun σ => f22_a k (.j (fun σ => G_l0 (cut f22_A.loops 0 σ)) :: .blk 0 :: .c (f22_p 15) 0 :: []) .nx σ) :: .c (f22_p 15) 0 :: []) .nx (σ0 26 80 f22_sig xs) = f22_entry_B k (f22_o_l0 G_l0) xs.1 xs.2.1 := by kernel_rfl
def f22 (k : Nat) (a0 : Td12) (a1 : Int) : Option ((List Int) × Unit) := f22_entry_B k (f22_l0 k k) a0 a1
theorem f22_fe (k : Nat) : f22_a k [.c (f22_p 1) 0] = f22_a k (.c (f22_p 2) 0 :: .c (f22_p 6) 0 :: .c (f22_p 28) 0 :: .j (fun σ => f22_a k (.j (fun σ => (f22_C_l0 k k) (cut f22_A.loops 0 σ)) :: .blk 0 :: .c (f22_p 15) 0 :: []) .nx σ) :: .c (f22_p 15) 0 :: []) := (Eq.trans ap_sq (ap_cons _ (Eq.trans ap_sq (ap_cons _ (Eq.trans ap_sq (Eq.trans ap_sq (ap_cons _ (Eq.trans (ap_bl 0) (Eq.trans (ap_j (Eq.trans (ap_lp (C := (f22_C_l0 k)) (fun _ _ => rfl)) (ap_cons _ (ap_cons _ (ap_cons _ rfl))))) (ap_cons _ (ap_cons _ rfl)))))))))))
theorem f22_eq (k : Nat) (xs : DL f22_sig) : den T f22_Y (f22_E k) f22_A k f22_c 0 (σ0 26 80 f22_sig xs) (Kfin T f22_rs f22_ts) = f22 k xs.1 xs.2.1 :=
  Eq.trans (Eq.trans den_sb (ap_at (f22_fe k) _)) ((f22_entry_P k (f22_C_l0 k k) xs).trans (by rw [f22_l0_E k k] <;> rfl))
noncomputable def f22_con (k : Nat) : Con := ⟨f22_sig, f22_rs, fun xs => f22 k xs.1 xs.2.1⟩
theorem f22_ok (k : Nat) : PureOK Try.prog 22 f22_sig f22_rs (fun xs => f22 k xs.1 xs.2.1) :=
  (pure_of_den (k := k) (A := f22_A) (T := T) (Y := f22_Y) (E := f22_E k) (M := 80) (ts := f22_ts) T_ok trivial trivial mixed (f := 22) (fn := Try.f22) (c := f22_c) (by kernel_rfl) (by kernel_rfl) (by kernel_rfl) (by decide) (by kernel_rfl)).congr fun xs => (f22_eq k xs).symm
theorem f22_ent : Ent Try.prog 22 := fun args w => by kernel_rfl
/-! ### terrier/terrkeep4.NetTwice: function 3 -/
noncomputable def f3_c : Code := Try.f3.body.getD .skip
noncomputable abbrev f3_p (n : Nat) : Code := sb f3_c n
abbrev f3_sig : List PT := [(false, Tq1), (false, (.int .i64))]
abbrev f3_rs : List RT := [.d false .bool]
abbrev f3_ts : List RV := [.tmp 4]
abbrev f3_S := St → Option (RDL f3_rs)
abbrev f3_L := List (Fr (RDL f3_rs))
def f3_Y : Tys := []
noncomputable def f3_E (k : Nat) : Env := [(13, .c (f13_con k)), (14, .c (f14_con k)), (15, .c (f15_con k)), (16, .c (f16_con k)), (17, .c (f17_con k)), (18, .c (f18_con k)), (19, .c (f19_con k)), (20, .c (f20_con k)), (21, .c (f21_con k)), (22, .c (f22_con k))]
def f3_A : Ann := { regs := [(5, { slots := [(4, .bool)] })] }
noncomputable abbrev f3_a (k : Nat) (F : f3_L) : Kont (RDL f3_rs) := ap T f3_Y (f3_E k) f3_A k (Kfin T f3_rs f3_ts) F
def f3_s_r5 (x4 : Bool) : St := mkS 76 240 [(4, aB x4)] []
abbrev f3_t_r5 := Bool → Option (Bool × Unit)
abbrev f3_o_r5 (R : f3_S) : f3_t_r5 := (fun x4 => R (f3_s_r5 x4))
noncomputable def f3_Q_r5 (k : Nat) : f3_L := [.c (f3_p 127) 0]
noncomputable def f3_C_r5 (k : Nat) : f3_S := fun σ => f3_a k (f3_Q_r5 k) .nx σ
noncomputable def f3_F_r5 (k : Nat) : f3_L := .c (f3_p 127) 0 :: []
theorem f3_f_r5 (k : Nat) : f3_a k (f3_Q_r5 k) = f3_a k (f3_F_r5 k) := (ap_cons _ rfl)
def f3_entry_B (k : Nat) (g_r5 : f3_t_r5) (a0 : (List Int)) (a1 : Int) : Option (Bool × Unit) := ((f13 k a0).bind fun r1 => ((f14 k (r1.1.1, (r1.1.2.1, r1.1.2.2))).bind fun r2 => ((f14 k (r2.1.1, (r2.1.2.1, r2.1.2.2))).bind fun r3 => ((f15 k a1 (r1.1.1.length : Int)).bind fun r4 => ((f16 k ).bind fun r5 => (if r5.1 = true then (if r2.2.1 = 0 then (if r3.2.1 = 0 then ((f17 k r1.1.1 r3.1.1).bind fun r6 => (if r6.1 = true then ((f18 k r1.1.2.1 r3.1.2.1).bind fun r7 => (if r7.1 = true then ((f19 k r1.1.2.2 r3.1.2.2).bind fun r8 => (if r8.1 = true then ((f21 k (r1.1.1, (r1.1.2.1, r1.1.2.2)) r4.1).bind fun r9 => ((f22 k (r2.1.1, (r2.1.2.1, r2.1.2.2)) r4.1).bind fun r10 => ((f20 k r9.1 r10.1).bind fun r11 => (if r11.1 = true then ((f22 k (r1.1.1, (r1.1.2.1, r1.1.2.2)) r4.1).bind fun r12 => ((f21 k (r2.1.1, (r2.1.2.1, r2.1.2.2)) r4.1).bind fun r13 => ((f20 k r12.1 r13.1).bind fun r14 => (g_r5 (decide (r14.1 = true)))))) else (g_r5 false))))) else (g_r5 false))) else (g_r5 false))) else (g_r5 false))) else (g_r5 false)) else (g_r5 false)) else (g_r5 false)))))))
def f3_r5_B (k : Nat) (x4 : Bool) : Option (Bool × Unit) := some (decide (x4 = true), ())
theorem f3_r5_P (k : Nat) : f3_o_r5 (fun σ => f3_a k (f3_F_r5 k) .nx σ) = f3_r5_B k := by kernel_rfl
def f3_r5 (k : Nat) : f3_t_r5 := f3_r5_B k
theorem f3_r5_E (k : Nat) : f3_o_r5 (f3_C_r5 k) = f3_r5 k :=
  Eq.trans (congrArg f3_o_r5 (ap_fn (f3_f_r5 k))) ((f3_r5_P k).trans (by rfl))
theorem f3_entry_P (k : Nat) (G_r5 : f3_S) (xs : DL f3_sig) : f3_a k (.c (f3_p 2) 0 :: .c (f3_p 6) 0 :: .c (f3_p 14) 0 :: .c (f3_p 30) 0 :: .c (f3_p 62) 0 :: .c (f3_p 126) 0 :: .j G_r5 :: f3_F_r5 k) .nx (σ0 76 240 f3_sig xs) = f3_entry_B k (f3_o_r5 G_r5) xs.1 xs.2.1 := by kernel_rfl
def f3 (k : Nat) (a0 : (List Int)) (a1 : Int) : Option (Bool × Unit) := f3_entry_B k (f3_r5 k) a0 a1
theorem f3_fe (k : Nat) : f3_a k [.c (f3_p 1) 0] = f3_a k (.c (f3_p 2) 0 :: .c (f3_p 6) 0 :: .c (f3_p 14) 0 :: .c (f3_p 30) 0 :: .c (f3_p 62) 0 :: .c (f3_p 126) 0 :: .j (f3_C_r5 k) :: f3_F_r5 k) := (Eq.trans ap_sq (ap_cons _ (Eq.trans ap_sq (ap_cons _ (Eq.trans ap_sq (ap_cons _ (Eq.trans ap_sq (ap_cons _ (Eq.trans ap_sq (ap_cons _ (Eq.trans ap_sq (ap_cons _ (Eq.trans (ap_pass (C := (f3_C_r5 k)) (fun _ => rfl)) (ap_cons _ (f3_f_r5 k)))))))))))))))
theorem f3_eq (k : Nat) (xs : DL f3_sig) : den T f3_Y (f3_E k) f3_A k f3_c 0 (σ0 76 240 f3_sig xs) (Kfin T f3_rs f3_ts) = f3 k xs.1 xs.2.1 :=
  Eq.trans (Eq.trans den_sb (ap_at (f3_fe k) _)) ((f3_entry_P k (f3_C_r5 k) xs).trans (by rw [f3_r5_E k] <;> rfl))
noncomputable def f3_con (k : Nat) : Con := ⟨f3_sig, f3_rs, fun xs => f3 k xs.1 xs.2.1⟩
theorem f3_ok (k : Nat) : PureOK Try.prog 3 f3_sig f3_rs (fun xs => f3 k xs.1 xs.2.1) :=
  (pure_of_den (k := k) (A := f3_A) (T := T) (Y := f3_Y) (E := f3_E k) (M := 240) (ts := f3_ts) T_ok ⟨f13_ok k, f14_ok k, f15_ok k, f16_ok k, f17_ok k, f18_ok k, f19_ok k, f20_ok k, f21_ok k, f22_ok k, trivial⟩ ⟨f13_ent, f14_ent, f15_ent, f16_ent, f17_ent, f18_ent, f19_ent, f20_ent, f21_ent, f22_ent, trivial⟩ mixed (f := 3) (fn := Try.f3) (c := f3_c) (by kernel_rfl) (by kernel_rfl) (by kernel_rfl) (by decide) (by kernel_rfl)).congr fun xs => (f3_eq k xs).symm
theorem f3_ent : Ent Try.prog 3 := fun args w => by kernel_rfl
def Pure_NetTwice : Prop := ∀ xs : DL f3_sig, wfs f3_sig xs → ∃ k, f3 k xs.1 xs.2.1 = some (true, ())
end Go.Proofs.Ytoebjlimpnmaoaa.Rw
