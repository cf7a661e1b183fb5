/- What the functions that the law NetCosts reaches come to, part 1. No condition. -/
import Derived.Test.YthjejgaekoopnaaRxEv
import Derived.Test.YthjejgaekoopnaaProg
namespace Go.Proofs.Ythjejgaekoopnaa.Rw
open Go.Rx Go.Proofs
set_option linter.unusedVariables false
set_option maxRecDepth 100000
def T : Tab := [(3, ⟨.int .i64, 1, 8, some (false, [.int .i64 0]), false⟩),
  (4, ⟨.bool, 1, 1, some (false, [.lit false]), false⟩),
  (22, ⟨.slice 3, 1, 24, some (false, [.nil]), false⟩),
  (27, ⟨.int .i64, 1, 8, some (false, [.int .i64 0]), false⟩),
  (46, ⟨.struct [(0, 3), (1, 3)], 2, 16, some (true, [.int .i64 0, .int .i64 0]), true⟩),
  (49, ⟨.slice 46, 1, 24, some (false, [.nil]), false⟩),
  (50, ⟨.slice 55, 1, 24, some (false, [.nil]), false⟩),
  (51, ⟨.slice 66, 1, 24, some (false, [.nil]), false⟩),
  (53, ⟨.struct [(0, 49), (1, 50), (2, 51)], 3, 72, some (true, [.nil, .nil, .nil]), true⟩),
  (55, ⟨.struct [(0, 3), (1, 3), (2, 3), (3, 3)], 4, 32, some (true, [.int .i64 0, .int .i64 0, .int .i64 0, .int .i64 0]), true⟩),
  (66, ⟨.struct [(0, 3), (1, 3)], 2, 16, some (true, [.int .i64 0, .int .i64 0]), true⟩),
  (99, ⟨.map 46 4, 1, 8, some (false, [.any]), false⟩),
  (101, ⟨.map 66 4, 1, 8, some (false, [.any]), false⟩)]
theorem T_ok : TabOK Try.prog T := ⟨by kernel_rfl, by kernel_rfl, by kernel_rfl, by kernel_rfl, by kernel_rfl, by kernel_rfl, by kernel_rfl, by kernel_rfl, by kernel_rfl, by kernel_rfl, by kernel_rfl, by kernel_rfl, by kernel_rfl, trivial⟩
theorem mixed : Try.prog.follows .mixedOrders = true := by kernel_rfl
/-! ### terrier/net.root: function 61 -/
noncomputable def f61_c : Code := Try.f61.body.getD .skip
abbrev f61_sig : List PT := [(false, (.int .i64))]
abbrev f61_rs : List RT := [.d false (.int .i64)]
abbrev f61_ts : List RV := [.tmp 2]
abbrev f61_S := St → Option (RDL f61_rs)
def f61_Y : Tys := []
noncomputable def f61_E (k : Nat) : Env := []
def f61_A : Ann := { loops := [(0, { slots := [(0, .id), (3, .id), (4, .id)] })], conds := [(5, { slots := [(0, .id), (3, .id), (4, .id)] })] }
noncomputable abbrev f61_a (k : Nat) (F : List (Fr (RDL f61_rs))) : Kont (RDL f61_rs) := ap T f61_Y (f61_E k) f61_A k (Kfin T f61_rs f61_ts) F
def f61_s_l0 (x0 : Int) (x3 : Int) (x4 : Int) : St := mkS 22 66 [(0, .cp (.one (.int .i64 x0))), (3, .cp (.one (.int .i64 x3))), (4, .cp (.one (.int .i64 x4)))] []
noncomputable def f61_Q_l0 (k : Nat) (R_l0 : f61_S) : List (Fr (RDL f61_rs)) := [.c (sub f61_c [1, 1, 0, 0, 0]) 0, .j (fun σ => R_l0 (cut f61_A.loops 0 σ)), .blk 0, .c (sub f61_c [1, 1, 1]) 0]
noncomputable def f61_C_l0 (k : Nat) (n : Nat) (σ : St) : Option (RDL f61_rs) := loopK (fun σ K => den T f61_Y (f61_E k) f61_A k (sub f61_c [1, 1, 0, 0, 0]) 0 σ K) (cut f61_A.loops 0) (f61_a k [.blk 0, .c (sub f61_c [1, 1, 1]) 0]) n σ
def f61_s_c5 (x0 : Int) (x3 : Int) (x4 : Int) : St := mkS 22 66 [(0, .cp (.one (.int .i64 x0))), (3, .cp (.one (.int .i64 x3))), (4, .cp (.one (.int .i64 x4)))] []
noncomputable def f61_Q_c5 (k : Nat) (R_l0 : f61_S) : List (Fr (RDL f61_rs)) := [.blk 1, .j (fun σ => R_l0 (cut f61_A.loops 0 σ)), .blk 0, .c (sub f61_c [1, 1, 1]) 0]
noncomputable def f61_C_c5 (k : Nat) (R_l0 : f61_S) : f61_S := fun σ => f61_a k (f61_Q_c5 k R_l0) .nx σ
theorem f61_h1_1_0_0_0_1_0_1 : (sub f61_c [1, 1, 0, 0, 0, 1, 0, 1]) = .seq (sub f61_c [1, 1, 0, 0, 0, 1, 0, 1, 0]) (sub f61_c [1, 1, 0, 0, 0, 1, 0, 1, 1]) := by kernel_rfl
theorem f61_h1_1_0_0_0_1_0 : (sub f61_c [1, 1, 0, 0, 0, 1, 0]) = .seq (sub f61_c [1, 1, 0, 0, 0, 1, 0, 0]) (sub f61_c [1, 1, 0, 0, 0, 1, 0, 1]) := by kernel_rfl
theorem f61_h1_1_0_0_0_1 : (sub f61_c [1, 1, 0, 0, 0, 1]) = .block 1 (sub f61_c [1, 1, 0, 0, 0, 1, 0]) := by kernel_rfl
theorem f61_h1_1_0_0_0 : (sub f61_c [1, 1, 0, 0, 0]) = .seq (sub f61_c [1, 1, 0, 0, 0, 0]) (sub f61_c [1, 1, 0, 0, 0, 1]) := by kernel_rfl
theorem f61_h1_1_0_0 : (sub f61_c [1, 1, 0, 0]) = .loop (sub f61_c [1, 1, 0, 0, 0]) := by kernel_rfl
theorem f61_h1_1_0 : (sub f61_c [1, 1, 0]) = .block 0 (sub f61_c [1, 1, 0, 0]) := by kernel_rfl
theorem f61_h1_1 : (sub f61_c [1, 1]) = .seq (sub f61_c [1, 1, 0]) (sub f61_c [1, 1, 1]) := by kernel_rfl
theorem f61_h1 : (sub f61_c [1]) = .seq (sub f61_c [1, 0]) (sub f61_c [1, 1]) := by kernel_rfl
theorem f61_h : f61_c = .seq (sub f61_c [0]) (sub f61_c [1]) := by kernel_rfl
noncomputable def f61_F_c5 (k : Nat) (G_l0 : f61_S) : List (Fr (RDL f61_rs)) := .blk 1 :: .j (fun σ => G_l0 (cut f61_A.loops 0 σ)) :: .blk 0 :: .c (sub f61_c [1, 1, 1]) 0 :: []
theorem f61_f_c5 (k : Nat) (R_l0 : f61_S) : f61_a k (f61_Q_c5 k R_l0) = f61_a k (f61_F_c5 k R_l0) := (ap_cons _ (ap_cons _ (ap_cons _ (ap_cons _ rfl))))
noncomputable def f61_F_l0 (k : Nat) (G_l0 : f61_S) (G_c5 : f61_S) : List (Fr (RDL f61_rs)) := .c (sub f61_c [1, 1, 0, 0, 0, 0]) 0 :: .j (fun σ => f61_a k (.c (sub f61_c [1, 1, 0, 0, 0, 1, 0, 0]) 1 :: .c (sub f61_c [1, 1, 0, 0, 0, 1, 0, 1, 0]) 1 :: .c (sub f61_c [1, 1, 0, 0, 0, 1, 0, 1, 1]) 1 :: .j G_c5 :: f61_F_c5 k G_l0) .nx σ) :: .j (fun σ => G_l0 (cut f61_A.loops 0 σ)) :: .blk 0 :: .c (sub f61_c [1, 1, 1]) 0 :: []
theorem f61_f_l0 (k : Nat) (R_l0 : f61_S) : f61_a k (f61_Q_l0 k R_l0) = f61_a k (f61_F_l0 k R_l0 (f61_C_c5 k R_l0)) := (Eq.trans (ap_seq f61_h1_1_0_0_0) (ap_cons _ (Eq.trans (ap_block f61_h1_1_0_0_0_1) (Eq.trans (ap_j (Eq.trans (ap_seq f61_h1_1_0_0_0_1_0) (ap_cons _ (Eq.trans (ap_seq f61_h1_1_0_0_0_1_0_1) (ap_cons _ (ap_cons _ (Eq.trans (ap_pass (C := (f61_C_c5 k R_l0)) (fun _ => rfl)) (ap_cons _ (f61_f_c5 k R_l0))))))))) (ap_cons _ (ap_cons _ (ap_cons _ (ap_cons _ rfl))))))))
def f61_entry_B (k : Nat) (g_l0 : Int → Int → Int → Option (Int × Unit)) (a0 : Int) : Option (Int × Unit) := (g_l0 a0 0 4194304)
def f61_l0_B (k : Nat) (g_c5 : Int → Int → Int → Option (Int × Unit)) (x0 : Int) (x3 : Int) (x4 : Int) : Option (Int × Unit) := (if 1 < (w64 (x4 - x3)) then (if (w64 ((w64 ((w64 (x3 + x4)).tdiv 2)) * (w64 ((w64 (x3 + x4)).tdiv 2)))) ≤ x0 then (g_c5 x0 (w64 ((w64 (x3 + x4)).tdiv 2)) x4) else (g_c5 x0 x3 (w64 ((w64 (x3 + x4)).tdiv 2)))) else some (x3, ()))
def f61_c5_B (k : Nat) (g_l0 : Int → Int → Int → Option (Int × Unit)) (x0 : Int) (x3 : Int) (x4 : Int) : Option (Int × Unit) := (g_l0 x0 x3 x4)
theorem f61_c5_P (k : Nat) (G_l0 : f61_S) (x0 : Int) (x3 : Int) (x4 : Int) : f61_a k (f61_F_c5 k G_l0) .nx (f61_s_c5 x0 x3 x4) = f61_c5_B k (fun x0 x3 x4 => G_l0 (f61_s_l0 x0 x3 x4)) x0 x3 x4 := by kernel_rfl
def f61_c5 (k : Nat) (r_l0 : Int → Int → Int → Option (Int × Unit)) (x0 : Int) (x3 : Int) (x4 : Int) : Option (Int × Unit) := f61_c5_B k r_l0 x0 x3 x4
theorem f61_c5_E (k : Nat) (R_l0 : f61_S) (r_l0 : Int → Int → Int → Option (Int × Unit)) (h_l0 : ∀ (x0 : Int) (x3 : Int) (x4 : Int), R_l0 (f61_s_l0 x0 x3 x4) = r_l0 x0 x3 x4) (x0 : Int) (x3 : Int) (x4 : Int) : f61_C_c5 k R_l0 (f61_s_c5 x0 x3 x4) = f61_c5 k r_l0 x0 x3 x4 := by
  refine Eq.trans (ap_at (f61_f_c5 k R_l0) _) ((f61_c5_P k R_l0 x0 x3 x4).trans ?_)
  have e_l0 : (fun x0 x3 x4 => R_l0 (f61_s_l0 x0 x3 x4)) = r_l0 := funext fun x0 => funext fun x3 => funext fun x4 => h_l0 x0 x3 x4
  rw [e_l0]
  rfl
theorem f61_l0_P (k : Nat) (G_l0 : f61_S) (G_c5 : f61_S) (x0 : Int) (x3 : Int) (x4 : Int) : f61_a k (f61_F_l0 k G_l0 G_c5) .nx (f61_s_l0 x0 x3 x4) = f61_l0_B k (fun x0 x3 x4 => G_c5 (f61_s_c5 x0 x3 x4)) x0 x3 x4 := by kernel_rfl
def f61_l0 (k : Nat) : Nat → Int → Int → Int → Option (Int × Unit)
  | 0, _, _, _ => none
  | n + 1, x0, x3, x4 => f61_l0_B k (f61_c5 k (fun x0 x3 x4 => f61_l0 k n x0 x3 x4)) x0 x3 x4
theorem f61_l0_E (k : Nat) : ∀ (n : Nat) (x0 : Int) (x3 : Int) (x4 : Int), f61_C_l0 k n (f61_s_l0 x0 x3 x4) = f61_l0 k n x0 x3 x4
  | 0, _, _, _ => rfl
  | n + 1, x0, x3, x4 => by
    refine Eq.trans (show _ = f61_a k (f61_Q_l0 k (f61_C_l0 k n)) .nx (f61_s_l0 x0 x3 x4) by kernel_rfl) (Eq.trans (ap_at (f61_f_l0 k (f61_C_l0 k n)) _) ((f61_l0_P k (f61_C_l0 k n) (f61_C_c5 k (f61_C_l0 k n)) x0 x3 x4).trans ?_))
    have e_c5 : (fun x0 x3 x4 => (f61_C_c5 k (f61_C_l0 k n)) (f61_s_c5 x0 x3 x4)) = (f61_c5 k (fun x0 x3 x4 => f61_l0 k n x0 x3 x4)) := funext fun x0 => funext fun x3 => funext fun x4 => f61_c5_E k (f61_C_l0 k n) (fun x0 x3 x4 => f61_l0 k n x0 x3 x4) (fun x0 x3 x4 => f61_l0_E k n x0 x3 x4)  x0 x3 x4
    rw [e_c5]
    rfl
theorem f61_entry_P (k : Nat) (G_l0 : f61_S) (xs : DL f61_sig) : f61_a k (.c (sub f61_c [0]) 0 :: .c (sub f61_c [1, 0]) 0 :: .j (fun σ => f61_a k (.j (fun σ => G_l0 (cut f61_A.loops 0 σ)) :: .blk 0 :: .c (sub f61_c [1, 1, 1]) 0 :: []) .nx σ) :: .c (sub f61_c [1, 1, 1]) 0 :: []) .nx (σ0 22 66 f61_sig xs) = f61_entry_B k (fun x0 x3 x4 => G_l0 (f61_s_l0 x0 x3 x4)) xs.1 := by kernel_rfl
theorem f61_f_entry (k : Nat) : f61_a k [.c f61_c 0] = f61_a k (.c (sub f61_c [0]) 0 :: .c (sub f61_c [1, 0]) 0 :: .j (fun σ => f61_a k (.j (fun σ => (f61_C_l0 k k) (cut f61_A.loops 0 σ)) :: .blk 0 :: .c (sub f61_c [1, 1, 1]) 0 :: []) .nx σ) :: .c (sub f61_c [1, 1, 1]) 0 :: []) := (Eq.trans (ap_seq f61_h) (ap_cons _ (Eq.trans (ap_seq f61_h1) (ap_cons _ (Eq.trans (ap_seq f61_h1_1) (Eq.trans (ap_block f61_h1_1_0) (Eq.trans (ap_j (Eq.trans (ap_loop (C := (f61_C_l0 k)) f61_h1_1_0_0 (fun _ _ => rfl)) (ap_cons _ (ap_cons _ (ap_cons _ rfl))))) (ap_cons _ (ap_cons _ rfl)))))))))
def f61 (k : Nat) (a0 : Int) : Option (Int × Unit) := f61_entry_B k (f61_l0 k k) a0
theorem f61_eq (k : Nat) (xs : DL f61_sig) : den T f61_Y (f61_E k) f61_A k f61_c 0 (σ0 22 66 f61_sig xs) (Kfin T f61_rs f61_ts) = f61 k xs.1 := by
  refine Eq.trans den_ap (Eq.trans (ap_at (f61_f_entry k) _) ((f61_entry_P k (f61_C_l0 k k) xs).trans ?_))
  have e_l0 : (fun x0 x3 x4 => (f61_C_l0 k k) (f61_s_l0 x0 x3 x4)) = (f61_l0 k k) := funext fun x0 => funext fun x3 => funext fun x4 => f61_l0_E k  k x0 x3 x4
  rw [e_l0]
  rfl
noncomputable def f61_con (k : Nat) : Con := ⟨f61_sig, f61_rs, fun xs => f61 k xs.1⟩
theorem f61_ok (k : Nat) : PureOK Try.prog 61 f61_sig f61_rs (fun xs => f61 k xs.1) :=
  (pure_of_den (k := k) (A := f61_A) (T := T) (Y := f61_Y) (E := f61_E k) (M := 66) (ts := f61_ts) T_ok trivial trivial mixed (f := 61) (fn := Try.f61) (c := f61_c) (by kernel_rfl) (by kernel_rfl) (by kernel_rfl) (by decide) (by kernel_rfl)).congr fun xs => (f61_eq k xs).symm
theorem f61_ent : Ent Try.prog 61 := fun args w => by kernel_rfl
/-! ### terrier/point.limit: function 87 -/
noncomputable def f87_c : Code := Try.f87.body.getD .skip
abbrev f87_sig : List PT := [(false, (.int .i64)), (false, (.int .i64))]
abbrev f87_rs : List RT := [.d false (.int .i64)]
abbrev f87_ts : List RV := [.tmp 4]
abbrev f87_S := St → Option (RDL f87_rs)
def f87_Y : Tys := []
noncomputable def f87_E (k : Nat) : Env := []
def f87_A : Ann := {}
noncomputable abbrev f87_a (k : Nat) (F : List (Fr (RDL f87_rs))) : Kont (RDL f87_rs) := ap T f87_Y (f87_E k) f87_A k (Kfin T f87_rs f87_ts) F
def f87_entry_B (k : Nat) (a0 : Int) (a1 : Int) : Option (Int × Unit) := some ((mx2 true (w64 (0 - a1)) (mx2 false a0 a1)), ())
theorem f87_entry_P (k : Nat) (xs : DL f87_sig) : f87_a k (.c f87_c 0 :: []) .nx (σ0 11 34 f87_sig xs) = f87_entry_B k  xs.1 xs.2.1 := by kernel_rfl
theorem f87_f_entry (k : Nat) : f87_a k [.c f87_c 0] = f87_a k (.c f87_c 0 :: []) := (ap_cons _ rfl)
def f87 (k : Nat) (a0 : Int) (a1 : Int) : Option (Int × Unit) := f87_entry_B k  a0 a1
theorem f87_eq (k : Nat) (xs : DL f87_sig) : den T f87_Y (f87_E k) f87_A k f87_c 0 (σ0 11 34 f87_sig xs) (Kfin T f87_rs f87_ts) = f87 k xs.1 xs.2.1 := by
  refine Eq.trans den_ap (Eq.trans (ap_at (f87_f_entry k) _) ((f87_entry_P k  xs).trans ?_))
  rfl
noncomputable def f87_con (k : Nat) : Con := ⟨f87_sig, f87_rs, fun xs => f87 k xs.1 xs.2.1⟩
theorem f87_ok (k : Nat) : PureOK Try.prog 87 f87_sig f87_rs (fun xs => f87 k xs.1 xs.2.1) :=
  (pure_of_den (k := k) (A := f87_A) (T := T) (Y := f87_Y) (E := f87_E k) (M := 34) (ts := f87_ts) T_ok trivial trivial mixed (f := 87) (fn := Try.f87) (c := f87_c) (by kernel_rfl) (by kernel_rfl) (by kernel_rfl) (by decide) (by kernel_rfl)).congr fun xs => (f87_eq k xs).symm
theorem f87_ent : Ent Try.prog 87 := fun args w => by kernel_rfl
/-! ### terrier/point.Clamp: function 63 -/
noncomputable def f63_c : Code := Try.f63.body.getD .skip
abbrev f63_sig : List PT := [(true, (.pair (.int .i64) (.int .i64)))]
abbrev f63_rs : List RT := [.d true (.pair (.int .i64) (.int .i64))]
abbrev f63_ts : List RV := [.cell 2 46]
abbrev f63_S := St → Option (RDL f63_rs)
def f63_Y : Tys := []
noncomputable def f63_E (k : Nat) : Env := [(87, .c (f87_con k))]
def f63_A : Ann := {}
noncomputable abbrev f63_a (k : Nat) (F : List (Fr (RDL f63_rs))) : Kont (RDL f63_rs) := ap T f63_Y (f63_E k) f63_A k (Kfin T f63_rs f63_ts) F
def f63_entry_B (k : Nat) (a0 : (Int × Int)) : Option ((Int × Int) × Unit) := ((f87 k a0.1 1048576).bind fun r1 => ((f87 k a0.2 1048576).bind fun r2 => some ((r1.1, r2.1), ())))
theorem f63_entry_P (k : Nat) (xs : DL f63_sig) : f63_a k (.c f63_c 0 :: []) .nx (σ0 10 30 f63_sig xs) = f63_entry_B k  xs.1 := by kernel_rfl
theorem f63_f_entry (k : Nat) : f63_a k [.c f63_c 0] = f63_a k (.c f63_c 0 :: []) := (ap_cons _ rfl)
def f63 (k : Nat) (a0 : (Int × Int)) : Option ((Int × Int) × Unit) := f63_entry_B k  a0
theorem f63_eq (k : Nat) (xs : DL f63_sig) : den T f63_Y (f63_E k) f63_A k f63_c 0 (σ0 10 30 f63_sig xs) (Kfin T f63_rs f63_ts) = f63 k xs.1 := by
  refine Eq.trans den_ap (Eq.trans (ap_at (f63_f_entry k) _) ((f63_entry_P k  xs).trans ?_))
  rfl
noncomputable def f63_con (k : Nat) : Con := ⟨f63_sig, f63_rs, fun xs => f63 k xs.1⟩
theorem f63_ok (k : Nat) : PureOK Try.prog 63 f63_sig f63_rs (fun xs => f63 k xs.1) :=
  (pure_of_den (k := k) (A := f63_A) (T := T) (Y := f63_Y) (E := f63_E k) (M := 30) (ts := f63_ts) T_ok ⟨f87_ok k, trivial⟩ ⟨f87_ent, trivial⟩ mixed (f := 63) (fn := Try.f63) (c := f63_c) (by kernel_rfl) (by kernel_rfl) (by kernel_rfl) (by decide) (by kernel_rfl)).congr fun xs => (f63_eq k xs).symm
theorem f63_ent : Ent Try.prog 63 := fun args w => by kernel_rfl
/-! ### terrier/point.way: function 93 -/
noncomputable def f93_c : Code := Try.f93.body.getD .skip
abbrev f93_sig : List PT := [(true, (.pair (.int .i64) (.int .i64))), (true, (.pair (.int .i64) (.int .i64)))]
abbrev f93_rs : List RT := [.d true (.pair (.int .i64) (.int .i64))]
abbrev f93_ts : List RV := [.cell 4 46]
abbrev f93_S := St → Option (RDL f93_rs)
def f93_Y : Tys := []
noncomputable def f93_E (k : Nat) : Env := [(63, .c (f63_con k))]
def f93_A : Ann := {}
noncomputable abbrev f93_a (k : Nat) (F : List (Fr (RDL f93_rs))) : Kont (RDL f93_rs) := ap T f93_Y (f93_E k) f93_A k (Kfin T f93_rs f93_ts) F
def f93_entry_B (k : Nat) (a0 : (Int × Int)) (a1 : (Int × Int)) : Option ((Int × Int) × Unit) := ((f63 k (a0.1, a0.2)).bind fun r1 => ((f63 k (a1.1, a1.2)).bind fun r2 => some ((w64 (r2.1.1 - r1.1.1), w64 (r2.1.2 - r1.1.2)), ())))
theorem f93_entry_P (k : Nat) (xs : DL f93_sig) : f93_a k (.c f93_c 0 :: []) .nx (σ0 20 60 f93_sig xs) = f93_entry_B k  xs.1 xs.2.1 := by kernel_rfl
theorem f93_f_entry (k : Nat) : f93_a k [.c f93_c 0] = f93_a k (.c f93_c 0 :: []) := (ap_cons _ rfl)
def f93 (k : Nat) (a0 : (Int × Int)) (a1 : (Int × Int)) : Option ((Int × Int) × Unit) := f93_entry_B k  a0 a1
theorem f93_eq (k : Nat) (xs : DL f93_sig) : den T f93_Y (f93_E k) f93_A k f93_c 0 (σ0 20 60 f93_sig xs) (Kfin T f93_rs f93_ts) = f93 k xs.1 xs.2.1 := by
  refine Eq.trans den_ap (Eq.trans (ap_at (f93_f_entry k) _) ((f93_entry_P k  xs).trans ?_))
  rfl
noncomputable def f93_con (k : Nat) : Con := ⟨f93_sig, f93_rs, fun xs => f93 k xs.1 xs.2.1⟩
theorem f93_ok (k : Nat) : PureOK Try.prog 93 f93_sig f93_rs (fun xs => f93 k xs.1 xs.2.1) :=
  (pure_of_den (k := k) (A := f93_A) (T := T) (Y := f93_Y) (E := f93_E k) (M := 60) (ts := f93_ts) T_ok ⟨f63_ok k, trivial⟩ ⟨f63_ent, trivial⟩ mixed (f := 93) (fn := Try.f93) (c := f93_c) (by kernel_rfl) (by kernel_rfl) (by kernel_rfl) (by decide) (by kernel_rfl)).congr fun xs => (f93_eq k xs).symm
theorem f93_ent : Ent Try.prog 93 := fun args w => by kernel_rfl
/-! ### terrier/point.Dot: function 86 -/
noncomputable def f86_c : Code := Try.f86.body.getD .skip
abbrev f86_sig : List PT := [(true, (.pair (.int .i64) (.int .i64))), (true, (.pair (.int .i64) (.int .i64))), (true, (.pair (.int .i64) (.int .i64)))]
abbrev f86_rs : List RT := [.d false (.int .i64)]
abbrev f86_ts : List RV := [.tmp 6]
abbrev f86_S := St → Option (RDL f86_rs)
def f86_Y : Tys := []
noncomputable def f86_E (k : Nat) : Env := [(93, .c (f93_con k))]
def f86_A : Ann := {}
noncomputable abbrev f86_a (k : Nat) (F : List (Fr (RDL f86_rs))) : Kont (RDL f86_rs) := ap T f86_Y (f86_E k) f86_A k (Kfin T f86_rs f86_ts) F
def f86_entry_B (k : Nat) (a0 : (Int × Int)) (a1 : (Int × Int)) (a2 : (Int × Int)) : Option (Int × Unit) := ((f93 k (a0.1, a0.2) (a1.1, a1.2)).bind fun r1 => ((f93 k (a0.1, a0.2) (a2.1, a2.2)).bind fun r2 => some (w64 ((w64 (r1.1.1 * r2.1.1)) + (w64 (r1.1.2 * r2.1.2))), ())))
theorem f86_entry_P (k : Nat) (xs : DL f86_sig) : f86_a k (.c f86_c 0 :: []) .nx (σ0 26 78 f86_sig xs) = f86_entry_B k  xs.1 xs.2.1 xs.2.2.1 := by kernel_rfl
theorem f86_f_entry (k : Nat) : f86_a k [.c f86_c 0] = f86_a k (.c f86_c 0 :: []) := (ap_cons _ rfl)
def f86 (k : Nat) (a0 : (Int × Int)) (a1 : (Int × Int)) (a2 : (Int × Int)) : Option (Int × Unit) := f86_entry_B k  a0 a1 a2
theorem f86_eq (k : Nat) (xs : DL f86_sig) : den T f86_Y (f86_E k) f86_A k f86_c 0 (σ0 26 78 f86_sig xs) (Kfin T f86_rs f86_ts) = f86 k xs.1 xs.2.1 xs.2.2.1 := by
  refine Eq.trans den_ap (Eq.trans (ap_at (f86_f_entry k) _) ((f86_entry_P k  xs).trans ?_))
  rfl
noncomputable def f86_con (k : Nat) : Con := ⟨f86_sig, f86_rs, fun xs => f86 k xs.1 xs.2.1 xs.2.2.1⟩
theorem f86_ok (k : Nat) : PureOK Try.prog 86 f86_sig f86_rs (fun xs => f86 k xs.1 xs.2.1 xs.2.2.1) :=
  (pure_of_den (k := k) (A := f86_A) (T := T) (Y := f86_Y) (E := f86_E k) (M := 78) (ts := f86_ts) T_ok ⟨f93_ok k, trivial⟩ ⟨f93_ent, trivial⟩ mixed (f := 86) (fn := Try.f86) (c := f86_c) (by kernel_rfl) (by kernel_rfl) (by kernel_rfl) (by decide) (by kernel_rfl)).congr fun xs => (f86_eq k xs).symm
theorem f86_ent : Ent Try.prog 86 := fun args w => by kernel_rfl
/-! ### terrier/point.Sq: function 62 -/
noncomputable def f62_c : Code := Try.f62.body.getD .skip
abbrev f62_sig : List PT := [(true, (.pair (.int .i64) (.int .i64))), (true, (.pair (.int .i64) (.int .i64)))]
abbrev f62_rs : List RT := [.d false (.int .i64)]
abbrev f62_ts : List RV := [.tmp 4]
abbrev f62_S := St → Option (RDL f62_rs)
def f62_Y : Tys := []
noncomputable def f62_E (k : Nat) : Env := [(86, .c (f86_con k))]
def f62_A : Ann := {}
noncomputable abbrev f62_a (k : Nat) (F : List (Fr (RDL f62_rs))) : Kont (RDL f62_rs) := ap T f62_Y (f62_E k) f62_A k (Kfin T f62_rs f62_ts) F
def f62_entry_B (k : Nat) (a0 : (Int × Int)) (a1 : (Int × Int)) : Option (Int × Unit) := ((f86 k (a0.1, a0.2) (a1.1, a1.2) (a1.1, a1.2)).bind fun r1 => some (r1.1, ()))
theorem f62_entry_P (k : Nat) (xs : DL f62_sig) : f62_a k (.c f62_c 0 :: []) .nx (σ0 9 28 f62_sig xs) = f62_entry_B k  xs.1 xs.2.1 := by kernel_rfl
theorem f62_f_entry (k : Nat) : f62_a k [.c f62_c 0] = f62_a k (.c f62_c 0 :: []) := (ap_cons _ rfl)
def f62 (k : Nat) (a0 : (Int × Int)) (a1 : (Int × Int)) : Option (Int × Unit) := f62_entry_B k  a0 a1
theorem f62_eq (k : Nat) (xs : DL f62_sig) : den T f62_Y (f62_E k) f62_A k f62_c 0 (σ0 9 28 f62_sig xs) (Kfin T f62_rs f62_ts) = f62 k xs.1 xs.2.1 := by
  refine Eq.trans den_ap (Eq.trans (ap_at (f62_f_entry k) _) ((f62_entry_P k  xs).trans ?_))
  rfl
noncomputable def f62_con (k : Nat) : Con := ⟨f62_sig, f62_rs, fun xs => f62 k xs.1 xs.2.1⟩
theorem f62_ok (k : Nat) : PureOK Try.prog 62 f62_sig f62_rs (fun xs => f62 k xs.1 xs.2.1) :=
  (pure_of_den (k := k) (A := f62_A) (T := T) (Y := f62_Y) (E := f62_E k) (M := 28) (ts := f62_ts) T_ok ⟨f86_ok k, trivial⟩ ⟨f86_ent, trivial⟩ mixed (f := 62) (fn := Try.f62) (c := f62_c) (by kernel_rfl) (by kernel_rfl) (by kernel_rfl) (by decide) (by kernel_rfl)).congr fun xs => (f62_eq k xs).symm
theorem f62_ent : Ent Try.prog 62 := fun args w => by kernel_rfl
/-! ### terrier/net.Long: function 30 -/
noncomputable def f30_c : Code := Try.f30.body.getD .skip
abbrev f30_sig : List PT := [(true, (.pair (.int .i64) (.int .i64))), (true, (.pair (.int .i64) (.int .i64))), (false, (.int .i64))]
abbrev f30_rs : List RT := [.d false (.int .i64)]
abbrev f30_ts : List RV := [.tmp 6]
abbrev f30_S := St → Option (RDL f30_rs)
def f30_Y : Tys := []
noncomputable def f30_E (k : Nat) : Env := [(61, .c (f61_con k)), (62, .c (f62_con k)), (63, .c (f63_con k))]
def f30_A : Ann := { regs := [(1, { slots := [(2, .id), (3, .id), (4, .id), (13, .bool)], keys := [(3, []), (4, [])] })], conds := [(2, { slots := [(2, .id), (3, .id), (4, .id)], keys := [(3, []), (4, [])] })] }
noncomputable abbrev f30_a (k : Nat) (F : List (Fr (RDL f30_rs))) : Kont (RDL f30_rs) := ap T f30_Y (f30_E k) f30_A k (Kfin T f30_rs f30_ts) F
def f30_s_r1 (y3_0 : Int) (y3_1 : Int) (y4_0 : Int) (y4_1 : Int) (x13 : Bool) (x2 : Int) : St := mkS 27 82 [(2, .cp (.one (.int .i64 x2))), (3, .cp (.one (.ptr 3 0))), (4, .cp (.one (.ptr 4 0))), (13, .cp (.one (.prop (x13 = true) inferInstance)))] [(3, .box [.int .i64 y3_0, .int .i64 y3_1]), (4, .box [.int .i64 y4_0, .int .i64 y4_1])]
noncomputable def f30_Q_r1 (k : Nat) : List (Fr (RDL f30_rs)) := [.c (sub f30_c [1, 0, 1]) 0, .c (sub f30_c [1, 1]) 0]
noncomputable def f30_C_r1 (k : Nat) : f30_S := fun σ => f30_a k (f30_Q_r1 k) .nx σ
def f30_s_c2 (y3_0 : Int) (y3_1 : Int) (y4_0 : Int) (y4_1 : Int) (x2 : Int) : St := mkS 27 82 [(2, .cp (.one (.int .i64 x2))), (3, .cp (.one (.ptr 3 0))), (4, .cp (.one (.ptr 4 0)))] [(3, .box [.int .i64 y3_0, .int .i64 y3_1]), (4, .box [.int .i64 y4_0, .int .i64 y4_1])]
noncomputable def f30_Q_c2 (k : Nat) : List (Fr (RDL f30_rs)) := [.c (sub f30_c [1, 1]) 0]
noncomputable def f30_C_c2 (k : Nat) : f30_S := fun σ => f30_a k (f30_Q_c2 k) .nx σ
theorem f30_h1_0 : (sub f30_c [1, 0]) = .seq (sub f30_c [1, 0, 0]) (sub f30_c [1, 0, 1]) := by kernel_rfl
theorem f30_h1 : (sub f30_c [1]) = .seq (sub f30_c [1, 0]) (sub f30_c [1, 1]) := by kernel_rfl
theorem f30_h : f30_c = .seq (sub f30_c [0]) (sub f30_c [1]) := by kernel_rfl
noncomputable def f30_F_c2 (k : Nat) : List (Fr (RDL f30_rs)) := .c (sub f30_c [1, 1]) 0 :: []
theorem f30_f_c2 (k : Nat) : f30_a k (f30_Q_c2 k) = f30_a k (f30_F_c2 k) := (ap_cons _ rfl)
noncomputable def f30_F_r1 (k : Nat) (G_c2 : f30_S) : List (Fr (RDL f30_rs)) := .c (sub f30_c [1, 0, 1]) 0 :: .j G_c2 :: f30_F_c2 k
theorem f30_f_r1 (k : Nat) : f30_a k (f30_Q_r1 k) = f30_a k (f30_F_r1 k (f30_C_c2 k)) := (ap_cons _ (Eq.trans (ap_pass (C := (f30_C_c2 k)) (fun _ => rfl)) (ap_cons _ (f30_f_c2 k))))
def f30_entry_B (k : Nat) (g_r1 : Int → Int → Int → Int → Bool → Int → Option (Int × Unit)) (a0 : (Int × Int)) (a1 : (Int × Int)) (a2 : Int) : Option (Int × Unit) := (if a2 < 1 then (g_r1 a0.1 a0.2 a1.1 a1.2 true a2) else (g_r1 a0.1 a0.2 a1.1 a1.2 (decide (1000 < a2)) a2))
def f30_r1_B (k : Nat) (g_c2 : Int → Int → Int → Int → Int → Option (Int × Unit)) (y3_0 : Int) (y3_1 : Int) (y4_0 : Int) (y4_1 : Int) (x13 : Bool) (x2 : Int) : Option (Int × Unit) := (if x13 = true then (g_c2 y3_0 y3_1 y4_0 y4_1 100) else (g_c2 y3_0 y3_1 y4_0 y4_1 x2))
def f30_c2_B (k : Nat) (y3_0 : Int) (y3_1 : Int) (y4_0 : Int) (y4_1 : Int) (x2 : Int) : Option (Int × Unit) := ((f63 k (y3_0, y3_1)).bind fun r1 => ((f63 k (y4_0, y4_1)).bind fun r2 => ((f62 k (r1.1.1, r1.1.2) (r2.1.1, r2.1.2)).bind fun r3 => ((f61 k r3.1).bind fun r4 => (if ¬ x2 = 0 then some (w64 ((w64 ((w64 ((w64 (r4.1 * 100)) + x2)) - 1)).tdiv x2), ()) else none)))))
theorem f30_c2_P (k : Nat) (y3_0 : Int) (y3_1 : Int) (y4_0 : Int) (y4_1 : Int) (x2 : Int) : f30_a k (f30_F_c2 k) .nx (f30_s_c2 y3_0 y3_1 y4_0 y4_1 x2) = f30_c2_B k  y3_0 y3_1 y4_0 y4_1 x2 := by kernel_rfl
def f30_c2 (k : Nat) (y3_0 : Int) (y3_1 : Int) (y4_0 : Int) (y4_1 : Int) (x2 : Int) : Option (Int × Unit) := f30_c2_B k  y3_0 y3_1 y4_0 y4_1 x2
theorem f30_c2_E (k : Nat) (y3_0 : Int) (y3_1 : Int) (y4_0 : Int) (y4_1 : Int) (x2 : Int) : f30_C_c2 k (f30_s_c2 y3_0 y3_1 y4_0 y4_1 x2) = f30_c2 k y3_0 y3_1 y4_0 y4_1 x2 := by
  refine Eq.trans (ap_at (f30_f_c2 k) _) ((f30_c2_P k  y3_0 y3_1 y4_0 y4_1 x2).trans ?_)
  rfl
theorem f30_r1_P (k : Nat) (G_c2 : f30_S) (y3_0 : Int) (y3_1 : Int) (y4_0 : Int) (y4_1 : Int) (x13 : Bool) (x2 : Int) : f30_a k (f30_F_r1 k G_c2) .nx (f30_s_r1 y3_0 y3_1 y4_0 y4_1 x13 x2) = f30_r1_B k (fun y3_0 y3_1 y4_0 y4_1 x2 => G_c2 (f30_s_c2 y3_0 y3_1 y4_0 y4_1 x2)) y3_0 y3_1 y4_0 y4_1 x13 x2 := by kernel_rfl
def f30_r1 (k : Nat) (y3_0 : Int) (y3_1 : Int) (y4_0 : Int) (y4_1 : Int) (x13 : Bool) (x2 : Int) : Option (Int × Unit) := f30_r1_B k (f30_c2 k) y3_0 y3_1 y4_0 y4_1 x13 x2
theorem f30_r1_E (k : Nat) (y3_0 : Int) (y3_1 : Int) (y4_0 : Int) (y4_1 : Int) (x13 : Bool) (x2 : Int) : f30_C_r1 k (f30_s_r1 y3_0 y3_1 y4_0 y4_1 x13 x2) = f30_r1 k y3_0 y3_1 y4_0 y4_1 x13 x2 := by
  refine Eq.trans (ap_at (f30_f_r1 k) _) ((f30_r1_P k (f30_C_c2 k) y3_0 y3_1 y4_0 y4_1 x13 x2).trans ?_)
  have e_c2 : (fun y3_0 y3_1 y4_0 y4_1 x2 => (f30_C_c2 k) (f30_s_c2 y3_0 y3_1 y4_0 y4_1 x2)) = (f30_c2 k) := funext fun y3_0 => funext fun y3_1 => funext fun y4_0 => funext fun y4_1 => funext fun x2 => f30_c2_E k   y3_0 y3_1 y4_0 y4_1 x2
  rw [e_c2]
  rfl
theorem f30_entry_P (k : Nat) (G_r1 : f30_S) (G_c2 : f30_S) (xs : DL f30_sig) : f30_a k (.c (sub f30_c [0]) 0 :: .c (sub f30_c [1, 0, 0]) 0 :: .j G_r1 :: f30_F_r1 k G_c2) .nx (σ0 27 82 f30_sig xs) = f30_entry_B k (fun y3_0 y3_1 y4_0 y4_1 x13 x2 => G_r1 (f30_s_r1 y3_0 y3_1 y4_0 y4_1 x13 x2)) xs.1 xs.2.1 xs.2.2.1 := by kernel_rfl
theorem f30_f_entry (k : Nat) : f30_a k [.c f30_c 0] = f30_a k (.c (sub f30_c [0]) 0 :: .c (sub f30_c [1, 0, 0]) 0 :: .j (f30_C_r1 k) :: f30_F_r1 k (f30_C_c2 k)) := (Eq.trans (ap_seq f30_h) (ap_cons _ (Eq.trans (ap_seq f30_h1) (Eq.trans (ap_seq f30_h1_0) (ap_cons _ (Eq.trans (ap_pass (C := (f30_C_r1 k)) (fun _ => rfl)) (ap_cons _ (f30_f_r1 k))))))))
def f30 (k : Nat) (a0 : (Int × Int)) (a1 : (Int × Int)) (a2 : Int) : Option (Int × Unit) := f30_entry_B k (f30_r1 k) a0 a1 a2
theorem f30_eq (k : Nat) (xs : DL f30_sig) : den T f30_Y (f30_E k) f30_A k f30_c 0 (σ0 27 82 f30_sig xs) (Kfin T f30_rs f30_ts) = f30 k xs.1 xs.2.1 xs.2.2.1 := by
  refine Eq.trans den_ap (Eq.trans (ap_at (f30_f_entry k) _) ((f30_entry_P k (f30_C_r1 k) (f30_C_c2 k) xs).trans ?_))
  have e_r1 : (fun y3_0 y3_1 y4_0 y4_1 x13 x2 => (f30_C_r1 k) (f30_s_r1 y3_0 y3_1 y4_0 y4_1 x13 x2)) = (f30_r1 k) := funext fun y3_0 => funext fun y3_1 => funext fun y4_0 => funext fun y4_1 => funext fun x13 => funext fun x2 => f30_r1_E k   y3_0 y3_1 y4_0 y4_1 x13 x2
  rw [e_r1]
  rfl
noncomputable def f30_con (k : Nat) : Con := ⟨f30_sig, f30_rs, fun xs => f30 k xs.1 xs.2.1 xs.2.2.1⟩
theorem f30_ok (k : Nat) : PureOK Try.prog 30 f30_sig f30_rs (fun xs => f30 k xs.1 xs.2.1 xs.2.2.1) :=
  (pure_of_den (k := k) (A := f30_A) (T := T) (Y := f30_Y) (E := f30_E k) (M := 82) (ts := f30_ts) T_ok ⟨f61_ok k, f62_ok k, f63_ok k, trivial⟩ ⟨f61_ent, f62_ent, f63_ent, trivial⟩ mixed (f := 30) (fn := Try.f30) (c := f30_c) (by kernel_rfl) (by kernel_rfl) (by kernel_rfl) (by decide) (by kernel_rfl)).congr fun xs => (f30_eq k xs).symm
theorem f30_ent : Ent Try.prog 30 := fun args w => by kernel_rfl
/-! ### slices.Equal[[]int,int]: function 35 -/
noncomputable def f35_c : Code := Try.f35.body.getD .skip
abbrev f35_sig : List PT := [(false, (.sl false (.int .i64))), (false, (.sl false (.int .i64)))]
abbrev f35_rs : List RT := [.d false .bool]
abbrev f35_ts : List RV := [.tmp 4]
abbrev f35_S := St → Option (RDL f35_rs)
def f35_Y : Tys := []
noncomputable def f35_E (k : Nat) : Env := []
def f35_A : Ann := { loops := [(0, { slots := [(0, .val false (.int .i64)), (1, .val false (.int .i64)), (12, .id), (13, .id)] })] }
noncomputable abbrev f35_a (k : Nat) (F : List (Fr (RDL f35_rs))) : Kont (RDL f35_rs) := ap T f35_Y (f35_E k) f35_A k (Kfin T f35_rs f35_ts) F
def f35_s_l0 (x0 : (List Int)) (x1 : (List Int)) (x12 : Int) (x13 : Int) : St := mkS 26 78 [(0, .cp (.one (.val false (.int .i64) x0))), (1, .cp (.one (.val false (.int .i64) x1))), (12, .cp (.one (.int .i64 x12))), (13, .cp (.one (.int .i64 x13)))] []
noncomputable def f35_Q_l0 (k : Nat) (R_l0 : f35_S) : List (Fr (RDL f35_rs)) := [.c (sub f35_c [1, 1, 0, 1, 0, 0]) 0, .j (fun σ => R_l0 (cut f35_A.loops 0 σ)), .blk 0, .c (sub f35_c [1, 1, 1]) 0]
noncomputable def f35_C_l0 (k : Nat) (n : Nat) (σ : St) : Option (RDL f35_rs) := loopK (fun σ K => den T f35_Y (f35_E k) f35_A k (sub f35_c [1, 1, 0, 1, 0, 0]) 0 σ K) (cut f35_A.loops 0) (f35_a k [.blk 0, .c (sub f35_c [1, 1, 1]) 0]) n σ
theorem f35_h1_1_0_1_0 : (sub f35_c [1, 1, 0, 1, 0]) = .loop (sub f35_c [1, 1, 0, 1, 0, 0]) := by kernel_rfl
theorem f35_h1_1_0_1 : (sub f35_c [1, 1, 0, 1]) = .block 0 (sub f35_c [1, 1, 0, 1, 0]) := by kernel_rfl
theorem f35_h1_1_0 : (sub f35_c [1, 1, 0]) = .seq (sub f35_c [1, 1, 0, 0]) (sub f35_c [1, 1, 0, 1]) := by kernel_rfl
theorem f35_h1_1 : (sub f35_c [1, 1]) = .seq (sub f35_c [1, 1, 0]) (sub f35_c [1, 1, 1]) := by kernel_rfl
theorem f35_h1 : (sub f35_c [1]) = .seq (sub f35_c [1, 0]) (sub f35_c [1, 1]) := by kernel_rfl
theorem f35_h : f35_c = .seq (sub f35_c [0]) (sub f35_c [1]) := by kernel_rfl
noncomputable def f35_F_l0 (k : Nat) (G_l0 : f35_S) : List (Fr (RDL f35_rs)) := .c (sub f35_c [1, 1, 0, 1, 0, 0]) 0 :: .j (fun σ => G_l0 (cut f35_A.loops 0 σ)) :: .blk 0 :: .c (sub f35_c [1, 1, 1]) 0 :: []
theorem f35_f_l0 (k : Nat) (R_l0 : f35_S) : f35_a k (f35_Q_l0 k R_l0) = f35_a k (f35_F_l0 k R_l0) := (ap_cons _ (ap_cons _ (ap_cons _ (ap_cons _ rfl))))
def f35_entry_B (k : Nat) (g_l0 : (List Int) → (List Int) → Int → Int → Option (Bool × Unit)) (a0 : (List Int)) (a1 : (List Int)) : Option (Bool × Unit) := (if ¬ ((a0.length : Int) = (a1.length : Int)) then some (false, ()) else (g_l0 a0 a1 (a0.length : Int) 0))
def f35_l0_B (k : Nat) (g_l0 : (List Int) → (List Int) → Int → Int → Option (Bool × Unit)) (x0 : (List Int)) (x1 : (List Int)) (x12 : Int) (x13 : Int) : Option (Bool × Unit) := (if x13 < x12 then (if 0 ≤ x13 then (if x13 < (x0.length : Int) then (if 0 ≤ x13 then (if x13 < (x1.length : Int) then (if ¬ ((x0.getD (x13).toNat 0) = (x1.getD (x13).toNat 0)) then some (false, ()) else (g_l0 x0 x1 x12 (w64 (x13 + 1)))) else none) else none) else none) else none) else some (true, ()))
theorem f35_l0_P (k : Nat) (G_l0 : f35_S) (x0 : (List Int)) (x1 : (List Int)) (x12 : Int) (x13 : Int) : f35_a k (f35_F_l0 k G_l0) .nx (f35_s_l0 x0 x1 x12 x13) = f35_l0_B k (fun x0 x1 x12 x13 => G_l0 (f35_s_l0 x0 x1 x12 x13)) x0 x1 x12 x13 := by kernel_rfl
def f35_l0 (k : Nat) : Nat → (List Int) → (List Int) → Int → Int → Option (Bool × Unit)
  | 0, _, _, _, _ => none
  | n + 1, x0, x1, x12, x13 => f35_l0_B k (fun x0 x1 x12 x13 => f35_l0 k n x0 x1 x12 x13) x0 x1 x12 x13
theorem f35_l0_E (k : Nat) : ∀ (n : Nat) (x0 : (List Int)) (x1 : (List Int)) (x12 : Int) (x13 : Int), f35_C_l0 k n (f35_s_l0 x0 x1 x12 x13) = f35_l0 k n x0 x1 x12 x13
  | 0, _, _, _, _ => rfl
  | n + 1, x0, x1, x12, x13 => by
    refine Eq.trans (show _ = f35_a k (f35_Q_l0 k (f35_C_l0 k n)) .nx (f35_s_l0 x0 x1 x12 x13) by kernel_rfl) (Eq.trans (ap_at (f35_f_l0 k (f35_C_l0 k n)) _) ((f35_l0_P k (f35_C_l0 k n) x0 x1 x12 x13).trans ?_))
    have e_l0 : (fun x0 x1 x12 x13 => (f35_C_l0 k n) (f35_s_l0 x0 x1 x12 x13)) = (fun x0 x1 x12 x13 => f35_l0 k n x0 x1 x12 x13) := funext fun x0 => funext fun x1 => funext fun x12 => funext fun x13 => f35_l0_E k n x0 x1 x12 x13
    rw [e_l0]
    rfl
theorem f35_entry_P (k : Nat) (G_l0 : f35_S) (xs : DL f35_sig) : f35_a k (.c (sub f35_c [0]) 0 :: .c (sub f35_c [1, 0]) 0 :: .c (sub f35_c [1, 1, 0, 0]) 0 :: .j (fun σ => f35_a k (.j (fun σ => G_l0 (cut f35_A.loops 0 σ)) :: .blk 0 :: .c (sub f35_c [1, 1, 1]) 0 :: []) .nx σ) :: .c (sub f35_c [1, 1, 1]) 0 :: []) .nx (σ0 26 78 f35_sig xs) = f35_entry_B k (fun x0 x1 x12 x13 => G_l0 (f35_s_l0 x0 x1 x12 x13)) xs.1 xs.2.1 := by kernel_rfl
theorem f35_f_entry (k : Nat) : f35_a k [.c f35_c 0] = f35_a k (.c (sub f35_c [0]) 0 :: .c (sub f35_c [1, 0]) 0 :: .c (sub f35_c [1, 1, 0, 0]) 0 :: .j (fun σ => f35_a k (.j (fun σ => (f35_C_l0 k k) (cut f35_A.loops 0 σ)) :: .blk 0 :: .c (sub f35_c [1, 1, 1]) 0 :: []) .nx σ) :: .c (sub f35_c [1, 1, 1]) 0 :: []) := (Eq.trans (ap_seq f35_h) (ap_cons _ (Eq.trans (ap_seq f35_h1) (ap_cons _ (Eq.trans (ap_seq f35_h1_1) (Eq.trans (ap_seq f35_h1_1_0) (ap_cons _ (Eq.trans (ap_block f35_h1_1_0_1) (Eq.trans (ap_j (Eq.trans (ap_loop (C := (f35_C_l0 k)) f35_h1_1_0_1_0 (fun _ _ => rfl)) (ap_cons _ (ap_cons _ (ap_cons _ rfl))))) (ap_cons _ (ap_cons _ rfl)))))))))))
def f35 (k : Nat) (a0 : (List Int)) (a1 : (List Int)) : Option (Bool × Unit) := f35_entry_B k (f35_l0 k k) a0 a1
theorem f35_eq (k : Nat) (xs : DL f35_sig) : den T f35_Y (f35_E k) f35_A k f35_c 0 (σ0 26 78 f35_sig xs) (Kfin T f35_rs f35_ts) = f35 k xs.1 xs.2.1 := by
  refine Eq.trans den_ap (Eq.trans (ap_at (f35_f_entry k) _) ((f35_entry_P k (f35_C_l0 k k) xs).trans ?_))
  have e_l0 : (fun x0 x1 x12 x13 => (f35_C_l0 k k) (f35_s_l0 x0 x1 x12 x13)) = (f35_l0 k k) := funext fun x0 => funext fun x1 => funext fun x12 => funext fun x13 => f35_l0_E k  k x0 x1 x12 x13
  rw [e_l0]
  rfl
noncomputable def f35_con (k : Nat) : Con := ⟨f35_sig, f35_rs, fun xs => f35 k xs.1 xs.2.1⟩
theorem f35_ok (k : Nat) : PureOK Try.prog 35 f35_sig f35_rs (fun xs => f35 k xs.1 xs.2.1) :=
  (pure_of_den (k := k) (A := f35_A) (T := T) (Y := f35_Y) (E := f35_E k) (M := 78) (ts := f35_ts) T_ok trivial trivial mixed (f := 35) (fn := Try.f35) (c := f35_c) (by kernel_rfl) (by kernel_rfl) (by kernel_rfl) (by decide) (by kernel_rfl)).congr fun xs => (f35_eq k xs).symm
theorem f35_ent : Ent Try.prog 35 := fun args w => by kernel_rfl
/-! ### terrier/net.Out: function 36 -/
noncomputable def f36_c : Code := Try.f36.body.getD .skip
abbrev f36_sig : List PT := [(true, (.pair (.sl false (.pair (.int .i64) (.int .i64))) (.pair (.sl false (.pair (.int .i64) (.pair (.int .i64) (.pair (.int .i64) (.int .i64))))) (.sl false (.pair (.int .i64) (.int .i64)))))), (false, (.int .i64))]
abbrev f36_rs : List RT := [.new (.int .i64)]
abbrev f36_ts : List RV := [.tmp 4]
abbrev f36_S := St → Option (RDL f36_rs)
def f36_Y : Tys := [(3, (.int .i64))]
noncomputable def f36_E (k : Nat) : Env := []
def f36_A : Ann := { loops := [(0, { mat := [(5, 23, (.int .i64))], slots := [(1, .id), (5, .id), (9, .val false (.pair (.int .i64) (.pair (.int .i64) (.pair (.int .i64) (.int .i64))))), (10, .id), (11, .id)], keys := [(23, [])] })], conds := [(6, { mat := [(5, 23, (.int .i64))], slots := [(1, .id), (5, .id), (9, .val false (.pair (.int .i64) (.pair (.int .i64) (.pair (.int .i64) (.int .i64))))), (10, .id), (11, .id)], keys := [(23, [])] })] }
noncomputable abbrev f36_a (k : Nat) (F : List (Fr (RDL f36_rs))) : Kont (RDL f36_rs) := ap T f36_Y (f36_E k) f36_A k (Kfin T f36_rs f36_ts) F
def f36_s_l0 (y23 : (List Int)) (x1 : Int) (x10 : Int) (x11 : Int) (x9 : (List (Int × (Int × (Int × Int))))) : St := mkS 26 78 [(1, .cp (.one (.int .i64 x1))), (5, .cp (.one (.own 23))), (9, .cp (.one (.val false (.pair (.int .i64) (.pair (.int .i64) (.pair (.int .i64) (.int .i64)))) x9))), (10, .cp (.one (.int .i64 x10))), (11, .cp (.one (.int .i64 x11)))] [(23, .vec (.int .i64) y23)]
noncomputable def f36_Q_l0 (k : Nat) (R_l0 : f36_S) : List (Fr (RDL f36_rs)) := [.c (sub f36_c [1, 1, 0, 1, 0, 0]) 0, .j (fun σ => R_l0 (cut f36_A.loops 0 σ)), .blk 0, .c (sub f36_c [1, 1, 1]) 0]
noncomputable def f36_C_l0 (k : Nat) (n : Nat) (σ : St) : Option (RDL f36_rs) := loopK (fun σ K => den T f36_Y (f36_E k) f36_A k (sub f36_c [1, 1, 0, 1, 0, 0]) 0 σ K) (cut f36_A.loops 0) (f36_a k [.blk 0, .c (sub f36_c [1, 1, 1]) 0]) n σ
def f36_s_c6 (y23 : (List Int)) (x1 : Int) (x10 : Int) (x11 : Int) (x9 : (List (Int × (Int × (Int × Int))))) : St := mkS 26 78 [(1, .cp (.one (.int .i64 x1))), (5, .cp (.one (.own 23))), (9, .cp (.one (.val false (.pair (.int .i64) (.pair (.int .i64) (.pair (.int .i64) (.int .i64)))) x9))), (10, .cp (.one (.int .i64 x10))), (11, .cp (.one (.int .i64 x11)))] [(23, .vec (.int .i64) y23)]
noncomputable def f36_Q_c6 (k : Nat) (R_l0 : f36_S) : List (Fr (RDL f36_rs)) := [.blk 1, .c (sub f36_c [1, 1, 0, 1, 0, 0, 1, 1, 1]) 0, .j (fun σ => R_l0 (cut f36_A.loops 0 σ)), .blk 0, .c (sub f36_c [1, 1, 1]) 0]
noncomputable def f36_C_c6 (k : Nat) (R_l0 : f36_S) : f36_S := fun σ => f36_a k (f36_Q_c6 k R_l0) .nx σ
theorem f36_h1_1_0_1_0_0_1_1_0_0_1 : (sub f36_c [1, 1, 0, 1, 0, 0, 1, 1, 0, 0, 1]) = .seq (sub f36_c [1, 1, 0, 1, 0, 0, 1, 1, 0, 0, 1, 0]) (sub f36_c [1, 1, 0, 1, 0, 0, 1, 1, 0, 0, 1, 1]) := by kernel_rfl
theorem f36_h1_1_0_1_0_0_1_1_0_0 : (sub f36_c [1, 1, 0, 1, 0, 0, 1, 1, 0, 0]) = .seq (sub f36_c [1, 1, 0, 1, 0, 0, 1, 1, 0, 0, 0]) (sub f36_c [1, 1, 0, 1, 0, 0, 1, 1, 0, 0, 1]) := by kernel_rfl
theorem f36_h1_1_0_1_0_0_1_1_0 : (sub f36_c [1, 1, 0, 1, 0, 0, 1, 1, 0]) = .block 1 (sub f36_c [1, 1, 0, 1, 0, 0, 1, 1, 0, 0]) := by kernel_rfl
theorem f36_h1_1_0_1_0_0_1_1 : (sub f36_c [1, 1, 0, 1, 0, 0, 1, 1]) = .seq (sub f36_c [1, 1, 0, 1, 0, 0, 1, 1, 0]) (sub f36_c [1, 1, 0, 1, 0, 0, 1, 1, 1]) := by kernel_rfl
theorem f36_h1_1_0_1_0_0_1 : (sub f36_c [1, 1, 0, 1, 0, 0, 1]) = .seq (sub f36_c [1, 1, 0, 1, 0, 0, 1, 0]) (sub f36_c [1, 1, 0, 1, 0, 0, 1, 1]) := by kernel_rfl
theorem f36_h1_1_0_1_0_0 : (sub f36_c [1, 1, 0, 1, 0, 0]) = .seq (sub f36_c [1, 1, 0, 1, 0, 0, 0]) (sub f36_c [1, 1, 0, 1, 0, 0, 1]) := by kernel_rfl
theorem f36_h1_1_0_1_0 : (sub f36_c [1, 1, 0, 1, 0]) = .loop (sub f36_c [1, 1, 0, 1, 0, 0]) := by kernel_rfl
theorem f36_h1_1_0_1 : (sub f36_c [1, 1, 0, 1]) = .block 0 (sub f36_c [1, 1, 0, 1, 0]) := by kernel_rfl
theorem f36_h1_1_0 : (sub f36_c [1, 1, 0]) = .seq (sub f36_c [1, 1, 0, 0]) (sub f36_c [1, 1, 0, 1]) := by kernel_rfl
theorem f36_h1_1 : (sub f36_c [1, 1]) = .seq (sub f36_c [1, 1, 0]) (sub f36_c [1, 1, 1]) := by kernel_rfl
theorem f36_h1 : (sub f36_c [1]) = .seq (sub f36_c [1, 0]) (sub f36_c [1, 1]) := by kernel_rfl
theorem f36_h : f36_c = .seq (sub f36_c [0]) (sub f36_c [1]) := by kernel_rfl
noncomputable def f36_F_c6 (k : Nat) (G_l0 : f36_S) : List (Fr (RDL f36_rs)) := .blk 1 :: .c (sub f36_c [1, 1, 0, 1, 0, 0, 1, 1, 1]) 0 :: .j (fun σ => G_l0 (cut f36_A.loops 0 σ)) :: .blk 0 :: .c (sub f36_c [1, 1, 1]) 0 :: []
theorem f36_f_c6 (k : Nat) (R_l0 : f36_S) : f36_a k (f36_Q_c6 k R_l0) = f36_a k (f36_F_c6 k R_l0) := (ap_cons _ (ap_cons _ (ap_cons _ (ap_cons _ (ap_cons _ rfl)))))
noncomputable def f36_F_l0 (k : Nat) (G_l0 : f36_S) (G_c6 : f36_S) : List (Fr (RDL f36_rs)) := .c (sub f36_c [1, 1, 0, 1, 0, 0, 0]) 0 :: .c (sub f36_c [1, 1, 0, 1, 0, 0, 1, 0]) 0 :: .j (fun σ => f36_a k (.c (sub f36_c [1, 1, 0, 1, 0, 0, 1, 1, 0, 0, 0]) 1 :: .c (sub f36_c [1, 1, 0, 1, 0, 0, 1, 1, 0, 0, 1, 0]) 1 :: .c (sub f36_c [1, 1, 0, 1, 0, 0, 1, 1, 0, 0, 1, 1]) 1 :: .j G_c6 :: f36_F_c6 k G_l0) .nx σ) :: .c (sub f36_c [1, 1, 0, 1, 0, 0, 1, 1, 1]) 0 :: .j (fun σ => G_l0 (cut f36_A.loops 0 σ)) :: .blk 0 :: .c (sub f36_c [1, 1, 1]) 0 :: []
theorem f36_f_l0 (k : Nat) (R_l0 : f36_S) : f36_a k (f36_Q_l0 k R_l0) = f36_a k (f36_F_l0 k R_l0 (f36_C_c6 k R_l0)) := (Eq.trans (ap_seq f36_h1_1_0_1_0_0) (ap_cons _ (Eq.trans (ap_seq f36_h1_1_0_1_0_0_1) (ap_cons _ (Eq.trans (ap_seq f36_h1_1_0_1_0_0_1_1) (Eq.trans (ap_block f36_h1_1_0_1_0_0_1_1_0) (Eq.trans (ap_j (Eq.trans (ap_seq f36_h1_1_0_1_0_0_1_1_0_0) (ap_cons _ (Eq.trans (ap_seq f36_h1_1_0_1_0_0_1_1_0_0_1) (ap_cons _ (ap_cons _ (Eq.trans (ap_pass (C := (f36_C_c6 k R_l0)) (fun _ => rfl)) (ap_cons _ (f36_f_c6 k R_l0))))))))) (ap_cons _ (ap_cons _ (ap_cons _ (ap_cons _ (ap_cons _ rfl))))))))))))
def f36_entry_B (k : Nat) (g_l0 : (List Int) → Int → Int → Int → (List (Int × (Int × (Int × Int)))) → Option ((List Int) × Unit)) (a0 : ((List (Int × Int)) × ((List (Int × (Int × (Int × Int)))) × (List (Int × Int))))) (a1 : Int) : Option ((List Int) × Unit) := (g_l0 ([] : List Int) a1 (a0.2.1.length : Int) 0 a0.2.1)
def f36_l0_B (k : Nat) (g_c6 : (List Int) → Int → Int → Int → (List (Int × (Int × (Int × Int)))) → Option ((List Int) × Unit)) (y23 : (List Int)) (x1 : Int) (x10 : Int) (x11 : Int) (x9 : (List (Int × (Int × (Int × Int))))) : Option ((List Int) × Unit) := (if x11 < x10 then (if 0 ≤ x11 then (if x11 < (x9.length : Int) then (if ((x9.getD (x11).toNat (0, (0, (0, 0)))).1) = x1 then (if (y23.length + 1) * 8 ≤ 140737488355328 then (g_c6 (y23 ++ [x11]) x1 x10 x11 x9) else none) else (g_c6 y23 x1 x10 x11 x9)) else none) else none) else some (y23, ()))
def f36_c6_B (k : Nat) (g_l0 : (List Int) → Int → Int → Int → (List (Int × (Int × (Int × Int)))) → Option ((List Int) × Unit)) (y23 : (List Int)) (x1 : Int) (x10 : Int) (x11 : Int) (x9 : (List (Int × (Int × (Int × Int))))) : Option ((List Int) × Unit) := (g_l0 y23 x1 x10 (w64 (x11 + 1)) x9)
theorem f36_c6_P (k : Nat) (G_l0 : f36_S) (y23 : (List Int)) (x1 : Int) (x10 : Int) (x11 : Int) (x9 : (List (Int × (Int × (Int × Int))))) : f36_a k (f36_F_c6 k G_l0) .nx (f36_s_c6 y23 x1 x10 x11 x9) = f36_c6_B k (fun y23 x1 x10 x11 x9 => G_l0 (f36_s_l0 y23 x1 x10 x11 x9)) y23 x1 x10 x11 x9 := by kernel_rfl
def f36_c6 (k : Nat) (r_l0 : (List Int) → Int → Int → Int → (List (Int × (Int × (Int × Int)))) → Option ((List Int) × Unit)) (y23 : (List Int)) (x1 : Int) (x10 : Int) (x11 : Int) (x9 : (List (Int × (Int × (Int × Int))))) : Option ((List Int) × Unit) := f36_c6_B k r_l0 y23 x1 x10 x11 x9
theorem f36_c6_E (k : Nat) (R_l0 : f36_S) (r_l0 : (List Int) → Int → Int → Int → (List (Int × (Int × (Int × Int)))) → Option ((List Int) × Unit)) (h_l0 : ∀ (y23 : (List Int)) (x1 : Int) (x10 : Int) (x11 : Int) (x9 : (List (Int × (Int × (Int × Int))))), R_l0 (f36_s_l0 y23 x1 x10 x11 x9) = r_l0 y23 x1 x10 x11 x9) (y23 : (List Int)) (x1 : Int) (x10 : Int) (x11 : Int) (x9 : (List (Int × (Int × (Int × Int))))) : f36_C_c6 k R_l0 (f36_s_c6 y23 x1 x10 x11 x9) = f36_c6 k r_l0 y23 x1 x10 x11 x9 := by
  refine Eq.trans (ap_at (f36_f_c6 k R_l0) _) ((f36_c6_P k R_l0 y23 x1 x10 x11 x9).trans ?_)
  have e_l0 : (fun y23 x1 x10 x11 x9 => R_l0 (f36_s_l0 y23 x1 x10 x11 x9)) = r_l0 := funext fun y23 => funext fun x1 => funext fun x10 => funext fun x11 => funext fun x9 => h_l0 y23 x1 x10 x11 x9
  rw [e_l0]
  rfl
theorem f36_l0_P (k : Nat) (G_l0 : f36_S) (G_c6 : f36_S) (y23 : (List Int)) (x1 : Int) (x10 : Int) (x11 : Int) (x9 : (List (Int × (Int × (Int × Int))))) : f36_a k (f36_F_l0 k G_l0 G_c6) .nx (f36_s_l0 y23 x1 x10 x11 x9) = f36_l0_B k (fun y23 x1 x10 x11 x9 => G_c6 (f36_s_c6 y23 x1 x10 x11 x9)) y23 x1 x10 x11 x9 := by kernel_rfl
def f36_l0 (k : Nat) : Nat → (List Int) → Int → Int → Int → (List (Int × (Int × (Int × Int)))) → Option ((List Int) × Unit)
  | 0, _, _, _, _, _ => none
  | n + 1, y23, x1, x10, x11, x9 => f36_l0_B k (f36_c6 k (fun y23 x1 x10 x11 x9 => f36_l0 k n y23 x1 x10 x11 x9)) y23 x1 x10 x11 x9
theorem f36_l0_E (k : Nat) : ∀ (n : Nat) (y23 : (List Int)) (x1 : Int) (x10 : Int) (x11 : Int) (x9 : (List (Int × (Int × (Int × Int))))), f36_C_l0 k n (f36_s_l0 y23 x1 x10 x11 x9) = f36_l0 k n y23 x1 x10 x11 x9
  | 0, _, _, _, _, _ => rfl
  | n + 1, y23, x1, x10, x11, x9 => by
    refine Eq.trans (show _ = f36_a k (f36_Q_l0 k (f36_C_l0 k n)) .nx (f36_s_l0 y23 x1 x10 x11 x9) by kernel_rfl) (Eq.trans (ap_at (f36_f_l0 k (f36_C_l0 k n)) _) ((f36_l0_P k (f36_C_l0 k n) (f36_C_c6 k (f36_C_l0 k n)) y23 x1 x10 x11 x9).trans ?_))
    have e_c6 : (fun y23 x1 x10 x11 x9 => (f36_C_c6 k (f36_C_l0 k n)) (f36_s_c6 y23 x1 x10 x11 x9)) = (f36_c6 k (fun y23 x1 x10 x11 x9 => f36_l0 k n y23 x1 x10 x11 x9)) := funext fun y23 => funext fun x1 => funext fun x10 => funext fun x11 => funext fun x9 => f36_c6_E k (f36_C_l0 k n) (fun y23 x1 x10 x11 x9 => f36_l0 k n y23 x1 x10 x11 x9) (fun y23 x1 x10 x11 x9 => f36_l0_E k n y23 x1 x10 x11 x9)  y23 x1 x10 x11 x9
    rw [e_c6]
    rfl
theorem f36_entry_P (k : Nat) (G_l0 : f36_S) (xs : DL f36_sig) : f36_a k (.c (sub f36_c [0]) 0 :: .c (sub f36_c [1, 0]) 0 :: .c (sub f36_c [1, 1, 0, 0]) 0 :: .j (fun σ => f36_a k (.j (fun σ => G_l0 (cut f36_A.loops 0 σ)) :: .blk 0 :: .c (sub f36_c [1, 1, 1]) 0 :: []) .nx σ) :: .c (sub f36_c [1, 1, 1]) 0 :: []) .nx (σ0 26 78 f36_sig xs) = f36_entry_B k (fun y23 x1 x10 x11 x9 => G_l0 (f36_s_l0 y23 x1 x10 x11 x9)) xs.1 xs.2.1 := by kernel_rfl
theorem f36_f_entry (k : Nat) : f36_a k [.c f36_c 0] = f36_a k (.c (sub f36_c [0]) 0 :: .c (sub f36_c [1, 0]) 0 :: .c (sub f36_c [1, 1, 0, 0]) 0 :: .j (fun σ => f36_a k (.j (fun σ => (f36_C_l0 k k) (cut f36_A.loops 0 σ)) :: .blk 0 :: .c (sub f36_c [1, 1, 1]) 0 :: []) .nx σ) :: .c (sub f36_c [1, 1, 1]) 0 :: []) := (Eq.trans (ap_seq f36_h) (ap_cons _ (Eq.trans (ap_seq f36_h1) (ap_cons _ (Eq.trans (ap_seq f36_h1_1) (Eq.trans (ap_seq f36_h1_1_0) (ap_cons _ (Eq.trans (ap_block f36_h1_1_0_1) (Eq.trans (ap_j (Eq.trans (ap_loop (C := (f36_C_l0 k)) f36_h1_1_0_1_0 (fun _ _ => rfl)) (ap_cons _ (ap_cons _ (ap_cons _ rfl))))) (ap_cons _ (ap_cons _ rfl)))))))))))
def f36 (k : Nat) (a0 : ((List (Int × Int)) × ((List (Int × (Int × (Int × Int)))) × (List (Int × Int))))) (a1 : Int) : Option ((List Int) × Unit) := f36_entry_B k (f36_l0 k k) a0 a1
theorem f36_eq (k : Nat) (xs : DL f36_sig) : den T f36_Y (f36_E k) f36_A k f36_c 0 (σ0 26 78 f36_sig xs) (Kfin T f36_rs f36_ts) = f36 k xs.1 xs.2.1 := by
  refine Eq.trans den_ap (Eq.trans (ap_at (f36_f_entry k) _) ((f36_entry_P k (f36_C_l0 k k) xs).trans ?_))
  have e_l0 : (fun y23 x1 x10 x11 x9 => (f36_C_l0 k k) (f36_s_l0 y23 x1 x10 x11 x9)) = (f36_l0 k k) := funext fun y23 => funext fun x1 => funext fun x10 => funext fun x11 => funext fun x9 => f36_l0_E k  k y23 x1 x10 x11 x9
  rw [e_l0]
  rfl
noncomputable def f36_con (k : Nat) : Con := ⟨f36_sig, f36_rs, fun xs => f36 k xs.1 xs.2.1⟩
theorem f36_ok (k : Nat) : PureOK Try.prog 36 f36_sig f36_rs (fun xs => f36 k xs.1 xs.2.1) :=
  (pure_of_den (k := k) (A := f36_A) (T := T) (Y := f36_Y) (E := f36_E k) (M := 78) (ts := f36_ts) T_ok trivial trivial mixed (f := 36) (fn := Try.f36) (c := f36_c) (by kernel_rfl) (by kernel_rfl) (by kernel_rfl) (by decide) (by kernel_rfl)).congr fun xs => (f36_eq k xs).symm
theorem f36_ent : Ent Try.prog 36 := fun args w => by kernel_rfl
/-! ### terrier/point.Ok: function 66 -/
noncomputable def f66_c : Code := Try.f66.body.getD .skip
abbrev f66_sig : List PT := [(true, (.pair (.int .i64) (.int .i64)))]
abbrev f66_rs : List RT := [.d false .bool]
abbrev f66_ts : List RV := [.tmp 2]
abbrev f66_S := St → Option (RDL f66_rs)
def f66_Y : Tys := []
noncomputable def f66_E (k : Nat) : Env := [(63, .c (f63_con k))]
def f66_A : Ann := {}
noncomputable abbrev f66_a (k : Nat) (F : List (Fr (RDL f66_rs))) : Kont (RDL f66_rs) := ap T f66_Y (f66_E k) f66_A k (Kfin T f66_rs f66_ts) F
def f66_entry_B (k : Nat) (a0 : (Int × Int)) : Option (Bool × Unit) := ((f63 k (a0.1, a0.2)).bind fun r1 => some (decide ((a0.1 = r1.1.1) ∧ (a0.2 = r1.1.2)), ()))
theorem f66_entry_P (k : Nat) (xs : DL f66_sig) : f66_a k (.c f66_c 0 :: []) .nx (σ0 7 22 f66_sig xs) = f66_entry_B k  xs.1 := by kernel_rfl
theorem f66_f_entry (k : Nat) : f66_a k [.c f66_c 0] = f66_a k (.c f66_c 0 :: []) := (ap_cons _ rfl)
def f66 (k : Nat) (a0 : (Int × Int)) : Option (Bool × Unit) := f66_entry_B k  a0
theorem f66_eq (k : Nat) (xs : DL f66_sig) : den T f66_Y (f66_E k) f66_A k f66_c 0 (σ0 7 22 f66_sig xs) (Kfin T f66_rs f66_ts) = f66 k xs.1 := by
  refine Eq.trans den_ap (Eq.trans (ap_at (f66_f_entry k) _) ((f66_entry_P k  xs).trans ?_))
  rfl
noncomputable def f66_con (k : Nat) : Con := ⟨f66_sig, f66_rs, fun xs => f66 k xs.1⟩
theorem f66_ok (k : Nat) : PureOK Try.prog 66 f66_sig f66_rs (fun xs => f66 k xs.1) :=
  (pure_of_den (k := k) (A := f66_A) (T := T) (Y := f66_Y) (E := f66_E k) (M := 22) (ts := f66_ts) T_ok ⟨f63_ok k, trivial⟩ ⟨f63_ent, trivial⟩ mixed (f := 66) (fn := Try.f66) (c := f66_c) (by kernel_rfl) (by kernel_rfl) (by kernel_rfl) (by decide) (by kernel_rfl)).congr fun xs => (f66_eq k xs).symm
theorem f66_ent : Ent Try.prog 66 := fun args w => by kernel_rfl
/-! ### slices.Index[[]terrier/api.Point,terrier/api.Point]: function 88 -/
noncomputable def f88_c : Code := Try.f88.body.getD .skip
abbrev f88_sig : List PT := [(false, (.sl false (.pair (.int .i64) (.int .i64)))), (true, (.pair (.int .i64) (.int .i64)))]
abbrev f88_rs : List RT := [.d false (.int .i64)]
abbrev f88_ts : List RV := [.tmp 4]
abbrev f88_S := St → Option (RDL f88_rs)
def f88_Y : Tys := []
noncomputable def f88_E (k : Nat) : Env := []
def f88_A : Ann := { loops := [(0, { slots := [(0, .val false (.pair (.int .i64) (.int .i64))), (3, .id), (7, .id), (8, .id)], keys := [(3, [])] })] }
noncomputable abbrev f88_a (k : Nat) (F : List (Fr (RDL f88_rs))) : Kont (RDL f88_rs) := ap T f88_Y (f88_E k) f88_A k (Kfin T f88_rs f88_ts) F
def f88_s_l0 (y3_0 : Int) (y3_1 : Int) (x0 : (List (Int × Int))) (x7 : Int) (x8 : Int) : St := mkS 19 58 [(0, .cp (.one (.val false (.pair (.int .i64) (.int .i64)) x0))), (3, .cp (.one (.ptr 3 0))), (7, .cp (.one (.int .i64 x7))), (8, .cp (.one (.int .i64 x8)))] [(3, .box [.int .i64 y3_0, .int .i64 y3_1])]
noncomputable def f88_Q_l0 (k : Nat) (R_l0 : f88_S) : List (Fr (RDL f88_rs)) := [.c (sub f88_c [1, 0, 1, 0, 0]) 0, .j (fun σ => R_l0 (cut f88_A.loops 0 σ)), .blk 0, .c (sub f88_c [1, 1]) 0]
noncomputable def f88_C_l0 (k : Nat) (n : Nat) (σ : St) : Option (RDL f88_rs) := loopK (fun σ K => den T f88_Y (f88_E k) f88_A k (sub f88_c [1, 0, 1, 0, 0]) 0 σ K) (cut f88_A.loops 0) (f88_a k [.blk 0, .c (sub f88_c [1, 1]) 0]) n σ
theorem f88_h1_0_1_0 : (sub f88_c [1, 0, 1, 0]) = .loop (sub f88_c [1, 0, 1, 0, 0]) := by kernel_rfl
theorem f88_h1_0_1 : (sub f88_c [1, 0, 1]) = .block 0 (sub f88_c [1, 0, 1, 0]) := by kernel_rfl
theorem f88_h1_0 : (sub f88_c [1, 0]) = .seq (sub f88_c [1, 0, 0]) (sub f88_c [1, 0, 1]) := by kernel_rfl
theorem f88_h1 : (sub f88_c [1]) = .seq (sub f88_c [1, 0]) (sub f88_c [1, 1]) := by kernel_rfl
theorem f88_h : f88_c = .seq (sub f88_c [0]) (sub f88_c [1]) := by kernel_rfl
noncomputable def f88_F_l0 (k : Nat) (G_l0 : f88_S) : List (Fr (RDL f88_rs)) := .c (sub f88_c [1, 0, 1, 0, 0]) 0 :: .j (fun σ => G_l0 (cut f88_A.loops 0 σ)) :: .blk 0 :: .c (sub f88_c [1, 1]) 0 :: []
theorem f88_f_l0 (k : Nat) (R_l0 : f88_S) : f88_a k (f88_Q_l0 k R_l0) = f88_a k (f88_F_l0 k R_l0) := (ap_cons _ (ap_cons _ (ap_cons _ (ap_cons _ rfl))))
def f88_entry_B (k : Nat) (g_l0 : Int → Int → (List (Int × Int)) → Int → Int → Option (Int × Unit)) (a0 : (List (Int × Int))) (a1 : (Int × Int)) : Option (Int × Unit) := (g_l0 a1.1 a1.2 a0 (a0.length : Int) 0)
def f88_l0_B (k : Nat) (g_l0 : Int → Int → (List (Int × Int)) → Int → Int → Option (Int × Unit)) (y3_0 : Int) (y3_1 : Int) (x0 : (List (Int × Int))) (x7 : Int) (x8 : Int) : Option (Int × Unit) := (if x8 < x7 then (if 0 ≤ x8 then (if x8 < (x0.length : Int) then (if (y3_0 = ((x0.getD (x8).toNat (0, 0)).1)) ∧ (y3_1 = ((x0.getD (x8).toNat (0, 0)).2)) then some (x8, ()) else (g_l0 y3_0 y3_1 x0 x7 (w64 (x8 + 1)))) else none) else none) else some ((-1), ()))
theorem f88_l0_P (k : Nat) (G_l0 : f88_S) (y3_0 : Int) (y3_1 : Int) (x0 : (List (Int × Int))) (x7 : Int) (x8 : Int) : f88_a k (f88_F_l0 k G_l0) .nx (f88_s_l0 y3_0 y3_1 x0 x7 x8) = f88_l0_B k (fun y3_0 y3_1 x0 x7 x8 => G_l0 (f88_s_l0 y3_0 y3_1 x0 x7 x8)) y3_0 y3_1 x0 x7 x8 := by kernel_rfl
def f88_l0 (k : Nat) : Nat → Int → Int → (List (Int × Int)) → Int → Int → Option (Int × Unit)
  | 0, _, _, _, _, _ => none
  | n + 1, y3_0, y3_1, x0, x7, x8 => f88_l0_B k (fun y3_0 y3_1 x0 x7 x8 => f88_l0 k n y3_0 y3_1 x0 x7 x8) y3_0 y3_1 x0 x7 x8
theorem f88_l0_E (k : Nat) : ∀ (n : Nat) (y3_0 : Int) (y3_1 : Int) (x0 : (List (Int × Int))) (x7 : Int) (x8 : Int), f88_C_l0 k n (f88_s_l0 y3_0 y3_1 x0 x7 x8) = f88_l0 k n y3_0 y3_1 x0 x7 x8
  | 0, _, _, _, _, _ => rfl
  | n + 1, y3_0, y3_1, x0, x7, x8 => by
    refine Eq.trans (show _ = f88_a k (f88_Q_l0 k (f88_C_l0 k n)) .nx (f88_s_l0 y3_0 y3_1 x0 x7 x8) by kernel_rfl) (Eq.trans (ap_at (f88_f_l0 k (f88_C_l0 k n)) _) ((f88_l0_P k (f88_C_l0 k n) y3_0 y3_1 x0 x7 x8).trans ?_))
    have e_l0 : (fun y3_0 y3_1 x0 x7 x8 => (f88_C_l0 k n) (f88_s_l0 y3_0 y3_1 x0 x7 x8)) = (fun y3_0 y3_1 x0 x7 x8 => f88_l0 k n y3_0 y3_1 x0 x7 x8) := funext fun y3_0 => funext fun y3_1 => funext fun x0 => funext fun x7 => funext fun x8 => f88_l0_E k n y3_0 y3_1 x0 x7 x8
    rw [e_l0]
    rfl
theorem f88_entry_P (k : Nat) (G_l0 : f88_S) (xs : DL f88_sig) : f88_a k (.c (sub f88_c [0]) 0 :: .c (sub f88_c [1, 0, 0]) 0 :: .j (fun σ => f88_a k (.j (fun σ => G_l0 (cut f88_A.loops 0 σ)) :: .blk 0 :: .c (sub f88_c [1, 1]) 0 :: []) .nx σ) :: .c (sub f88_c [1, 1]) 0 :: []) .nx (σ0 19 58 f88_sig xs) = f88_entry_B k (fun y3_0 y3_1 x0 x7 x8 => G_l0 (f88_s_l0 y3_0 y3_1 x0 x7 x8)) xs.1 xs.2.1 := by kernel_rfl
theorem f88_f_entry (k : Nat) : f88_a k [.c f88_c 0] = f88_a k (.c (sub f88_c [0]) 0 :: .c (sub f88_c [1, 0, 0]) 0 :: .j (fun σ => f88_a k (.j (fun σ => (f88_C_l0 k k) (cut f88_A.loops 0 σ)) :: .blk 0 :: .c (sub f88_c [1, 1]) 0 :: []) .nx σ) :: .c (sub f88_c [1, 1]) 0 :: []) := (Eq.trans (ap_seq f88_h) (ap_cons _ (Eq.trans (ap_seq f88_h1) (Eq.trans (ap_seq f88_h1_0) (ap_cons _ (Eq.trans (ap_block f88_h1_0_1) (Eq.trans (ap_j (Eq.trans (ap_loop (C := (f88_C_l0 k)) f88_h1_0_1_0 (fun _ _ => rfl)) (ap_cons _ (ap_cons _ (ap_cons _ rfl))))) (ap_cons _ (ap_cons _ rfl)))))))))
def f88 (k : Nat) (a0 : (List (Int × Int))) (a1 : (Int × Int)) : Option (Int × Unit) := f88_entry_B k (f88_l0 k k) a0 a1
theorem f88_eq (k : Nat) (xs : DL f88_sig) : den T f88_Y (f88_E k) f88_A k f88_c 0 (σ0 19 58 f88_sig xs) (Kfin T f88_rs f88_ts) = f88 k xs.1 xs.2.1 := by
  refine Eq.trans den_ap (Eq.trans (ap_at (f88_f_entry k) _) ((f88_entry_P k (f88_C_l0 k k) xs).trans ?_))
  have e_l0 : (fun y3_0 y3_1 x0 x7 x8 => (f88_C_l0 k k) (f88_s_l0 y3_0 y3_1 x0 x7 x8)) = (f88_l0 k k) := funext fun y3_0 => funext fun y3_1 => funext fun x0 => funext fun x7 => funext fun x8 => f88_l0_E k  k y3_0 y3_1 x0 x7 x8
  rw [e_l0]
  rfl
noncomputable def f88_con (k : Nat) : Con := ⟨f88_sig, f88_rs, fun xs => f88 k xs.1 xs.2.1⟩
theorem f88_ok (k : Nat) : PureOK Try.prog 88 f88_sig f88_rs (fun xs => f88 k xs.1 xs.2.1) :=
  (pure_of_den (k := k) (A := f88_A) (T := T) (Y := f88_Y) (E := f88_E k) (M := 58) (ts := f88_ts) T_ok trivial trivial mixed (f := 88) (fn := Try.f88) (c := f88_c) (by kernel_rfl) (by kernel_rfl) (by kernel_rfl) (by decide) (by kernel_rfl)).congr fun xs => (f88_eq k xs).symm
theorem f88_ent : Ent Try.prog 88 := fun args w => by kernel_rfl
/-! ### slices.Contains[[]terrier/api.Point,terrier/api.Point]: function 67 -/
noncomputable def f67_c : Code := Try.f67.body.getD .skip
abbrev f67_sig : List PT := [(false, (.sl false (.pair (.int .i64) (.int .i64)))), (true, (.pair (.int .i64) (.int .i64)))]
abbrev f67_rs : List RT := [.d false .bool]
abbrev f67_ts : List RV := [.tmp 4]
abbrev f67_S := St → Option (RDL f67_rs)
def f67_Y : Tys := []
noncomputable def f67_E (k : Nat) : Env := [(88, .c (f88_con k))]
def f67_A : Ann := {}
noncomputable abbrev f67_a (k : Nat) (F : List (Fr (RDL f67_rs))) : Kont (RDL f67_rs) := ap T f67_Y (f67_E k) f67_A k (Kfin T f67_rs f67_ts) F
def f67_entry_B (k : Nat) (a0 : (List (Int × Int))) (a1 : (Int × Int)) : Option (Bool × Unit) := ((f88 k a0 (a1.1, a1.2)).bind fun r1 => some (decide (0 ≤ r1.1), ()))
theorem f67_entry_P (k : Nat) (xs : DL f67_sig) : f67_a k (.c f67_c 0 :: []) .nx (σ0 9 28 f67_sig xs) = f67_entry_B k  xs.1 xs.2.1 := by kernel_rfl
theorem f67_f_entry (k : Nat) : f67_a k [.c f67_c 0] = f67_a k (.c f67_c 0 :: []) := (ap_cons _ rfl)
def f67 (k : Nat) (a0 : (List (Int × Int))) (a1 : (Int × Int)) : Option (Bool × Unit) := f67_entry_B k  a0 a1
theorem f67_eq (k : Nat) (xs : DL f67_sig) : den T f67_Y (f67_E k) f67_A k f67_c 0 (σ0 9 28 f67_sig xs) (Kfin T f67_rs f67_ts) = f67 k xs.1 xs.2.1 := by
  refine Eq.trans den_ap (Eq.trans (ap_at (f67_f_entry k) _) ((f67_entry_P k  xs).trans ?_))
  rfl
noncomputable def f67_con (k : Nat) : Con := ⟨f67_sig, f67_rs, fun xs => f67 k xs.1 xs.2.1⟩
theorem f67_ok (k : Nat) : PureOK Try.prog 67 f67_sig f67_rs (fun xs => f67 k xs.1 xs.2.1) :=
  (pure_of_den (k := k) (A := f67_A) (T := T) (Y := f67_Y) (E := f67_E k) (M := 28) (ts := f67_ts) T_ok ⟨f88_ok k, trivial⟩ ⟨f88_ent, trivial⟩ mixed (f := 67) (fn := Try.f67) (c := f67_c) (by kernel_rfl) (by kernel_rfl) (by kernel_rfl) (by decide) (by kernel_rfl)).congr fun xs => (f67_eq k xs).symm
theorem f67_ent : Ent Try.prog 67 := fun args w => by kernel_rfl
/-! ### terrier/net.node: function 68 -/
noncomputable def f68_c : Code := Try.f68.body.getD .skip
abbrev f68_sig : List PT := [(true, (.pair (.sl false (.pair (.int .i64) (.int .i64))) (.pair (.sl false (.pair (.int .i64) (.pair (.int .i64) (.pair (.int .i64) (.int .i64))))) (.sl false (.pair (.int .i64) (.int .i64)))))), (false, (.int .i64))]
abbrev f68_rs : List RT := [.d false .bool]
abbrev f68_ts : List RV := [.tmp 4]
abbrev f68_S := St → Option (RDL f68_rs)
def f68_Y : Tys := []
noncomputable def f68_E (k : Nat) : Env := []
def f68_A : Ann := { regs := [(1, { slots := [(4, .bool)] })] }
noncomputable abbrev f68_a (k : Nat) (F : List (Fr (RDL f68_rs))) : Kont (RDL f68_rs) := ap T f68_Y (f68_E k) f68_A k (Kfin T f68_rs f68_ts) F
def f68_s_r1 (x4 : Bool) : St := mkS 14 42 [(4, .cp (.one (.prop (x4 = true) inferInstance)))] []
noncomputable def f68_Q_r1 (k : Nat) : List (Fr (RDL f68_rs)) := [.c (sub f68_c [1, 1]) 0]
noncomputable def f68_C_r1 (k : Nat) : f68_S := fun σ => f68_a k (f68_Q_r1 k) .nx σ
theorem f68_h1 : (sub f68_c [1]) = .seq (sub f68_c [1, 0]) (sub f68_c [1, 1]) := by kernel_rfl
theorem f68_h : f68_c = .seq (sub f68_c [0]) (sub f68_c [1]) := by kernel_rfl
noncomputable def f68_F_r1 (k : Nat) : List (Fr (RDL f68_rs)) := .c (sub f68_c [1, 1]) 0 :: []
theorem f68_f_r1 (k : Nat) : f68_a k (f68_Q_r1 k) = f68_a k (f68_F_r1 k) := (ap_cons _ rfl)
def f68_entry_B (k : Nat) (g_r1 : Bool → Option (Bool × Unit)) (a0 : ((List (Int × Int)) × ((List (Int × (Int × (Int × Int)))) × (List (Int × Int))))) (a1 : Int) : Option (Bool × Unit) := (if 0 ≤ a1 then (g_r1 (decide (a1 < (a0.1.length : Int)))) else (g_r1 false))
def f68_r1_B (k : Nat) (x4 : Bool) : Option (Bool × Unit) := some (decide (x4 = true), ())
theorem f68_r1_P (k : Nat) (x4 : Bool) : f68_a k (f68_F_r1 k) .nx (f68_s_r1 x4) = f68_r1_B k  x4 := by kernel_rfl
def f68_r1 (k : Nat) (x4 : Bool) : Option (Bool × Unit) := f68_r1_B k  x4
theorem f68_r1_E (k : Nat) (x4 : Bool) : f68_C_r1 k (f68_s_r1 x4) = f68_r1 k x4 := by
  refine Eq.trans (ap_at (f68_f_r1 k) _) ((f68_r1_P k  x4).trans ?_)
  rfl
theorem f68_entry_P (k : Nat) (G_r1 : f68_S) (xs : DL f68_sig) : f68_a k (.c (sub f68_c [0]) 0 :: .c (sub f68_c [1, 0]) 0 :: .j G_r1 :: f68_F_r1 k) .nx (σ0 14 42 f68_sig xs) = f68_entry_B k (fun x4 => G_r1 (f68_s_r1 x4)) xs.1 xs.2.1 := by kernel_rfl
theorem f68_f_entry (k : Nat) : f68_a k [.c f68_c 0] = f68_a k (.c (sub f68_c [0]) 0 :: .c (sub f68_c [1, 0]) 0 :: .j (f68_C_r1 k) :: f68_F_r1 k) := (Eq.trans (ap_seq f68_h) (ap_cons _ (Eq.trans (ap_seq f68_h1) (ap_cons _ (Eq.trans (ap_pass (C := (f68_C_r1 k)) (fun _ => rfl)) (ap_cons _ (f68_f_r1 k)))))))
def f68 (k : Nat) (a0 : ((List (Int × Int)) × ((List (Int × (Int × (Int × Int)))) × (List (Int × Int))))) (a1 : Int) : Option (Bool × Unit) := f68_entry_B k (f68_r1 k) a0 a1
theorem f68_eq (k : Nat) (xs : DL f68_sig) : den T f68_Y (f68_E k) f68_A k f68_c 0 (σ0 14 42 f68_sig xs) (Kfin T f68_rs f68_ts) = f68 k xs.1 xs.2.1 := by
  refine Eq.trans den_ap (Eq.trans (ap_at (f68_f_entry k) _) ((f68_entry_P k (f68_C_r1 k) xs).trans ?_))
  have e_r1 : (fun x4 => (f68_C_r1 k) (f68_s_r1 x4)) = (f68_r1 k) := funext fun x4 => f68_r1_E k   x4
  rw [e_r1]
  rfl
noncomputable def f68_con (k : Nat) : Con := ⟨f68_sig, f68_rs, fun xs => f68 k xs.1 xs.2.1⟩
theorem f68_ok (k : Nat) : PureOK Try.prog 68 f68_sig f68_rs (fun xs => f68 k xs.1 xs.2.1) :=
  (pure_of_den (k := k) (A := f68_A) (T := T) (Y := f68_Y) (E := f68_E k) (M := 42) (ts := f68_ts) T_ok trivial trivial mixed (f := 68) (fn := Try.f68) (c := f68_c) (by kernel_rfl) (by kernel_rfl) (by kernel_rfl) (by decide) (by kernel_rfl)).congr fun xs => (f68_eq k xs).symm
theorem f68_ent : Ent Try.prog 68 := fun args w => by kernel_rfl
/-! ### terrier/net.edge: function 69 -/
noncomputable def f69_c : Code := Try.f69.body.getD .skip
abbrev f69_sig : List PT := [(true, (.pair (.sl false (.pair (.int .i64) (.int .i64))) (.pair (.sl false (.pair (.int .i64) (.pair (.int .i64) (.pair (.int .i64) (.int .i64))))) (.sl false (.pair (.int .i64) (.int .i64)))))), (false, (.int .i64))]
abbrev f69_rs : List RT := [.d false .bool]
abbrev f69_ts : List RV := [.tmp 4]
abbrev f69_S := St → Option (RDL f69_rs)
def f69_Y : Tys := []
noncomputable def f69_E (k : Nat) : Env := []
def f69_A : Ann := { regs := [(1, { slots := [(4, .bool)] })] }
noncomputable abbrev f69_a (k : Nat) (F : List (Fr (RDL f69_rs))) : Kont (RDL f69_rs) := ap T f69_Y (f69_E k) f69_A k (Kfin T f69_rs f69_ts) F
def f69_s_r1 (x4 : Bool) : St := mkS 14 42 [(4, .cp (.one (.prop (x4 = true) inferInstance)))] []
noncomputable def f69_Q_r1 (k : Nat) : List (Fr (RDL f69_rs)) := [.c (sub f69_c [1, 1]) 0]
noncomputable def f69_C_r1 (k : Nat) : f69_S := fun σ => f69_a k (f69_Q_r1 k) .nx σ
theorem f69_h1 : (sub f69_c [1]) = .seq (sub f69_c [1, 0]) (sub f69_c [1, 1]) := by kernel_rfl
theorem f69_h : f69_c = .seq (sub f69_c [0]) (sub f69_c [1]) := by kernel_rfl
noncomputable def f69_F_r1 (k : Nat) : List (Fr (RDL f69_rs)) := .c (sub f69_c [1, 1]) 0 :: []
theorem f69_f_r1 (k : Nat) : f69_a k (f69_Q_r1 k) = f69_a k (f69_F_r1 k) := (ap_cons _ rfl)
def f69_entry_B (k : Nat) (g_r1 : Bool → Option (Bool × Unit)) (a0 : ((List (Int × Int)) × ((List (Int × (Int × (Int × Int)))) × (List (Int × Int))))) (a1 : Int) : Option (Bool × Unit) := (if 0 ≤ a1 then (g_r1 (decide (a1 < (a0.2.1.length : Int)))) else (g_r1 false))
def f69_r1_B (k : Nat) (x4 : Bool) : Option (Bool × Unit) := some (decide (x4 = true), ())
theorem f69_r1_P (k : Nat) (x4 : Bool) : f69_a k (f69_F_r1 k) .nx (f69_s_r1 x4) = f69_r1_B k  x4 := by kernel_rfl
def f69_r1 (k : Nat) (x4 : Bool) : Option (Bool × Unit) := f69_r1_B k  x4
theorem f69_r1_E (k : Nat) (x4 : Bool) : f69_C_r1 k (f69_s_r1 x4) = f69_r1 k x4 := by
  refine Eq.trans (ap_at (f69_f_r1 k) _) ((f69_r1_P k  x4).trans ?_)
  rfl
theorem f69_entry_P (k : Nat) (G_r1 : f69_S) (xs : DL f69_sig) : f69_a k (.c (sub f69_c [0]) 0 :: .c (sub f69_c [1, 0]) 0 :: .j G_r1 :: f69_F_r1 k) .nx (σ0 14 42 f69_sig xs) = f69_entry_B k (fun x4 => G_r1 (f69_s_r1 x4)) xs.1 xs.2.1 := by kernel_rfl
theorem f69_f_entry (k : Nat) : f69_a k [.c f69_c 0] = f69_a k (.c (sub f69_c [0]) 0 :: .c (sub f69_c [1, 0]) 0 :: .j (f69_C_r1 k) :: f69_F_r1 k) := (Eq.trans (ap_seq f69_h) (ap_cons _ (Eq.trans (ap_seq f69_h1) (ap_cons _ (Eq.trans (ap_pass (C := (f69_C_r1 k)) (fun _ => rfl)) (ap_cons _ (f69_f_r1 k)))))))
def f69 (k : Nat) (a0 : ((List (Int × Int)) × ((List (Int × (Int × (Int × Int)))) × (List (Int × Int))))) (a1 : Int) : Option (Bool × Unit) := f69_entry_B k (f69_r1 k) a0 a1
theorem f69_eq (k : Nat) (xs : DL f69_sig) : den T f69_Y (f69_E k) f69_A k f69_c 0 (σ0 14 42 f69_sig xs) (Kfin T f69_rs f69_ts) = f69 k xs.1 xs.2.1 := by
  refine Eq.trans den_ap (Eq.trans (ap_at (f69_f_entry k) _) ((f69_entry_P k (f69_C_r1 k) xs).trans ?_))
  have e_r1 : (fun x4 => (f69_C_r1 k) (f69_s_r1 x4)) = (f69_r1 k) := funext fun x4 => f69_r1_E k   x4
  rw [e_r1]
  rfl
noncomputable def f69_con (k : Nat) : Con := ⟨f69_sig, f69_rs, fun xs => f69 k xs.1 xs.2.1⟩
theorem f69_ok (k : Nat) : PureOK Try.prog 69 f69_sig f69_rs (fun xs => f69 k xs.1 xs.2.1) :=
  (pure_of_den (k := k) (A := f69_A) (T := T) (Y := f69_Y) (E := f69_E k) (M := 42) (ts := f69_ts) T_ok trivial trivial mixed (f := 69) (fn := Try.f69) (c := f69_c) (by kernel_rfl) (by kernel_rfl) (by kernel_rfl) (by decide) (by kernel_rfl)).congr fun xs => (f69_eq k xs).symm
theorem f69_ent : Ent Try.prog 69 := fun args w => by kernel_rfl
/-! ### slices.Index[[]terrier/api.Ban,terrier/api.Ban]: function 89 -/
noncomputable def f89_c : Code := Try.f89.body.getD .skip
abbrev f89_sig : List PT := [(false, (.sl false (.pair (.int .i64) (.int .i64)))), (true, (.pair (.int .i64) (.int .i64)))]
abbrev f89_rs : List RT := [.d false (.int .i64)]
abbrev f89_ts : List RV := [.tmp 4]
abbrev f89_S := St → Option (RDL f89_rs)
def f89_Y : Tys := []
noncomputable def f89_E (k : Nat) : Env := []
def f89_A : Ann := { loops := [(0, { slots := [(0, .val false (.pair (.int .i64) (.int .i64))), (3, .id), (7, .id), (8, .id)], keys := [(3, [])] })] }
noncomputable abbrev f89_a (k : Nat) (F : List (Fr (RDL f89_rs))) : Kont (RDL f89_rs) := ap T f89_Y (f89_E k) f89_A k (Kfin T f89_rs f89_ts) F
def f89_s_l0 (y3_0 : Int) (y3_1 : Int) (x0 : (List (Int × Int))) (x7 : Int) (x8 : Int) : St := mkS 19 58 [(0, .cp (.one (.val false (.pair (.int .i64) (.int .i64)) x0))), (3, .cp (.one (.ptr 3 0))), (7, .cp (.one (.int .i64 x7))), (8, .cp (.one (.int .i64 x8)))] [(3, .box [.int .i64 y3_0, .int .i64 y3_1])]
noncomputable def f89_Q_l0 (k : Nat) (R_l0 : f89_S) : List (Fr (RDL f89_rs)) := [.c (sub f89_c [1, 0, 1, 0, 0]) 0, .j (fun σ => R_l0 (cut f89_A.loops 0 σ)), .blk 0, .c (sub f89_c [1, 1]) 0]
noncomputable def f89_C_l0 (k : Nat) (n : Nat) (σ : St) : Option (RDL f89_rs) := loopK (fun σ K => den T f89_Y (f89_E k) f89_A k (sub f89_c [1, 0, 1, 0, 0]) 0 σ K) (cut f89_A.loops 0) (f89_a k [.blk 0, .c (sub f89_c [1, 1]) 0]) n σ
theorem f89_h1_0_1_0 : (sub f89_c [1, 0, 1, 0]) = .loop (sub f89_c [1, 0, 1, 0, 0]) := by kernel_rfl
theorem f89_h1_0_1 : (sub f89_c [1, 0, 1]) = .block 0 (sub f89_c [1, 0, 1, 0]) := by kernel_rfl
theorem f89_h1_0 : (sub f89_c [1, 0]) = .seq (sub f89_c [1, 0, 0]) (sub f89_c [1, 0, 1]) := by kernel_rfl
theorem f89_h1 : (sub f89_c [1]) = .seq (sub f89_c [1, 0]) (sub f89_c [1, 1]) := by kernel_rfl
theorem f89_h : f89_c = .seq (sub f89_c [0]) (sub f89_c [1]) := by kernel_rfl
noncomputable def f89_F_l0 (k : Nat) (G_l0 : f89_S) : List (Fr (RDL f89_rs)) := .c (sub f89_c [1, 0, 1, 0, 0]) 0 :: .j (fun σ => G_l0 (cut f89_A.loops 0 σ)) :: .blk 0 :: .c (sub f89_c [1, 1]) 0 :: []
theorem f89_f_l0 (k : Nat) (R_l0 : f89_S) : f89_a k (f89_Q_l0 k R_l0) = f89_a k (f89_F_l0 k R_l0) := (ap_cons _ (ap_cons _ (ap_cons _ (ap_cons _ rfl))))
def f89_entry_B (k : Nat) (g_l0 : Int → Int → (List (Int × Int)) → Int → Int → Option (Int × Unit)) (a0 : (List (Int × Int))) (a1 : (Int × Int)) : Option (Int × Unit) := (g_l0 a1.1 a1.2 a0 (a0.length : Int) 0)
def f89_l0_B (k : Nat) (g_l0 : Int → Int → (List (Int × Int)) → Int → Int → Option (Int × Unit)) (y3_0 : Int) (y3_1 : Int) (x0 : (List (Int × Int))) (x7 : Int) (x8 : Int) : Option (Int × Unit) := (if x8 < x7 then (if 0 ≤ x8 then (if x8 < (x0.length : Int) then (if (y3_0 = ((x0.getD (x8).toNat (0, 0)).1)) ∧ (y3_1 = ((x0.getD (x8).toNat (0, 0)).2)) then some (x8, ()) else (g_l0 y3_0 y3_1 x0 x7 (w64 (x8 + 1)))) else none) else none) else some ((-1), ()))
theorem f89_l0_P (k : Nat) (G_l0 : f89_S) (y3_0 : Int) (y3_1 : Int) (x0 : (List (Int × Int))) (x7 : Int) (x8 : Int) : f89_a k (f89_F_l0 k G_l0) .nx (f89_s_l0 y3_0 y3_1 x0 x7 x8) = f89_l0_B k (fun y3_0 y3_1 x0 x7 x8 => G_l0 (f89_s_l0 y3_0 y3_1 x0 x7 x8)) y3_0 y3_1 x0 x7 x8 := by kernel_rfl
def f89_l0 (k : Nat) : Nat → Int → Int → (List (Int × Int)) → Int → Int → Option (Int × Unit)
  | 0, _, _, _, _, _ => none
  | n + 1, y3_0, y3_1, x0, x7, x8 => f89_l0_B k (fun y3_0 y3_1 x0 x7 x8 => f89_l0 k n y3_0 y3_1 x0 x7 x8) y3_0 y3_1 x0 x7 x8
theorem f89_l0_E (k : Nat) : ∀ (n : Nat) (y3_0 : Int) (y3_1 : Int) (x0 : (List (Int × Int))) (x7 : Int) (x8 : Int), f89_C_l0 k n (f89_s_l0 y3_0 y3_1 x0 x7 x8) = f89_l0 k n y3_0 y3_1 x0 x7 x8
  | 0, _, _, _, _, _ => rfl
  | n + 1, y3_0, y3_1, x0, x7, x8 => by
    refine Eq.trans (show _ = f89_a k (f89_Q_l0 k (f89_C_l0 k n)) .nx (f89_s_l0 y3_0 y3_1 x0 x7 x8) by kernel_rfl) (Eq.trans (ap_at (f89_f_l0 k (f89_C_l0 k n)) _) ((f89_l0_P k (f89_C_l0 k n) y3_0 y3_1 x0 x7 x8).trans ?_))
    have e_l0 : (fun y3_0 y3_1 x0 x7 x8 => (f89_C_l0 k n) (f89_s_l0 y3_0 y3_1 x0 x7 x8)) = (fun y3_0 y3_1 x0 x7 x8 => f89_l0 k n y3_0 y3_1 x0 x7 x8) := funext fun y3_0 => funext fun y3_1 => funext fun x0 => funext fun x7 => funext fun x8 => f89_l0_E k n y3_0 y3_1 x0 x7 x8
    rw [e_l0]
    rfl
theorem f89_entry_P (k : Nat) (G_l0 : f89_S) (xs : DL f89_sig) : f89_a k (.c (sub f89_c [0]) 0 :: .c (sub f89_c [1, 0, 0]) 0 :: .j (fun σ => f89_a k (.j (fun σ => G_l0 (cut f89_A.loops 0 σ)) :: .blk 0 :: .c (sub f89_c [1, 1]) 0 :: []) .nx σ) :: .c (sub f89_c [1, 1]) 0 :: []) .nx (σ0 19 58 f89_sig xs) = f89_entry_B k (fun y3_0 y3_1 x0 x7 x8 => G_l0 (f89_s_l0 y3_0 y3_1 x0 x7 x8)) xs.1 xs.2.1 := by kernel_rfl
theorem f89_f_entry (k : Nat) : f89_a k [.c f89_c 0] = f89_a k (.c (sub f89_c [0]) 0 :: .c (sub f89_c [1, 0, 0]) 0 :: .j (fun σ => f89_a k (.j (fun σ => (f89_C_l0 k k) (cut f89_A.loops 0 σ)) :: .blk 0 :: .c (sub f89_c [1, 1]) 0 :: []) .nx σ) :: .c (sub f89_c [1, 1]) 0 :: []) := (Eq.trans (ap_seq f89_h) (ap_cons _ (Eq.trans (ap_seq f89_h1) (Eq.trans (ap_seq f89_h1_0) (ap_cons _ (Eq.trans (ap_block f89_h1_0_1) (Eq.trans (ap_j (Eq.trans (ap_loop (C := (f89_C_l0 k)) f89_h1_0_1_0 (fun _ _ => rfl)) (ap_cons _ (ap_cons _ (ap_cons _ rfl))))) (ap_cons _ (ap_cons _ rfl)))))))))
def f89 (k : Nat) (a0 : (List (Int × Int))) (a1 : (Int × Int)) : Option (Int × Unit) := f89_entry_B k (f89_l0 k k) a0 a1
theorem f89_eq (k : Nat) (xs : DL f89_sig) : den T f89_Y (f89_E k) f89_A k f89_c 0 (σ0 19 58 f89_sig xs) (Kfin T f89_rs f89_ts) = f89 k xs.1 xs.2.1 := by
  refine Eq.trans den_ap (Eq.trans (ap_at (f89_f_entry k) _) ((f89_entry_P k (f89_C_l0 k k) xs).trans ?_))
  have e_l0 : (fun y3_0 y3_1 x0 x7 x8 => (f89_C_l0 k k) (f89_s_l0 y3_0 y3_1 x0 x7 x8)) = (f89_l0 k k) := funext fun y3_0 => funext fun y3_1 => funext fun x0 => funext fun x7 => funext fun x8 => f89_l0_E k  k y3_0 y3_1 x0 x7 x8
  rw [e_l0]
  rfl
noncomputable def f89_con (k : Nat) : Con := ⟨f89_sig, f89_rs, fun xs => f89 k xs.1 xs.2.1⟩
theorem f89_ok (k : Nat) : PureOK Try.prog 89 f89_sig f89_rs (fun xs => f89 k xs.1 xs.2.1) :=
  (pure_of_den (k := k) (A := f89_A) (T := T) (Y := f89_Y) (E := f89_E k) (M := 58) (ts := f89_ts) T_ok trivial trivial mixed (f := 89) (fn := Try.f89) (c := f89_c) (by kernel_rfl) (by kernel_rfl) (by kernel_rfl) (by decide) (by kernel_rfl)).congr fun xs => (f89_eq k xs).symm
theorem f89_ent : Ent Try.prog 89 := fun args w => by kernel_rfl
/-! ### slices.Contains[[]terrier/api.Ban,terrier/api.Ban]: function 70 -/
noncomputable def f70_c : Code := Try.f70.body.getD .skip
abbrev f70_sig : List PT := [(false, (.sl false (.pair (.int .i64) (.int .i64)))), (true, (.pair (.int .i64) (.int .i64)))]
abbrev f70_rs : List RT := [.d false .bool]
abbrev f70_ts : List RV := [.tmp 4]
abbrev f70_S := St → Option (RDL f70_rs)
def f70_Y : Tys := []
noncomputable def f70_E (k : Nat) : Env := [(89, .c (f89_con k))]
def f70_A : Ann := {}
noncomputable abbrev f70_a (k : Nat) (F : List (Fr (RDL f70_rs))) : Kont (RDL f70_rs) := ap T f70_Y (f70_E k) f70_A k (Kfin T f70_rs f70_ts) F
def f70_entry_B (k : Nat) (a0 : (List (Int × Int))) (a1 : (Int × Int)) : Option (Bool × Unit) := ((f89 k a0 (a1.1, a1.2)).bind fun r1 => some (decide (0 ≤ r1.1), ()))
theorem f70_entry_P (k : Nat) (xs : DL f70_sig) : f70_a k (.c f70_c 0 :: []) .nx (σ0 9 28 f70_sig xs) = f70_entry_B k  xs.1 xs.2.1 := by kernel_rfl
theorem f70_f_entry (k : Nat) : f70_a k [.c f70_c 0] = f70_a k (.c f70_c 0 :: []) := (ap_cons _ rfl)
def f70 (k : Nat) (a0 : (List (Int × Int))) (a1 : (Int × Int)) : Option (Bool × Unit) := f70_entry_B k  a0 a1
theorem f70_eq (k : Nat) (xs : DL f70_sig) : den T f70_Y (f70_E k) f70_A k f70_c 0 (σ0 9 28 f70_sig xs) (Kfin T f70_rs f70_ts) = f70 k xs.1 xs.2.1 := by
  refine Eq.trans den_ap (Eq.trans (ap_at (f70_f_entry k) _) ((f70_entry_P k  xs).trans ?_))
  rfl
noncomputable def f70_con (k : Nat) : Con := ⟨f70_sig, f70_rs, fun xs => f70 k xs.1 xs.2.1⟩
theorem f70_ok (k : Nat) : PureOK Try.prog 70 f70_sig f70_rs (fun xs => f70 k xs.1 xs.2.1) :=
  (pure_of_den (k := k) (A := f70_A) (T := T) (Y := f70_Y) (E := f70_E k) (M := 28) (ts := f70_ts) T_ok ⟨f89_ok k, trivial⟩ ⟨f89_ent, trivial⟩ mixed (f := 70) (fn := Try.f70) (c := f70_c) (by kernel_rfl) (by kernel_rfl) (by kernel_rfl) (by decide) (by kernel_rfl)).congr fun xs => (f70_eq k xs).symm
theorem f70_ent : Ent Try.prog 70 := fun args w => by kernel_rfl
/-! ### terrier/net.Check: function 33 -/
noncomputable def f33_c : Code := Try.f33.body.getD .skip
abbrev f33_sig : List PT := [(true, (.pair (.sl false (.pair (.int .i64) (.int .i64))) (.pair (.sl false (.pair (.int .i64) (.pair (.int .i64) (.pair (.int .i64) (.int .i64))))) (.sl false (.pair (.int .i64) (.int .i64))))))]
abbrev f33_rs : List RT := [.d false (.int .i64)]
abbrev f33_ts : List RV := [.tmp 2]
abbrev f33_S := St → Option (RDL f33_rs)
def f33_Y : Tys := []
noncomputable def f33_E (k : Nat) : Env := [(66, .c (f66_con k)), (67, .c (f67_con k)), (68, .c (f68_con k)), (69, .c (f69_con k)), (70, .c (f70_con k))]
def f33_A : Ann := { regs := [(1, { slots := [(1, .id), (24, .bool)], keys := [(1, [.val false (.pair (.int .i64) (.int .i64)), .val false (.pair (.int .i64) (.pair (.int .i64) (.pair (.int .i64) (.int .i64)))), .val false (.pair (.int .i64) (.int .i64))])] }), (14, { slots := [(1, .id), (6, .id), (44, .val false (.pair (.int .i64) (.pair (.int .i64) (.pair (.int .i64) (.int .i64))))), (45, .id), (46, .id), (71, .bool)], keys := [(1, [.val false (.pair (.int .i64) (.int .i64)), .val false (.pair (.int .i64) (.pair (.int .i64) (.pair (.int .i64) (.int .i64)))), .val false (.pair (.int .i64) (.int .i64))]), (6, [])] }), (22, { slots := [(1, .id), (7, .id), (8, .id), (79, .val false (.pair (.int .i64) (.int .i64))), (80, .id), (81, .id), (97, .bool)], keys := [(1, [.val false (.pair (.int .i64) (.int .i64)), .val false (.pair (.int .i64) (.pair (.int .i64) (.pair (.int .i64) (.int .i64)))), .val false (.pair (.int .i64) (.int .i64))]), (8, [])] })], loops := [(0, { slots := [(1, .id), (26, .val false (.pair (.int .i64) (.int .i64))), (27, .id), (28, .id)], keys := [(1, [.val false (.pair (.int .i64) (.int .i64)), .val false (.pair (.int .i64) (.pair (.int .i64) (.pair (.int .i64) (.int .i64)))), .val false (.pair (.int .i64) (.int .i64))])] }), (2, { slots := [(1, .id), (44, .val false (.pair (.int .i64) (.pair (.int .i64) (.pair (.int .i64) (.int .i64))))), (45, .id), (46, .id)], keys := [(1, [.val false (.pair (.int .i64) (.int .i64)), .val false (.pair (.int .i64) (.pair (.int .i64) (.pair (.int .i64) (.int .i64)))), .val false (.pair (.int .i64) (.int .i64))])] }), (4, { slots := [(1, .id), (79, .val false (.pair (.int .i64) (.int .i64))), (80, .id), (81, .id)], keys := [(1, [.val false (.pair (.int .i64) (.int .i64)), .val false (.pair (.int .i64) (.pair (.int .i64) (.pair (.int .i64) (.int .i64)))), .val false (.pair (.int .i64) (.int .i64))])] })] }
noncomputable abbrev f33_a (k : Nat) (F : List (Fr (RDL f33_rs))) : Kont (RDL f33_rs) := ap T f33_Y (f33_E k) f33_A k (Kfin T f33_rs f33_ts) F
def f33_s_r1 (y1_0 : (List (Int × Int))) (y1_1 : (List (Int × (Int × (Int × Int))))) (y1_2 : (List (Int × Int))) (x24 : Bool) : St := mkS 120 360 [(1, .cp (.one (.ptr 1 0))), (24, .cp (.one (.prop (x24 = true) inferInstance)))] [(1, .box [.val false (.pair (.int .i64) (.int .i64)) y1_0, .val false (.pair (.int .i64) (.pair (.int .i64) (.pair (.int .i64) (.int .i64)))) y1_1, .val false (.pair (.int .i64) (.int .i64)) y1_2])]
noncomputable def f33_Q_r1 (k : Nat) : List (Fr (RDL f33_rs)) := [.c (sub f33_c [1, 0, 1]) 0, .c (sub f33_c [1, 1]) 0]
noncomputable def f33_C_r1 (k : Nat) : f33_S := fun σ => f33_a k (f33_Q_r1 k) .nx σ
def f33_s_l0 (y1_0 : (List (Int × Int))) (y1_1 : (List (Int × (Int × (Int × Int))))) (y1_2 : (List (Int × Int))) (x27 : Int) (x28 : Int) : St := mkS 120 360 [(1, .cp (.one (.ptr 1 0))), (26, .cp (.one (.val false (.pair (.int .i64) (.int .i64)) y1_0))), (27, .cp (.one (.int .i64 x27))), (28, .cp (.one (.int .i64 x28)))] [(1, .box [.val false (.pair (.int .i64) (.int .i64)) y1_0, .val false (.pair (.int .i64) (.pair (.int .i64) (.pair (.int .i64) (.int .i64)))) y1_1, .val false (.pair (.int .i64) (.int .i64)) y1_2])]
noncomputable def f33_Q_l0 (k : Nat) (R_l0 : f33_S) : List (Fr (RDL f33_rs)) := [.c (sub f33_c [1, 1, 0, 1, 0, 0]) 0, .j (fun σ => R_l0 (cut f33_A.loops 0 σ)), .blk 0, .c (sub f33_c [1, 1, 1]) 0]
noncomputable def f33_C_l0 (k : Nat) (n : Nat) (σ : St) : Option (RDL f33_rs) := loopK (fun σ K => den T f33_Y (f33_E k) f33_A k (sub f33_c [1, 1, 0, 1, 0, 0]) 0 σ K) (cut f33_A.loops 0) (f33_a k [.blk 0, .c (sub f33_c [1, 1, 1]) 0]) n σ
def f33_s_l2 (y1_0 : (List (Int × Int))) (y1_1 : (List (Int × (Int × (Int × Int))))) (y1_2 : (List (Int × Int))) (x45 : Int) (x46 : Int) : St := mkS 120 360 [(1, .cp (.one (.ptr 1 0))), (44, .cp (.one (.val false (.pair (.int .i64) (.pair (.int .i64) (.pair (.int .i64) (.int .i64)))) y1_1))), (45, .cp (.one (.int .i64 x45))), (46, .cp (.one (.int .i64 x46)))] [(1, .box [.val false (.pair (.int .i64) (.int .i64)) y1_0, .val false (.pair (.int .i64) (.pair (.int .i64) (.pair (.int .i64) (.int .i64)))) y1_1, .val false (.pair (.int .i64) (.int .i64)) y1_2])]
noncomputable def f33_Q_l2 (k : Nat) (R_l2 : f33_S) : List (Fr (RDL f33_rs)) := [.c (sub f33_c [1, 1, 1, 0, 1, 0, 0]) 2, .j (fun σ => R_l2 (cut f33_A.loops 2 σ)), .blk 2, .c (sub f33_c [1, 1, 1, 1]) 0]
noncomputable def f33_C_l2 (k : Nat) (n : Nat) (σ : St) : Option (RDL f33_rs) := loopK (fun σ K => den T f33_Y (f33_E k) f33_A k (sub f33_c [1, 1, 1, 0, 1, 0, 0]) 2 σ K) (cut f33_A.loops 2) (f33_a k [.blk 2, .c (sub f33_c [1, 1, 1, 1]) 0]) n σ
def f33_s_r14 (y1_0 : (List (Int × Int))) (y1_1 : (List (Int × (Int × (Int × Int))))) (y1_2 : (List (Int × Int))) (y6_0 : Int) (y6_1 : Int) (y6_2 : Int) (y6_3 : Int) (x45 : Int) (x46 : Int) (x71 : Bool) : St := mkS 120 360 [(1, .cp (.one (.ptr 1 0))), (6, .cp (.one (.ptr 6 0))), (44, .cp (.one (.val false (.pair (.int .i64) (.pair (.int .i64) (.pair (.int .i64) (.int .i64)))) y1_1))), (45, .cp (.one (.int .i64 x45))), (46, .cp (.one (.int .i64 x46))), (71, .cp (.one (.prop (x71 = true) inferInstance)))] [(1, .box [.val false (.pair (.int .i64) (.int .i64)) y1_0, .val false (.pair (.int .i64) (.pair (.int .i64) (.pair (.int .i64) (.int .i64)))) y1_1, .val false (.pair (.int .i64) (.int .i64)) y1_2]), (6, .box [.int .i64 y6_0, .int .i64 y6_1, .int .i64 y6_2, .int .i64 y6_3])]
noncomputable def f33_Q_r14 (k : Nat) (R_l2 : f33_S) : List (Fr (RDL f33_rs)) := [.c (sub f33_c [1, 1, 1, 0, 1, 0, 0, 1, 1, 0, 0, 1, 0, 1]) 3, .c (sub f33_c [1, 1, 1, 0, 1, 0, 0, 1, 1, 0, 0, 1, 1]) 3, .blk 3, .c (sub f33_c [1, 1, 1, 0, 1, 0, 0, 1, 1, 1]) 2, .j (fun σ => R_l2 (cut f33_A.loops 2 σ)), .blk 2, .c (sub f33_c [1, 1, 1, 1]) 0]
noncomputable def f33_C_r14 (k : Nat) (R_l2 : f33_S) : f33_S := fun σ => f33_a k (f33_Q_r14 k R_l2) .nx σ
def f33_s_l4 (y1_0 : (List (Int × Int))) (y1_1 : (List (Int × (Int × (Int × Int))))) (y1_2 : (List (Int × Int))) (x80 : Int) (x81 : Int) : St := mkS 120 360 [(1, .cp (.one (.ptr 1 0))), (79, .cp (.one (.val false (.pair (.int .i64) (.int .i64)) y1_2))), (80, .cp (.one (.int .i64 x80))), (81, .cp (.one (.int .i64 x81)))] [(1, .box [.val false (.pair (.int .i64) (.int .i64)) y1_0, .val false (.pair (.int .i64) (.pair (.int .i64) (.pair (.int .i64) (.int .i64)))) y1_1, .val false (.pair (.int .i64) (.int .i64)) y1_2])]
noncomputable def f33_Q_l4 (k : Nat) (R_l4 : f33_S) : List (Fr (RDL f33_rs)) := [.c (sub f33_c [1, 1, 1, 1, 0, 1, 0, 0]) 4, .j (fun σ => R_l4 (cut f33_A.loops 4 σ)), .blk 4, .c (sub f33_c [1, 1, 1, 1, 1]) 0]
noncomputable def f33_C_l4 (k : Nat) (n : Nat) (σ : St) : Option (RDL f33_rs) := loopK (fun σ K => den T f33_Y (f33_E k) f33_A k (sub f33_c [1, 1, 1, 1, 0, 1, 0, 0]) 4 σ K) (cut f33_A.loops 4) (f33_a k [.blk 4, .c (sub f33_c [1, 1, 1, 1, 1]) 0]) n σ
def f33_s_r22 (y1_0 : (List (Int × Int))) (y1_1 : (List (Int × (Int × (Int × Int))))) (y1_2 : (List (Int × Int))) (y8_0 : Int) (y8_1 : Int) (x7 : Int) (x80 : Int) (x97 : Bool) : St := mkS 120 360 [(1, .cp (.one (.ptr 1 0))), (7, .cp (.one (.int .i64 x7))), (8, .cp (.one (.ptr 8 0))), (79, .cp (.one (.val false (.pair (.int .i64) (.int .i64)) y1_2))), (80, .cp (.one (.int .i64 x80))), (81, .cp (.one (.int .i64 x7))), (97, .cp (.one (.prop (x97 = true) inferInstance)))] [(1, .box [.val false (.pair (.int .i64) (.int .i64)) y1_0, .val false (.pair (.int .i64) (.pair (.int .i64) (.pair (.int .i64) (.int .i64)))) y1_1, .val false (.pair (.int .i64) (.int .i64)) y1_2]), (8, .box [.int .i64 y8_0, .int .i64 y8_1])]
noncomputable def f33_Q_r22 (k : Nat) (R_l4 : f33_S) : List (Fr (RDL f33_rs)) := [.c (sub f33_c [1, 1, 1, 1, 0, 1, 0, 0, 1, 1, 0, 0, 1, 0, 1]) 5, .c (sub f33_c [1, 1, 1, 1, 0, 1, 0, 0, 1, 1, 0, 0, 1, 1]) 5, .blk 5, .c (sub f33_c [1, 1, 1, 1, 0, 1, 0, 0, 1, 1, 1]) 4, .j (fun σ => R_l4 (cut f33_A.loops 4 σ)), .blk 4, .c (sub f33_c [1, 1, 1, 1, 1]) 0]
noncomputable def f33_C_r22 (k : Nat) (R_l4 : f33_S) : f33_S := fun σ => f33_a k (f33_Q_r22 k R_l4) .nx σ
theorem f33_h1_1_1_1_0_1_0 : (sub f33_c [1, 1, 1, 1, 0, 1, 0]) = .loop (sub f33_c [1, 1, 1, 1, 0, 1, 0, 0]) := by kernel_rfl
theorem f33_h1_1_1_1_0_1 : (sub f33_c [1, 1, 1, 1, 0, 1]) = .block 4 (sub f33_c [1, 1, 1, 1, 0, 1, 0]) := by kernel_rfl
theorem f33_h1_1_1_1_0 : (sub f33_c [1, 1, 1, 1, 0]) = .seq (sub f33_c [1, 1, 1, 1, 0, 0]) (sub f33_c [1, 1, 1, 1, 0, 1]) := by kernel_rfl
theorem f33_h1_1_1_1 : (sub f33_c [1, 1, 1, 1]) = .seq (sub f33_c [1, 1, 1, 1, 0]) (sub f33_c [1, 1, 1, 1, 1]) := by kernel_rfl
theorem f33_h1_1_1_0_1_0 : (sub f33_c [1, 1, 1, 0, 1, 0]) = .loop (sub f33_c [1, 1, 1, 0, 1, 0, 0]) := by kernel_rfl
theorem f33_h1_1_1_0_1 : (sub f33_c [1, 1, 1, 0, 1]) = .block 2 (sub f33_c [1, 1, 1, 0, 1, 0]) := by kernel_rfl
theorem f33_h1_1_1_0 : (sub f33_c [1, 1, 1, 0]) = .seq (sub f33_c [1, 1, 1, 0, 0]) (sub f33_c [1, 1, 1, 0, 1]) := by kernel_rfl
theorem f33_h1_1_1 : (sub f33_c [1, 1, 1]) = .seq (sub f33_c [1, 1, 1, 0]) (sub f33_c [1, 1, 1, 1]) := by kernel_rfl
theorem f33_h1_1_0_1_0 : (sub f33_c [1, 1, 0, 1, 0]) = .loop (sub f33_c [1, 1, 0, 1, 0, 0]) := by kernel_rfl
theorem f33_h1_1_0_1 : (sub f33_c [1, 1, 0, 1]) = .block 0 (sub f33_c [1, 1, 0, 1, 0]) := by kernel_rfl
theorem f33_h1_1_0 : (sub f33_c [1, 1, 0]) = .seq (sub f33_c [1, 1, 0, 0]) (sub f33_c [1, 1, 0, 1]) := by kernel_rfl
theorem f33_h1_1 : (sub f33_c [1, 1]) = .seq (sub f33_c [1, 1, 0]) (sub f33_c [1, 1, 1]) := by kernel_rfl
theorem f33_h1_1_1_0_1_0_0_1_1_0_0_1_0 : (sub f33_c [1, 1, 1, 0, 1, 0, 0, 1, 1, 0, 0, 1, 0]) = .seq (sub f33_c [1, 1, 1, 0, 1, 0, 0, 1, 1, 0, 0, 1, 0, 0]) (sub f33_c [1, 1, 1, 0, 1, 0, 0, 1, 1, 0, 0, 1, 0, 1]) := by kernel_rfl
theorem f33_h1_1_1_0_1_0_0_1_1_0_0_1 : (sub f33_c [1, 1, 1, 0, 1, 0, 0, 1, 1, 0, 0, 1]) = .seq (sub f33_c [1, 1, 1, 0, 1, 0, 0, 1, 1, 0, 0, 1, 0]) (sub f33_c [1, 1, 1, 0, 1, 0, 0, 1, 1, 0, 0, 1, 1]) := by kernel_rfl
theorem f33_h1_1_1_0_1_0_0_1_1_0_0 : (sub f33_c [1, 1, 1, 0, 1, 0, 0, 1, 1, 0, 0]) = .seq (sub f33_c [1, 1, 1, 0, 1, 0, 0, 1, 1, 0, 0, 0]) (sub f33_c [1, 1, 1, 0, 1, 0, 0, 1, 1, 0, 0, 1]) := by kernel_rfl
theorem f33_h1_1_1_0_1_0_0_1_1_0 : (sub f33_c [1, 1, 1, 0, 1, 0, 0, 1, 1, 0]) = .block 3 (sub f33_c [1, 1, 1, 0, 1, 0, 0, 1, 1, 0, 0]) := by kernel_rfl
theorem f33_h1_1_1_0_1_0_0_1_1 : (sub f33_c [1, 1, 1, 0, 1, 0, 0, 1, 1]) = .seq (sub f33_c [1, 1, 1, 0, 1, 0, 0, 1, 1, 0]) (sub f33_c [1, 1, 1, 0, 1, 0, 0, 1, 1, 1]) := by kernel_rfl
theorem f33_h1_1_1_0_1_0_0_1 : (sub f33_c [1, 1, 1, 0, 1, 0, 0, 1]) = .seq (sub f33_c [1, 1, 1, 0, 1, 0, 0, 1, 0]) (sub f33_c [1, 1, 1, 0, 1, 0, 0, 1, 1]) := by kernel_rfl
theorem f33_h1_1_1_0_1_0_0 : (sub f33_c [1, 1, 1, 0, 1, 0, 0]) = .seq (sub f33_c [1, 1, 1, 0, 1, 0, 0, 0]) (sub f33_c [1, 1, 1, 0, 1, 0, 0, 1]) := by kernel_rfl
theorem f33_h1_1_1_1_0_1_0_0_1_1_0_0_1_0 : (sub f33_c [1, 1, 1, 1, 0, 1, 0, 0, 1, 1, 0, 0, 1, 0]) = .seq (sub f33_c [1, 1, 1, 1, 0, 1, 0, 0, 1, 1, 0, 0, 1, 0, 0]) (sub f33_c [1, 1, 1, 1, 0, 1, 0, 0, 1, 1, 0, 0, 1, 0, 1]) := by kernel_rfl
theorem f33_h1_1_1_1_0_1_0_0_1_1_0_0_1 : (sub f33_c [1, 1, 1, 1, 0, 1, 0, 0, 1, 1, 0, 0, 1]) = .seq (sub f33_c [1, 1, 1, 1, 0, 1, 0, 0, 1, 1, 0, 0, 1, 0]) (sub f33_c [1, 1, 1, 1, 0, 1, 0, 0, 1, 1, 0, 0, 1, 1]) := by kernel_rfl
theorem f33_h1_1_1_1_0_1_0_0_1_1_0_0 : (sub f33_c [1, 1, 1, 1, 0, 1, 0, 0, 1, 1, 0, 0]) = .seq (sub f33_c [1, 1, 1, 1, 0, 1, 0, 0, 1, 1, 0, 0, 0]) (sub f33_c [1, 1, 1, 1, 0, 1, 0, 0, 1, 1, 0, 0, 1]) := by kernel_rfl
theorem f33_h1_1_1_1_0_1_0_0_1_1_0 : (sub f33_c [1, 1, 1, 1, 0, 1, 0, 0, 1, 1, 0]) = .block 5 (sub f33_c [1, 1, 1, 1, 0, 1, 0, 0, 1, 1, 0, 0]) := by kernel_rfl
theorem f33_h1_1_1_1_0_1_0_0_1_1 : (sub f33_c [1, 1, 1, 1, 0, 1, 0, 0, 1, 1]) = .seq (sub f33_c [1, 1, 1, 1, 0, 1, 0, 0, 1, 1, 0]) (sub f33_c [1, 1, 1, 1, 0, 1, 0, 0, 1, 1, 1]) := by kernel_rfl
theorem f33_h1_1_1_1_0_1_0_0_1 : (sub f33_c [1, 1, 1, 1, 0, 1, 0, 0, 1]) = .seq (sub f33_c [1, 1, 1, 1, 0, 1, 0, 0, 1, 0]) (sub f33_c [1, 1, 1, 1, 0, 1, 0, 0, 1, 1]) := by kernel_rfl
theorem f33_h1_1_1_1_0_1_0_0 : (sub f33_c [1, 1, 1, 1, 0, 1, 0, 0]) = .seq (sub f33_c [1, 1, 1, 1, 0, 1, 0, 0, 0]) (sub f33_c [1, 1, 1, 1, 0, 1, 0, 0, 1]) := by kernel_rfl
theorem f33_h1_0 : (sub f33_c [1, 0]) = .seq (sub f33_c [1, 0, 0]) (sub f33_c [1, 0, 1]) := by kernel_rfl
theorem f33_h1 : (sub f33_c [1]) = .seq (sub f33_c [1, 0]) (sub f33_c [1, 1]) := by kernel_rfl
theorem f33_h : f33_c = .seq (sub f33_c [0]) (sub f33_c [1]) := by kernel_rfl
noncomputable def f33_F_r1 (k : Nat) (G_l0 : f33_S) (G_l2 : f33_S) (G_l4 : f33_S) : List (Fr (RDL f33_rs)) := .c (sub f33_c [1, 0, 1]) 0 :: .c (sub f33_c [1, 1, 0, 0]) 0 :: .j (fun σ => f33_a k (.j (fun σ => G_l0 (cut f33_A.loops 0 σ)) :: .blk 0 :: .c (sub f33_c [1, 1, 1, 0, 0]) 0 :: .j (fun σ => f33_a k (.j (fun σ => G_l2 (cut f33_A.loops 2 σ)) :: .blk 2 :: .c (sub f33_c [1, 1, 1, 1, 0, 0]) 0 :: .j (fun σ => f33_a k (.j (fun σ => G_l4 (cut f33_A.loops 4 σ)) :: .blk 4 :: .c (sub f33_c [1, 1, 1, 1, 1]) 0 :: []) .nx σ) :: .c (sub f33_c [1, 1, 1, 1, 1]) 0 :: []) .nx σ) :: .c (sub f33_c [1, 1, 1, 1, 0, 0]) 0 :: .j (fun σ => f33_a k (.j (fun σ => G_l4 (cut f33_A.loops 4 σ)) :: .blk 4 :: .c (sub f33_c [1, 1, 1, 1, 1]) 0 :: []) .nx σ) :: .c (sub f33_c [1, 1, 1, 1, 1]) 0 :: []) .nx σ) :: .c (sub f33_c [1, 1, 1, 0, 0]) 0 :: .j (fun σ => f33_a k (.j (fun σ => G_l2 (cut f33_A.loops 2 σ)) :: .blk 2 :: .c (sub f33_c [1, 1, 1, 1, 0, 0]) 0 :: .j (fun σ => f33_a k (.j (fun σ => G_l4 (cut f33_A.loops 4 σ)) :: .blk 4 :: .c (sub f33_c [1, 1, 1, 1, 1]) 0 :: []) .nx σ) :: .c (sub f33_c [1, 1, 1, 1, 1]) 0 :: []) .nx σ) :: .c (sub f33_c [1, 1, 1, 1, 0, 0]) 0 :: .j (fun σ => f33_a k (.j (fun σ => G_l4 (cut f33_A.loops 4 σ)) :: .blk 4 :: .c (sub f33_c [1, 1, 1, 1, 1]) 0 :: []) .nx σ) :: .c (sub f33_c [1, 1, 1, 1, 1]) 0 :: []
theorem f33_f_r1 (k : Nat) : f33_a k (f33_Q_r1 k) = f33_a k (f33_F_r1 k (f33_C_l0 k k) (f33_C_l2 k k) (f33_C_l4 k k)) := (ap_cons _ (Eq.trans (ap_seq f33_h1_1) (Eq.trans (ap_seq f33_h1_1_0) (ap_cons _ (Eq.trans (ap_block f33_h1_1_0_1) (Eq.trans (ap_j (Eq.trans (ap_loop (C := (f33_C_l0 k)) f33_h1_1_0_1_0 (fun _ _ => rfl)) (ap_cons _ (ap_cons _ (Eq.trans (ap_seq f33_h1_1_1) (Eq.trans (ap_seq f33_h1_1_1_0) (ap_cons _ (Eq.trans (ap_block f33_h1_1_1_0_1) (Eq.trans (ap_j (Eq.trans (ap_loop (C := (f33_C_l2 k)) f33_h1_1_1_0_1_0 (fun _ _ => rfl)) (ap_cons _ (ap_cons _ (Eq.trans (ap_seq f33_h1_1_1_1) (Eq.trans (ap_seq f33_h1_1_1_1_0) (ap_cons _ (Eq.trans (ap_block f33_h1_1_1_1_0_1) (Eq.trans (ap_j (Eq.trans (ap_loop (C := (f33_C_l4 k)) f33_h1_1_1_1_0_1_0 (fun _ _ => rfl)) (ap_cons _ (ap_cons _ (ap_cons _ rfl))))) (ap_cons _ (ap_cons _ rfl))))))))))) (ap_cons _ (Eq.trans (ap_seq f33_h1_1_1_1) (Eq.trans (ap_seq f33_h1_1_1_1_0) (ap_cons _ (Eq.trans (ap_block f33_h1_1_1_1_0_1) (Eq.trans (ap_j (Eq.trans (ap_loop (C := (f33_C_l4 k)) f33_h1_1_1_1_0_1_0 (fun _ _ => rfl)) (ap_cons _ (ap_cons _ (ap_cons _ rfl))))) (ap_cons _ (ap_cons _ rfl))))))))))))))))) (ap_cons _ (Eq.trans (ap_seq f33_h1_1_1) (Eq.trans (ap_seq f33_h1_1_1_0) (ap_cons _ (Eq.trans (ap_block f33_h1_1_1_0_1) (Eq.trans (ap_j (Eq.trans (ap_loop (C := (f33_C_l2 k)) f33_h1_1_1_0_1_0 (fun _ _ => rfl)) (ap_cons _ (ap_cons _ (Eq.trans (ap_seq f33_h1_1_1_1) (Eq.trans (ap_seq f33_h1_1_1_1_0) (ap_cons _ (Eq.trans (ap_block f33_h1_1_1_1_0_1) (Eq.trans (ap_j (Eq.trans (ap_loop (C := (f33_C_l4 k)) f33_h1_1_1_1_0_1_0 (fun _ _ => rfl)) (ap_cons _ (ap_cons _ (ap_cons _ rfl))))) (ap_cons _ (ap_cons _ rfl))))))))))) (ap_cons _ (Eq.trans (ap_seq f33_h1_1_1_1) (Eq.trans (ap_seq f33_h1_1_1_1_0) (ap_cons _ (Eq.trans (ap_block f33_h1_1_1_1_0_1) (Eq.trans (ap_j (Eq.trans (ap_loop (C := (f33_C_l4 k)) f33_h1_1_1_1_0_1_0 (fun _ _ => rfl)) (ap_cons _ (ap_cons _ (ap_cons _ rfl))))) (ap_cons _ (ap_cons _ rfl))))))))))))))))))))
noncomputable def f33_F_l0 (k : Nat) (G_l0 : f33_S) (G_l2 : f33_S) (G_l4 : f33_S) : List (Fr (RDL f33_rs)) := .c (sub f33_c [1, 1, 0, 1, 0, 0]) 0 :: .j (fun σ => G_l0 (cut f33_A.loops 0 σ)) :: .blk 0 :: .c (sub f33_c [1, 1, 1, 0, 0]) 0 :: .j (fun σ => f33_a k (.j (fun σ => G_l2 (cut f33_A.loops 2 σ)) :: .blk 2 :: .c (sub f33_c [1, 1, 1, 1, 0, 0]) 0 :: .j (fun σ => f33_a k (.j (fun σ => G_l4 (cut f33_A.loops 4 σ)) :: .blk 4 :: .c (sub f33_c [1, 1, 1, 1, 1]) 0 :: []) .nx σ) :: .c (sub f33_c [1, 1, 1, 1, 1]) 0 :: []) .nx σ) :: .c (sub f33_c [1, 1, 1, 1, 0, 0]) 0 :: .j (fun σ => f33_a k (.j (fun σ => G_l4 (cut f33_A.loops 4 σ)) :: .blk 4 :: .c (sub f33_c [1, 1, 1, 1, 1]) 0 :: []) .nx σ) :: .c (sub f33_c [1, 1, 1, 1, 1]) 0 :: []
theorem f33_f_l0 (k : Nat) (R_l0 : f33_S) : f33_a k (f33_Q_l0 k R_l0) = f33_a k (f33_F_l0 k R_l0 (f33_C_l2 k k) (f33_C_l4 k k)) := (ap_cons _ (ap_cons _ (ap_cons _ (Eq.trans (ap_seq f33_h1_1_1) (Eq.trans (ap_seq f33_h1_1_1_0) (ap_cons _ (Eq.trans (ap_block f33_h1_1_1_0_1) (Eq.trans (ap_j (Eq.trans (ap_loop (C := (f33_C_l2 k)) f33_h1_1_1_0_1_0 (fun _ _ => rfl)) (ap_cons _ (ap_cons _ (Eq.trans (ap_seq f33_h1_1_1_1) (Eq.trans (ap_seq f33_h1_1_1_1_0) (ap_cons _ (Eq.trans (ap_block f33_h1_1_1_1_0_1) (Eq.trans (ap_j (Eq.trans (ap_loop (C := (f33_C_l4 k)) f33_h1_1_1_1_0_1_0 (fun _ _ => rfl)) (ap_cons _ (ap_cons _ (ap_cons _ rfl))))) (ap_cons _ (ap_cons _ rfl))))))))))) (ap_cons _ (Eq.trans (ap_seq f33_h1_1_1_1) (Eq.trans (ap_seq f33_h1_1_1_1_0) (ap_cons _ (Eq.trans (ap_block f33_h1_1_1_1_0_1) (Eq.trans (ap_j (Eq.trans (ap_loop (C := (f33_C_l4 k)) f33_h1_1_1_1_0_1_0 (fun _ _ => rfl)) (ap_cons _ (ap_cons _ (ap_cons _ rfl))))) (ap_cons _ (ap_cons _ rfl))))))))))))))))
noncomputable def f33_F_r14 (k : Nat) (G_l2 : f33_S) (G_l4 : f33_S) : List (Fr (RDL f33_rs)) := .c (sub f33_c [1, 1, 1, 0, 1, 0, 0, 1, 1, 0, 0, 1, 0, 1]) 3 :: .c (sub f33_c [1, 1, 1, 0, 1, 0, 0, 1, 1, 0, 0, 1, 1]) 3 :: .blk 3 :: .c (sub f33_c [1, 1, 1, 0, 1, 0, 0, 1, 1, 1]) 2 :: .j (fun σ => G_l2 (cut f33_A.loops 2 σ)) :: .blk 2 :: .c (sub f33_c [1, 1, 1, 1, 0, 0]) 0 :: .j (fun σ => f33_a k (.j (fun σ => G_l4 (cut f33_A.loops 4 σ)) :: .blk 4 :: .c (sub f33_c [1, 1, 1, 1, 1]) 0 :: []) .nx σ) :: .c (sub f33_c [1, 1, 1, 1, 1]) 0 :: []
theorem f33_f_r14 (k : Nat) (R_l2 : f33_S) : f33_a k (f33_Q_r14 k R_l2) = f33_a k (f33_F_r14 k R_l2 (f33_C_l4 k k)) := (ap_cons _ (ap_cons _ (ap_cons _ (ap_cons _ (ap_cons _ (ap_cons _ (Eq.trans (ap_seq f33_h1_1_1_1) (Eq.trans (ap_seq f33_h1_1_1_1_0) (ap_cons _ (Eq.trans (ap_block f33_h1_1_1_1_0_1) (Eq.trans (ap_j (Eq.trans (ap_loop (C := (f33_C_l4 k)) f33_h1_1_1_1_0_1_0 (fun _ _ => rfl)) (ap_cons _ (ap_cons _ (ap_cons _ rfl))))) (ap_cons _ (ap_cons _ rfl)))))))))))))
noncomputable def f33_F_l2 (k : Nat) (G_l2 : f33_S) (G_r14 : f33_S) (G_l4 : f33_S) : List (Fr (RDL f33_rs)) := .c (sub f33_c [1, 1, 1, 0, 1, 0, 0, 0]) 2 :: .c (sub f33_c [1, 1, 1, 0, 1, 0, 0, 1, 0]) 2 :: .j (fun σ => f33_a k (.c (sub f33_c [1, 1, 1, 0, 1, 0, 0, 1, 1, 0, 0, 0]) 3 :: .c (sub f33_c [1, 1, 1, 0, 1, 0, 0, 1, 1, 0, 0, 1, 0, 0]) 3 :: .j G_r14 :: f33_F_r14 k G_l2 G_l4) .nx σ) :: .c (sub f33_c [1, 1, 1, 0, 1, 0, 0, 1, 1, 1]) 2 :: .j (fun σ => G_l2 (cut f33_A.loops 2 σ)) :: .blk 2 :: .c (sub f33_c [1, 1, 1, 1, 0, 0]) 0 :: .j (fun σ => f33_a k (.j (fun σ => G_l4 (cut f33_A.loops 4 σ)) :: .blk 4 :: .c (sub f33_c [1, 1, 1, 1, 1]) 0 :: []) .nx σ) :: .c (sub f33_c [1, 1, 1, 1, 1]) 0 :: []
theorem f33_f_l2 (k : Nat) (R_l2 : f33_S) : f33_a k (f33_Q_l2 k R_l2) = f33_a k (f33_F_l2 k R_l2 (f33_C_r14 k R_l2) (f33_C_l4 k k)) := (Eq.trans (ap_seq f33_h1_1_1_0_1_0_0) (ap_cons _ (Eq.trans (ap_seq f33_h1_1_1_0_1_0_0_1) (ap_cons _ (Eq.trans (ap_seq f33_h1_1_1_0_1_0_0_1_1) (Eq.trans (ap_block f33_h1_1_1_0_1_0_0_1_1_0) (Eq.trans (ap_j (Eq.trans (ap_seq f33_h1_1_1_0_1_0_0_1_1_0_0) (ap_cons _ (Eq.trans (ap_seq f33_h1_1_1_0_1_0_0_1_1_0_0_1) (Eq.trans (ap_seq f33_h1_1_1_0_1_0_0_1_1_0_0_1_0) (ap_cons _ (Eq.trans (ap_pass (C := (f33_C_r14 k R_l2)) (fun _ => rfl)) (ap_cons _ (f33_f_r14 k R_l2))))))))) (ap_cons _ (ap_cons _ (ap_cons _ (ap_cons _ (Eq.trans (ap_seq f33_h1_1_1_1) (Eq.trans (ap_seq f33_h1_1_1_1_0) (ap_cons _ (Eq.trans (ap_block f33_h1_1_1_1_0_1) (Eq.trans (ap_j (Eq.trans (ap_loop (C := (f33_C_l4 k)) f33_h1_1_1_1_0_1_0 (fun _ _ => rfl)) (ap_cons _ (ap_cons _ (ap_cons _ rfl))))) (ap_cons _ (ap_cons _ rfl))))))))))))))))))
noncomputable def f33_F_r22 (k : Nat) (G_l4 : f33_S) : List (Fr (RDL f33_rs)) := .c (sub f33_c [1, 1, 1, 1, 0, 1, 0, 0, 1, 1, 0, 0, 1, 0, 1]) 5 :: .c (sub f33_c [1, 1, 1, 1, 0, 1, 0, 0, 1, 1, 0, 0, 1, 1]) 5 :: .blk 5 :: .c (sub f33_c [1, 1, 1, 1, 0, 1, 0, 0, 1, 1, 1]) 4 :: .j (fun σ => G_l4 (cut f33_A.loops 4 σ)) :: .blk 4 :: .c (sub f33_c [1, 1, 1, 1, 1]) 0 :: []
theorem f33_f_r22 (k : Nat) (R_l4 : f33_S) : f33_a k (f33_Q_r22 k R_l4) = f33_a k (f33_F_r22 k R_l4) := (ap_cons _ (ap_cons _ (ap_cons _ (ap_cons _ (ap_cons _ (ap_cons _ (ap_cons _ rfl)))))))
noncomputable def f33_F_l4 (k : Nat) (G_l4 : f33_S) (G_r22 : f33_S) : List (Fr (RDL f33_rs)) := .c (sub f33_c [1, 1, 1, 1, 0, 1, 0, 0, 0]) 4 :: .c (sub f33_c [1, 1, 1, 1, 0, 1, 0, 0, 1, 0]) 4 :: .j (fun σ => f33_a k (.c (sub f33_c [1, 1, 1, 1, 0, 1, 0, 0, 1, 1, 0, 0, 0]) 5 :: .c (sub f33_c [1, 1, 1, 1, 0, 1, 0, 0, 1, 1, 0, 0, 1, 0, 0]) 5 :: .j G_r22 :: f33_F_r22 k G_l4) .nx σ) :: .c (sub f33_c [1, 1, 1, 1, 0, 1, 0, 0, 1, 1, 1]) 4 :: .j (fun σ => G_l4 (cut f33_A.loops 4 σ)) :: .blk 4 :: .c (sub f33_c [1, 1, 1, 1, 1]) 0 :: []
theorem f33_f_l4 (k : Nat) (R_l4 : f33_S) : f33_a k (f33_Q_l4 k R_l4) = f33_a k (f33_F_l4 k R_l4 (f33_C_r22 k R_l4)) := (Eq.trans (ap_seq f33_h1_1_1_1_0_1_0_0) (ap_cons _ (Eq.trans (ap_seq f33_h1_1_1_1_0_1_0_0_1) (ap_cons _ (Eq.trans (ap_seq f33_h1_1_1_1_0_1_0_0_1_1) (Eq.trans (ap_block f33_h1_1_1_1_0_1_0_0_1_1_0) (Eq.trans (ap_j (Eq.trans (ap_seq f33_h1_1_1_1_0_1_0_0_1_1_0_0) (ap_cons _ (Eq.trans (ap_seq f33_h1_1_1_1_0_1_0_0_1_1_0_0_1) (Eq.trans (ap_seq f33_h1_1_1_1_0_1_0_0_1_1_0_0_1_0) (ap_cons _ (Eq.trans (ap_pass (C := (f33_C_r22 k R_l4)) (fun _ => rfl)) (ap_cons _ (f33_f_r22 k R_l4))))))))) (ap_cons _ (ap_cons _ (ap_cons _ (ap_cons _ (ap_cons _ rfl))))))))))))
def f33_entry_B (k : Nat) (g_r1 : (List (Int × Int)) → (List (Int × (Int × (Int × Int)))) → (List (Int × Int)) → Bool → Option (Int × Unit)) (a0 : ((List (Int × Int)) × ((List (Int × (Int × (Int × Int)))) × (List (Int × Int))))) : Option (Int × Unit) := (if 200 < (a0.1.length : Int) then (g_r1 a0.1 a0.2.1 a0.2.2 true) else (if 600 < (a0.2.1.length : Int) then (g_r1 a0.1 a0.2.1 a0.2.2 true) else (g_r1 a0.1 a0.2.1 a0.2.2 (decide (600 < (a0.2.2.length : Int))))))
def f33_r1_B (k : Nat) (g_l0 : (List (Int × Int)) → (List (Int × (Int × (Int × Int)))) → (List (Int × Int)) → Int → Int → Option (Int × Unit)) (y1_0 : (List (Int × Int))) (y1_1 : (List (Int × (Int × (Int × Int))))) (y1_2 : (List (Int × Int))) (x24 : Bool) : Option (Int × Unit) := (if x24 = true then some (2, ()) else (g_l0 y1_0 y1_1 y1_2 (y1_0.length : Int) 0))
def f33_l0_B (k : Nat) (g_l0 : (List (Int × Int)) → (List (Int × (Int × (Int × Int)))) → (List (Int × Int)) → Int → Int → Option (Int × Unit)) (g_l2 : (List (Int × Int)) → (List (Int × (Int × (Int × Int)))) → (List (Int × Int)) → Int → Int → Option (Int × Unit)) (y1_0 : (List (Int × Int))) (y1_1 : (List (Int × (Int × (Int × Int))))) (y1_2 : (List (Int × Int))) (x27 : Int) (x28 : Int) : Option (Int × Unit) := (if x28 < x27 then (if 0 ≤ x28 then (if x28 < (y1_0.length : Int) then ((f66 k ((y1_0.getD (x28).toNat (0, 0)).1, (y1_0.getD (x28).toNat (0, 0)).2)).bind fun r1 => (if ¬ (r1.1 = true) then some (1, ()) else (if 0 ≤ x28 then (if x28 ≤ (y1_0.length : Int) then ((f67 k (y1_0.take (x28).toNat) ((y1_0.getD (x28).toNat (0, 0)).1, (y1_0.getD (x28).toNat (0, 0)).2)).bind fun r2 => (if r2.1 = true then some (5, ()) else (g_l0 y1_0 y1_1 y1_2 x27 (w64 (x28 + 1))))) else none) else none))) else none) else none) else (g_l2 y1_0 y1_1 y1_2 (y1_1.length : Int) 0))
def f33_l2_B (k : Nat) (g_r14 : (List (Int × Int)) → (List (Int × (Int × (Int × Int)))) → (List (Int × Int)) → Int → Int → Int → Int → Int → Int → Bool → Option (Int × Unit)) (g_l4 : (List (Int × Int)) → (List (Int × (Int × (Int × Int)))) → (List (Int × Int)) → Int → Int → Option (Int × Unit)) (y1_0 : (List (Int × Int))) (y1_1 : (List (Int × (Int × (Int × Int))))) (y1_2 : (List (Int × Int))) (x45 : Int) (x46 : Int) : Option (Int × Unit) := (if x46 < x45 then (if 0 ≤ x46 then (if x46 < (y1_1.length : Int) then ((f68 k (y1_0, (y1_1, y1_2)) ((y1_1.getD (x46).toNat (0, (0, (0, 0)))).1)).bind fun r1 => (if ¬ (r1.1 = true) then (g_r14 y1_0 y1_1 y1_2 ((y1_1.getD (x46).toNat (0, (0, (0, 0)))).1) (((y1_1.getD (x46).toNat (0, (0, (0, 0)))).2).1) ((((y1_1.getD (x46).toNat (0, (0, (0, 0)))).2).2).1) ((((y1_1.getD (x46).toNat (0, (0, (0, 0)))).2).2).2) x45 x46 true) else ((f68 k (y1_0, (y1_1, y1_2)) (((y1_1.getD (x46).toNat (0, (0, (0, 0)))).2).1)).bind fun r2 => (if ¬ (r2.1 = true) then (g_r14 y1_0 y1_1 y1_2 ((y1_1.getD (x46).toNat (0, (0, (0, 0)))).1) (((y1_1.getD (x46).toNat (0, (0, (0, 0)))).2).1) ((((y1_1.getD (x46).toNat (0, (0, (0, 0)))).2).2).1) ((((y1_1.getD (x46).toNat (0, (0, (0, 0)))).2).2).2) x45 x46 true) else (if ((((y1_1.getD (x46).toNat (0, (0, (0, 0)))).2).2).1) < 0 then (g_r14 y1_0 y1_1 y1_2 ((y1_1.getD (x46).toNat (0, (0, (0, 0)))).1) (((y1_1.getD (x46).toNat (0, (0, (0, 0)))).2).1) ((((y1_1.getD (x46).toNat (0, (0, (0, 0)))).2).2).1) ((((y1_1.getD (x46).toNat (0, (0, (0, 0)))).2).2).2) x45 x46 true) else (g_r14 y1_0 y1_1 y1_2 ((y1_1.getD (x46).toNat (0, (0, (0, 0)))).1) (((y1_1.getD (x46).toNat (0, (0, (0, 0)))).2).1) ((((y1_1.getD (x46).toNat (0, (0, (0, 0)))).2).2).1) ((((y1_1.getD (x46).toNat (0, (0, (0, 0)))).2).2).2) x45 x46 (decide (1099511627776 < ((((y1_1.getD (x46).toNat (0, (0, (0, 0)))).2).2).1))))))))) else none) else none) else (g_l4 y1_0 y1_1 y1_2 (y1_2.length : Int) 0))
def f33_r14_B (k : Nat) (g_l2 : (List (Int × Int)) → (List (Int × (Int × (Int × Int)))) → (List (Int × Int)) → Int → Int → Option (Int × Unit)) (y1_0 : (List (Int × Int))) (y1_1 : (List (Int × (Int × (Int × Int))))) (y1_2 : (List (Int × Int))) (y6_0 : Int) (y6_1 : Int) (y6_2 : Int) (y6_3 : Int) (x45 : Int) (x46 : Int) (x71 : Bool) : Option (Int × Unit) := (if x71 = true then some (1, ()) else (if y6_0 = y6_1 then some (11, ()) else (g_l2 y1_0 y1_1 y1_2 x45 (w64 (x46 + 1)))))
def f33_l4_B (k : Nat) (g_r22 : (List (Int × Int)) → (List (Int × (Int × (Int × Int)))) → (List (Int × Int)) → Int → Int → Int → Int → Bool → Option (Int × Unit)) (y1_0 : (List (Int × Int))) (y1_1 : (List (Int × (Int × (Int × Int))))) (y1_2 : (List (Int × Int))) (x80 : Int) (x81 : Int) : Option (Int × Unit) := (if x81 < x80 then (if 0 ≤ x81 then (if x81 < (y1_2.length : Int) then ((f69 k (y1_0, (y1_1, y1_2)) ((y1_2.getD (x81).toNat (0, 0)).1)).bind fun r1 => (if ¬ (r1.1 = true) then (g_r22 y1_0 y1_1 y1_2 ((y1_2.getD (x81).toNat (0, 0)).1) ((y1_2.getD (x81).toNat (0, 0)).2) x81 x80 true) else ((f69 k (y1_0, (y1_1, y1_2)) ((y1_2.getD (x81).toNat (0, 0)).2)).bind fun r2 => (g_r22 y1_0 y1_1 y1_2 ((y1_2.getD (x81).toNat (0, 0)).1) ((y1_2.getD (x81).toNat (0, 0)).2) x81 x80 (decide (¬ (r2.1 = true))))))) else none) else none) else some (0, ()))
def f33_r22_B (k : Nat) (g_l4 : (List (Int × Int)) → (List (Int × (Int × (Int × Int)))) → (List (Int × Int)) → Int → Int → Option (Int × Unit)) (y1_0 : (List (Int × Int))) (y1_1 : (List (Int × (Int × (Int × Int))))) (y1_2 : (List (Int × Int))) (y8_0 : Int) (y8_1 : Int) (x7 : Int) (x80 : Int) (x97 : Bool) : Option (Int × Unit) := (if x97 = true then some (1, ()) else (if 0 ≤ y8_0 then (if y8_0 < (y1_1.length : Int) then (if 0 ≤ y8_1 then (if y8_1 < (y1_1.length : Int) then (if ¬ ((((y1_1.getD (y8_0).toNat (0, (0, (0, 0)))).2).1) = ((y1_1.getD (y8_1).toNat (0, (0, (0, 0)))).1)) then some (9, ()) else (if 0 ≤ x7 then (if x7 ≤ (y1_2.length : Int) then ((f70 k (y1_2.take (x7).toNat) (y8_0, y8_1)).bind fun r1 => (if r1.1 = true then some (5, ()) else (g_l4 y1_0 y1_1 y1_2 x80 (w64 (x7 + 1))))) else none) else none)) else none) else none) else none) else none))
theorem f33_r14_P (k : Nat) (G_l2 : f33_S) (G_l4 : f33_S) (y1_0 : (List (Int × Int))) (y1_1 : (List (Int × (Int × (Int × Int))))) (y1_2 : (List (Int × Int))) (y6_0 : Int) (y6_1 : Int) (y6_2 : Int) (y6_3 : Int) (x45 : Int) (x46 : Int) (x71 : Bool) : f33_a k (f33_F_r14 k G_l2 G_l4) .nx (f33_s_r14 y1_0 y1_1 y1_2 y6_0 y6_1 y6_2 y6_3 x45 x46 x71) = f33_r14_B k (fun y1_0 y1_1 y1_2 x45 x46 => G_l2 (f33_s_l2 y1_0 y1_1 y1_2 x45 x46)) y1_0 y1_1 y1_2 y6_0 y6_1 y6_2 y6_3 x45 x46 x71 := by kernel_rfl
def f33_r14 (k : Nat) (r_l2 : (List (Int × Int)) → (List (Int × (Int × (Int × Int)))) → (List (Int × Int)) → Int → Int → Option (Int × Unit)) (y1_0 : (List (Int × Int))) (y1_1 : (List (Int × (Int × (Int × Int))))) (y1_2 : (List (Int × Int))) (y6_0 : Int) (y6_1 : Int) (y6_2 : Int) (y6_3 : Int) (x45 : Int) (x46 : Int) (x71 : Bool) : Option (Int × Unit) := f33_r14_B k r_l2 y1_0 y1_1 y1_2 y6_0 y6_1 y6_2 y6_3 x45 x46 x71
theorem f33_r14_E (k : Nat) (R_l2 : f33_S) (r_l2 : (List (Int × Int)) → (List (Int × (Int × (Int × Int)))) → (List (Int × Int)) → Int → Int → Option (Int × Unit)) (h_l2 : ∀ (y1_0 : (List (Int × Int))) (y1_1 : (List (Int × (Int × (Int × Int))))) (y1_2 : (List (Int × Int))) (x45 : Int) (x46 : Int), R_l2 (f33_s_l2 y1_0 y1_1 y1_2 x45 x46) = r_l2 y1_0 y1_1 y1_2 x45 x46) (y1_0 : (List (Int × Int))) (y1_1 : (List (Int × (Int × (Int × Int))))) (y1_2 : (List (Int × Int))) (y6_0 : Int) (y6_1 : Int) (y6_2 : Int) (y6_3 : Int) (x45 : Int) (x46 : Int) (x71 : Bool) : f33_C_r14 k R_l2 (f33_s_r14 y1_0 y1_1 y1_2 y6_0 y6_1 y6_2 y6_3 x45 x46 x71) = f33_r14 k r_l2 y1_0 y1_1 y1_2 y6_0 y6_1 y6_2 y6_3 x45 x46 x71 := by
  refine Eq.trans (ap_at (f33_f_r14 k R_l2) _) ((f33_r14_P k R_l2 (f33_C_l4 k k) y1_0 y1_1 y1_2 y6_0 y6_1 y6_2 y6_3 x45 x46 x71).trans ?_)
  have e_l2 : (fun y1_0 y1_1 y1_2 x45 x46 => R_l2 (f33_s_l2 y1_0 y1_1 y1_2 x45 x46)) = r_l2 := funext fun y1_0 => funext fun y1_1 => funext fun y1_2 => funext fun x45 => funext fun x46 => h_l2 y1_0 y1_1 y1_2 x45 x46
  rw [e_l2]
  rfl
theorem f33_r22_P (k : Nat) (G_l4 : f33_S) (y1_0 : (List (Int × Int))) (y1_1 : (List (Int × (Int × (Int × Int))))) (y1_2 : (List (Int × Int))) (y8_0 : Int) (y8_1 : Int) (x7 : Int) (x80 : Int) (x97 : Bool) : f33_a k (f33_F_r22 k G_l4) .nx (f33_s_r22 y1_0 y1_1 y1_2 y8_0 y8_1 x7 x80 x97) = f33_r22_B k (fun y1_0 y1_1 y1_2 x80 x81 => G_l4 (f33_s_l4 y1_0 y1_1 y1_2 x80 x81)) y1_0 y1_1 y1_2 y8_0 y8_1 x7 x80 x97 := by kernel_rfl
def f33_r22 (k : Nat) (r_l4 : (List (Int × Int)) → (List (Int × (Int × (Int × Int)))) → (List (Int × Int)) → Int → Int → Option (Int × Unit)) (y1_0 : (List (Int × Int))) (y1_1 : (List (Int × (Int × (Int × Int))))) (y1_2 : (List (Int × Int))) (y8_0 : Int) (y8_1 : Int) (x7 : Int) (x80 : Int) (x97 : Bool) : Option (Int × Unit) := f33_r22_B k r_l4 y1_0 y1_1 y1_2 y8_0 y8_1 x7 x80 x97
theorem f33_r22_E (k : Nat) (R_l4 : f33_S) (r_l4 : (List (Int × Int)) → (List (Int × (Int × (Int × Int)))) → (List (Int × Int)) → Int → Int → Option (Int × Unit)) (h_l4 : ∀ (y1_0 : (List (Int × Int))) (y1_1 : (List (Int × (Int × (Int × Int))))) (y1_2 : (List (Int × Int))) (x80 : Int) (x81 : Int), R_l4 (f33_s_l4 y1_0 y1_1 y1_2 x80 x81) = r_l4 y1_0 y1_1 y1_2 x80 x81) (y1_0 : (List (Int × Int))) (y1_1 : (List (Int × (Int × (Int × Int))))) (y1_2 : (List (Int × Int))) (y8_0 : Int) (y8_1 : Int) (x7 : Int) (x80 : Int) (x97 : Bool) : f33_C_r22 k R_l4 (f33_s_r22 y1_0 y1_1 y1_2 y8_0 y8_1 x7 x80 x97) = f33_r22 k r_l4 y1_0 y1_1 y1_2 y8_0 y8_1 x7 x80 x97 := by
  refine Eq.trans (ap_at (f33_f_r22 k R_l4) _) ((f33_r22_P k R_l4 y1_0 y1_1 y1_2 y8_0 y8_1 x7 x80 x97).trans ?_)
  have e_l4 : (fun y1_0 y1_1 y1_2 x80 x81 => R_l4 (f33_s_l4 y1_0 y1_1 y1_2 x80 x81)) = r_l4 := funext fun y1_0 => funext fun y1_1 => funext fun y1_2 => funext fun x80 => funext fun x81 => h_l4 y1_0 y1_1 y1_2 x80 x81
  rw [e_l4]
  rfl
theorem f33_l4_P (k : Nat) (G_l4 : f33_S) (G_r22 : f33_S) (y1_0 : (List (Int × Int))) (y1_1 : (List (Int × (Int × (Int × Int))))) (y1_2 : (List (Int × Int))) (x80 : Int) (x81 : Int) : f33_a k (f33_F_l4 k G_l4 G_r22) .nx (f33_s_l4 y1_0 y1_1 y1_2 x80 x81) = f33_l4_B k (fun y1_0 y1_1 y1_2 y8_0 y8_1 x7 x80 x97 => G_r22 (f33_s_r22 y1_0 y1_1 y1_2 y8_0 y8_1 x7 x80 x97)) y1_0 y1_1 y1_2 x80 x81 := by kernel_rfl
def f33_l4 (k : Nat) : Nat → (List (Int × Int)) → (List (Int × (Int × (Int × Int)))) → (List (Int × Int)) → Int → Int → Option (Int × Unit)
  | 0, _, _, _, _, _ => none
  | n + 1, y1_0, y1_1, y1_2, x80, x81 => f33_l4_B k (f33_r22 k (fun y1_0 y1_1 y1_2 x80 x81 => f33_l4 k n y1_0 y1_1 y1_2 x80 x81)) y1_0 y1_1 y1_2 x80 x81
theorem f33_l4_E (k : Nat) : ∀ (n : Nat) (y1_0 : (List (Int × Int))) (y1_1 : (List (Int × (Int × (Int × Int))))) (y1_2 : (List (Int × Int))) (x80 : Int) (x81 : Int), f33_C_l4 k n (f33_s_l4 y1_0 y1_1 y1_2 x80 x81) = f33_l4 k n y1_0 y1_1 y1_2 x80 x81
  | 0, _, _, _, _, _ => rfl
  | n + 1, y1_0, y1_1, y1_2, x80, x81 => by
    refine Eq.trans (show _ = f33_a k (f33_Q_l4 k (f33_C_l4 k n)) .nx (f33_s_l4 y1_0 y1_1 y1_2 x80 x81) by kernel_rfl) (Eq.trans (ap_at (f33_f_l4 k (f33_C_l4 k n)) _) ((f33_l4_P k (f33_C_l4 k n) (f33_C_r22 k (f33_C_l4 k n)) y1_0 y1_1 y1_2 x80 x81).trans ?_))
    have e_r22 : (fun y1_0 y1_1 y1_2 y8_0 y8_1 x7 x80 x97 => (f33_C_r22 k (f33_C_l4 k n)) (f33_s_r22 y1_0 y1_1 y1_2 y8_0 y8_1 x7 x80 x97)) = (f33_r22 k (fun y1_0 y1_1 y1_2 x80 x81 => f33_l4 k n y1_0 y1_1 y1_2 x80 x81)) := funext fun y1_0 => funext fun y1_1 => funext fun y1_2 => funext fun y8_0 => funext fun y8_1 => funext fun x7 => funext fun x80 => funext fun x97 => f33_r22_E k (f33_C_l4 k n) (fun y1_0 y1_1 y1_2 x80 x81 => f33_l4 k n y1_0 y1_1 y1_2 x80 x81) (fun y1_0 y1_1 y1_2 x80 x81 => f33_l4_E k n y1_0 y1_1 y1_2 x80 x81)  y1_0 y1_1 y1_2 y8_0 y8_1 x7 x80 x97
    rw [e_r22]
    rfl
theorem f33_l2_P (k : Nat) (G_l2 : f33_S) (G_r14 : f33_S) (G_l4 : f33_S) (y1_0 : (List (Int × Int))) (y1_1 : (List (Int × (Int × (Int × Int))))) (y1_2 : (List (Int × Int))) (x45 : Int) (x46 : Int) : f33_a k (f33_F_l2 k G_l2 G_r14 G_l4) .nx (f33_s_l2 y1_0 y1_1 y1_2 x45 x46) = f33_l2_B k (fun y1_0 y1_1 y1_2 y6_0 y6_1 y6_2 y6_3 x45 x46 x71 => G_r14 (f33_s_r14 y1_0 y1_1 y1_2 y6_0 y6_1 y6_2 y6_3 x45 x46 x71)) (fun y1_0 y1_1 y1_2 x80 x81 => G_l4 (f33_s_l4 y1_0 y1_1 y1_2 x80 x81)) y1_0 y1_1 y1_2 x45 x46 := by kernel_rfl
def f33_l2 (k : Nat) : Nat → (List (Int × Int)) → (List (Int × (Int × (Int × Int)))) → (List (Int × Int)) → Int → Int → Option (Int × Unit)
  | 0, _, _, _, _, _ => none
  | n + 1, y1_0, y1_1, y1_2, x45, x46 => f33_l2_B k (f33_r14 k (fun y1_0 y1_1 y1_2 x45 x46 => f33_l2 k n y1_0 y1_1 y1_2 x45 x46)) (f33_l4 k k) y1_0 y1_1 y1_2 x45 x46
theorem f33_l2_E (k : Nat) : ∀ (n : Nat) (y1_0 : (List (Int × Int))) (y1_1 : (List (Int × (Int × (Int × Int))))) (y1_2 : (List (Int × Int))) (x45 : Int) (x46 : Int), f33_C_l2 k n (f33_s_l2 y1_0 y1_1 y1_2 x45 x46) = f33_l2 k n y1_0 y1_1 y1_2 x45 x46
  | 0, _, _, _, _, _ => rfl
  | n + 1, y1_0, y1_1, y1_2, x45, x46 => by
    refine Eq.trans (show _ = f33_a k (f33_Q_l2 k (f33_C_l2 k n)) .nx (f33_s_l2 y1_0 y1_1 y1_2 x45 x46) by kernel_rfl) (Eq.trans (ap_at (f33_f_l2 k (f33_C_l2 k n)) _) ((f33_l2_P k (f33_C_l2 k n) (f33_C_r14 k (f33_C_l2 k n)) (f33_C_l4 k k) y1_0 y1_1 y1_2 x45 x46).trans ?_))
    have e_r14 : (fun y1_0 y1_1 y1_2 y6_0 y6_1 y6_2 y6_3 x45 x46 x71 => (f33_C_r14 k (f33_C_l2 k n)) (f33_s_r14 y1_0 y1_1 y1_2 y6_0 y6_1 y6_2 y6_3 x45 x46 x71)) = (f33_r14 k (fun y1_0 y1_1 y1_2 x45 x46 => f33_l2 k n y1_0 y1_1 y1_2 x45 x46)) := funext fun y1_0 => funext fun y1_1 => funext fun y1_2 => funext fun y6_0 => funext fun y6_1 => funext fun y6_2 => funext fun y6_3 => funext fun x45 => funext fun x46 => funext fun x71 => f33_r14_E k (f33_C_l2 k n) (fun y1_0 y1_1 y1_2 x45 x46 => f33_l2 k n y1_0 y1_1 y1_2 x45 x46) (fun y1_0 y1_1 y1_2 x45 x46 => f33_l2_E k n y1_0 y1_1 y1_2 x45 x46)  y1_0 y1_1 y1_2 y6_0 y6_1 y6_2 y6_3 x45 x46 x71
    have e_l4 : (fun y1_0 y1_1 y1_2 x80 x81 => (f33_C_l4 k k) (f33_s_l4 y1_0 y1_1 y1_2 x80 x81)) = (f33_l4 k k) := funext fun y1_0 => funext fun y1_1 => funext fun y1_2 => funext fun x80 => funext fun x81 => f33_l4_E k  k y1_0 y1_1 y1_2 x80 x81
    rw [e_r14, e_l4]
    rfl
theorem f33_l0_P (k : Nat) (G_l0 : f33_S) (G_l2 : f33_S) (G_l4 : f33_S) (y1_0 : (List (Int × Int))) (y1_1 : (List (Int × (Int × (Int × Int))))) (y1_2 : (List (Int × Int))) (x27 : Int) (x28 : Int) : f33_a k (f33_F_l0 k G_l0 G_l2 G_l4) .nx (f33_s_l0 y1_0 y1_1 y1_2 x27 x28) = f33_l0_B k (fun y1_0 y1_1 y1_2 x27 x28 => G_l0 (f33_s_l0 y1_0 y1_1 y1_2 x27 x28)) (fun y1_0 y1_1 y1_2 x45 x46 => G_l2 (f33_s_l2 y1_0 y1_1 y1_2 x45 x46)) y1_0 y1_1 y1_2 x27 x28 := by kernel_rfl
def f33_l0 (k : Nat) : Nat → (List (Int × Int)) → (List (Int × (Int × (Int × Int)))) → (List (Int × Int)) → Int → Int → Option (Int × Unit)
  | 0, _, _, _, _, _ => none
  | n + 1, y1_0, y1_1, y1_2, x27, x28 => f33_l0_B k (fun y1_0 y1_1 y1_2 x27 x28 => f33_l0 k n y1_0 y1_1 y1_2 x27 x28) (f33_l2 k k) y1_0 y1_1 y1_2 x27 x28
theorem f33_l0_E (k : Nat) : ∀ (n : Nat) (y1_0 : (List (Int × Int))) (y1_1 : (List (Int × (Int × (Int × Int))))) (y1_2 : (List (Int × Int))) (x27 : Int) (x28 : Int), f33_C_l0 k n (f33_s_l0 y1_0 y1_1 y1_2 x27 x28) = f33_l0 k n y1_0 y1_1 y1_2 x27 x28
  | 0, _, _, _, _, _ => rfl
  | n + 1, y1_0, y1_1, y1_2, x27, x28 => by
    refine Eq.trans (show _ = f33_a k (f33_Q_l0 k (f33_C_l0 k n)) .nx (f33_s_l0 y1_0 y1_1 y1_2 x27 x28) by kernel_rfl) (Eq.trans (ap_at (f33_f_l0 k (f33_C_l0 k n)) _) ((f33_l0_P k (f33_C_l0 k n) (f33_C_l2 k k) (f33_C_l4 k k) y1_0 y1_1 y1_2 x27 x28).trans ?_))
    have e_l0 : (fun y1_0 y1_1 y1_2 x27 x28 => (f33_C_l0 k n) (f33_s_l0 y1_0 y1_1 y1_2 x27 x28)) = (fun y1_0 y1_1 y1_2 x27 x28 => f33_l0 k n y1_0 y1_1 y1_2 x27 x28) := funext fun y1_0 => funext fun y1_1 => funext fun y1_2 => funext fun x27 => funext fun x28 => f33_l0_E k n y1_0 y1_1 y1_2 x27 x28
    have e_l2 : (fun y1_0 y1_1 y1_2 x45 x46 => (f33_C_l2 k k) (f33_s_l2 y1_0 y1_1 y1_2 x45 x46)) = (f33_l2 k k) := funext fun y1_0 => funext fun y1_1 => funext fun y1_2 => funext fun x45 => funext fun x46 => f33_l2_E k  k y1_0 y1_1 y1_2 x45 x46
    rw [e_l0, e_l2]
    rfl
theorem f33_r1_P (k : Nat) (G_l0 : f33_S) (G_l2 : f33_S) (G_l4 : f33_S) (y1_0 : (List (Int × Int))) (y1_1 : (List (Int × (Int × (Int × Int))))) (y1_2 : (List (Int × Int))) (x24 : Bool) : f33_a k (f33_F_r1 k G_l0 G_l2 G_l4) .nx (f33_s_r1 y1_0 y1_1 y1_2 x24) = f33_r1_B k (fun y1_0 y1_1 y1_2 x27 x28 => G_l0 (f33_s_l0 y1_0 y1_1 y1_2 x27 x28)) y1_0 y1_1 y1_2 x24 := by kernel_rfl
def f33_r1 (k : Nat) (y1_0 : (List (Int × Int))) (y1_1 : (List (Int × (Int × (Int × Int))))) (y1_2 : (List (Int × Int))) (x24 : Bool) : Option (Int × Unit) := f33_r1_B k (f33_l0 k k) y1_0 y1_1 y1_2 x24
theorem f33_r1_E (k : Nat) (y1_0 : (List (Int × Int))) (y1_1 : (List (Int × (Int × (Int × Int))))) (y1_2 : (List (Int × Int))) (x24 : Bool) : f33_C_r1 k (f33_s_r1 y1_0 y1_1 y1_2 x24) = f33_r1 k y1_0 y1_1 y1_2 x24 := by
  refine Eq.trans (ap_at (f33_f_r1 k) _) ((f33_r1_P k (f33_C_l0 k k) (f33_C_l2 k k) (f33_C_l4 k k) y1_0 y1_1 y1_2 x24).trans ?_)
  have e_l0 : (fun y1_0 y1_1 y1_2 x27 x28 => (f33_C_l0 k k) (f33_s_l0 y1_0 y1_1 y1_2 x27 x28)) = (f33_l0 k k) := funext fun y1_0 => funext fun y1_1 => funext fun y1_2 => funext fun x27 => funext fun x28 => f33_l0_E k  k y1_0 y1_1 y1_2 x27 x28
  rw [e_l0]
  rfl
theorem f33_entry_P (k : Nat) (G_r1 : f33_S) (G_l0 : f33_S) (G_l2 : f33_S) (G_l4 : f33_S) (xs : DL f33_sig) : f33_a k (.c (sub f33_c [0]) 0 :: .c (sub f33_c [1, 0, 0]) 0 :: .j G_r1 :: f33_F_r1 k G_l0 G_l2 G_l4) .nx (σ0 120 360 f33_sig xs) = f33_entry_B k (fun y1_0 y1_1 y1_2 x24 => G_r1 (f33_s_r1 y1_0 y1_1 y1_2 x24)) xs.1 := by kernel_rfl
theorem f33_f_entry (k : Nat) : f33_a k [.c f33_c 0] = f33_a k (.c (sub f33_c [0]) 0 :: .c (sub f33_c [1, 0, 0]) 0 :: .j (f33_C_r1 k) :: f33_F_r1 k (f33_C_l0 k k) (f33_C_l2 k k) (f33_C_l4 k k)) := (Eq.trans (ap_seq f33_h) (ap_cons _ (Eq.trans (ap_seq f33_h1) (Eq.trans (ap_seq f33_h1_0) (ap_cons _ (Eq.trans (ap_pass (C := (f33_C_r1 k)) (fun _ => rfl)) (ap_cons _ (f33_f_r1 k))))))))
def f33 (k : Nat) (a0 : ((List (Int × Int)) × ((List (Int × (Int × (Int × Int)))) × (List (Int × Int))))) : Option (Int × Unit) := f33_entry_B k (f33_r1 k) a0
theorem f33_eq (k : Nat) (xs : DL f33_sig) : den T f33_Y (f33_E k) f33_A k f33_c 0 (σ0 120 360 f33_sig xs) (Kfin T f33_rs f33_ts) = f33 k xs.1 := by
  refine Eq.trans den_ap (Eq.trans (ap_at (f33_f_entry k) _) ((f33_entry_P k (f33_C_r1 k) (f33_C_l0 k k) (f33_C_l2 k k) (f33_C_l4 k k) xs).trans ?_))
  have e_r1 : (fun y1_0 y1_1 y1_2 x24 => (f33_C_r1 k) (f33_s_r1 y1_0 y1_1 y1_2 x24)) = (f33_r1 k) := funext fun y1_0 => funext fun y1_1 => funext fun y1_2 => funext fun x24 => f33_r1_E k   y1_0 y1_1 y1_2 x24
  rw [e_r1]
  rfl
noncomputable def f33_con (k : Nat) : Con := ⟨f33_sig, f33_rs, fun xs => f33 k xs.1⟩
theorem f33_ok (k : Nat) : PureOK Try.prog 33 f33_sig f33_rs (fun xs => f33 k xs.1) :=
  (pure_of_den (k := k) (A := f33_A) (T := T) (Y := f33_Y) (E := f33_E k) (M := 360) (ts := f33_ts) T_ok ⟨f66_ok k, f67_ok k, f68_ok k, f69_ok k, f70_ok k, trivial⟩ ⟨f66_ent, f67_ent, f68_ent, f69_ent, f70_ent, trivial⟩ mixed (f := 33) (fn := Try.f33) (c := f33_c) (by kernel_rfl) (by kernel_rfl) (by kernel_rfl) (by decide) (by kernel_rfl)).congr fun xs => (f33_eq k xs).symm
theorem f33_ent : Ent Try.prog 33 := fun args w => by kernel_rfl
/-! ### terrier/net.Turn: function 38 -/
noncomputable def f38_c : Code := Try.f38.body.getD .skip
abbrev f38_sig : List PT := [(true, (.pair (.sl false (.pair (.int .i64) (.int .i64))) (.pair (.sl false (.pair (.int .i64) (.pair (.int .i64) (.pair (.int .i64) (.int .i64))))) (.sl false (.pair (.int .i64) (.int .i64)))))), (false, (.int .i64)), (false, (.int .i64))]
abbrev f38_rs : List RT := [.d false .bool]
abbrev f38_ts : List RV := [.tmp 6]
abbrev f38_S := St → Option (RDL f38_rs)
def f38_Y : Tys := []
noncomputable def f38_E (k : Nat) : Env := [(69, .c (f69_con k)), (70, .c (f70_con k))]
def f38_A : Ann := { regs := [(1, { slots := [(6, .bool)] })] }
noncomputable abbrev f38_a (k : Nat) (F : List (Fr (RDL f38_rs))) : Kont (RDL f38_rs) := ap T f38_Y (f38_E k) f38_A k (Kfin T f38_rs f38_ts) F
def f38_s_r1 (x6 : Bool) : St := mkS 39 118 [(6, .cp (.one (.prop (x6 = true) inferInstance)))] []
noncomputable def f38_Q_r1 (k : Nat) : List (Fr (RDL f38_rs)) := [.c (sub f38_c [1, 1]) 0]
noncomputable def f38_C_r1 (k : Nat) : f38_S := fun σ => f38_a k (f38_Q_r1 k) .nx σ
theorem f38_h1 : (sub f38_c [1]) = .seq (sub f38_c [1, 0]) (sub f38_c [1, 1]) := by kernel_rfl
theorem f38_h : f38_c = .seq (sub f38_c [0]) (sub f38_c [1]) := by kernel_rfl
noncomputable def f38_F_r1 (k : Nat) : List (Fr (RDL f38_rs)) := .c (sub f38_c [1, 1]) 0 :: []
theorem f38_f_r1 (k : Nat) : f38_a k (f38_Q_r1 k) = f38_a k (f38_F_r1 k) := (ap_cons _ rfl)
def f38_entry_B (k : Nat) (g_r1 : Bool → Option (Bool × Unit)) (a0 : ((List (Int × Int)) × ((List (Int × (Int × (Int × Int)))) × (List (Int × Int))))) (a1 : Int) (a2 : Int) : Option (Bool × Unit) := ((f69 k (a0.1, (a0.2.1, a0.2.2)) a1).bind fun r1 => (if r1.1 = true then ((f69 k (a0.1, (a0.2.1, a0.2.2)) a2).bind fun r2 => (if r2.1 = true then (if 0 ≤ a1 then (if a1 < (a0.2.1.length : Int) then (if 0 ≤ a2 then (if a2 < (a0.2.1.length : Int) then (if (((a0.2.1.getD (a1).toNat (0, (0, (0, 0)))).2).1) = ((a0.2.1.getD (a2).toNat (0, (0, (0, 0)))).1) then ((f70 k a0.2.2 (a1, a2)).bind fun r3 => (g_r1 (decide (¬ (r3.1 = true))))) else (g_r1 false)) else none) else none) else none) else none) else (g_r1 false))) else (g_r1 false)))
def f38_r1_B (k : Nat) (x6 : Bool) : Option (Bool × Unit) := some (decide (x6 = true), ())
theorem f38_r1_P (k : Nat) (x6 : Bool) : f38_a k (f38_F_r1 k) .nx (f38_s_r1 x6) = f38_r1_B k  x6 := by kernel_rfl
def f38_r1 (k : Nat) (x6 : Bool) : Option (Bool × Unit) := f38_r1_B k  x6
theorem f38_r1_E (k : Nat) (x6 : Bool) : f38_C_r1 k (f38_s_r1 x6) = f38_r1 k x6 := by
  refine Eq.trans (ap_at (f38_f_r1 k) _) ((f38_r1_P k  x6).trans ?_)
  rfl
theorem f38_entry_P (k : Nat) (G_r1 : f38_S) (xs : DL f38_sig) : f38_a k (.c (sub f38_c [0]) 0 :: .c (sub f38_c [1, 0]) 0 :: .j G_r1 :: f38_F_r1 k) .nx (σ0 39 118 f38_sig xs) = f38_entry_B k (fun x6 => G_r1 (f38_s_r1 x6)) xs.1 xs.2.1 xs.2.2.1 := by kernel_rfl
theorem f38_f_entry (k : Nat) : f38_a k [.c f38_c 0] = f38_a k (.c (sub f38_c [0]) 0 :: .c (sub f38_c [1, 0]) 0 :: .j (f38_C_r1 k) :: f38_F_r1 k) := (Eq.trans (ap_seq f38_h) (ap_cons _ (Eq.trans (ap_seq f38_h1) (ap_cons _ (Eq.trans (ap_pass (C := (f38_C_r1 k)) (fun _ => rfl)) (ap_cons _ (f38_f_r1 k)))))))
def f38 (k : Nat) (a0 : ((List (Int × Int)) × ((List (Int × (Int × (Int × Int)))) × (List (Int × Int))))) (a1 : Int) (a2 : Int) : Option (Bool × Unit) := f38_entry_B k (f38_r1 k) a0 a1 a2
theorem f38_eq (k : Nat) (xs : DL f38_sig) : den T f38_Y (f38_E k) f38_A k f38_c 0 (σ0 39 118 f38_sig xs) (Kfin T f38_rs f38_ts) = f38 k xs.1 xs.2.1 xs.2.2.1 := by
  refine Eq.trans den_ap (Eq.trans (ap_at (f38_f_entry k) _) ((f38_entry_P k (f38_C_r1 k) xs).trans ?_))
  have e_r1 : (fun x6 => (f38_C_r1 k) (f38_s_r1 x6)) = (f38_r1 k) := funext fun x6 => f38_r1_E k   x6
  rw [e_r1]
  rfl
noncomputable def f38_con (k : Nat) : Con := ⟨f38_sig, f38_rs, fun xs => f38 k xs.1 xs.2.1 xs.2.2.1⟩
theorem f38_ok (k : Nat) : PureOK Try.prog 38 f38_sig f38_rs (fun xs => f38 k xs.1 xs.2.1 xs.2.2.1) :=
  (pure_of_den (k := k) (A := f38_A) (T := T) (Y := f38_Y) (E := f38_E k) (M := 118) (ts := f38_ts) T_ok ⟨f69_ok k, f70_ok k, trivial⟩ ⟨f69_ent, f70_ent, trivial⟩ mixed (f := 38) (fn := Try.f38) (c := f38_c) (by kernel_rfl) (by kernel_rfl) (by kernel_rfl) (by decide) (by kernel_rfl)).congr fun xs => (f38_eq k xs).symm
theorem f38_ent : Ent Try.prog 38 := fun args w => by kernel_rfl
/-! ### terrier/net.Cost: function 40 -/
noncomputable def f40_c : Code := Try.f40.body.getD .skip
abbrev f40_sig : List PT := [(true, (.pair (.sl false (.pair (.int .i64) (.int .i64))) (.pair (.sl false (.pair (.int .i64) (.pair (.int .i64) (.pair (.int .i64) (.int .i64))))) (.sl false (.pair (.int .i64) (.int .i64)))))), (false, (.sl false (.int .i64)))]
abbrev f40_rs : List RT := [.d false (.int .i64), .d false (.int .i64)]
abbrev f40_ts : List RV := [.tmp 4, .tmp 5]
abbrev f40_S := St → Option (RDL f40_rs)
def f40_Y : Tys := []
noncomputable def f40_E (k : Nat) : Env := [(33, .c (f33_con k)), (38, .c (f38_con k)), (69, .c (f69_con k))]
def f40_A : Ann := { loops := [(0, { slots := [(1, .val false (.int .i64)), (2, .id), (7, .id), (15, .val false (.int .i64)), (16, .id), (17, .id)], keys := [(2, [.val false (.pair (.int .i64) (.int .i64)), .val false (.pair (.int .i64) (.pair (.int .i64) (.pair (.int .i64) (.int .i64)))), .val false (.pair (.int .i64) (.int .i64))])] })], regs := [(10, { slots := [(1, .val false (.int .i64)), (2, .id), (7, .id), (8, .id), (9, .id), (15, .val false (.int .i64)), (16, .id), (17, .id), (46, .bool)], keys := [(2, [.val false (.pair (.int .i64) (.int .i64)), .val false (.pair (.int .i64) (.pair (.int .i64) (.pair (.int .i64) (.int .i64)))), .val false (.pair (.int .i64) (.int .i64))])] }), (12, { slots := [(1, .val false (.int .i64)), (2, .id), (7, .id), (9, .id), (15, .val false (.int .i64)), (16, .id), (17, .id), (59, .bool)], keys := [(2, [.val false (.pair (.int .i64) (.int .i64)), .val false (.pair (.int .i64) (.pair (.int .i64) (.pair (.int .i64) (.int .i64)))), .val false (.pair (.int .i64) (.int .i64))])] })] }
noncomputable abbrev f40_a (k : Nat) (F : List (Fr (RDL f40_rs))) : Kont (RDL f40_rs) := ap T f40_Y (f40_E k) f40_A k (Kfin T f40_rs f40_ts) F
def f40_s_l0 (y2_0 : (List (Int × Int))) (y2_1 : (List (Int × (Int × (Int × Int))))) (y2_2 : (List (Int × Int))) (x1 : (List Int)) (x16 : Int) (x17 : Int) (x7 : Int) : St := mkS 70 210 [(1, .cp (.one (.val false (.int .i64) x1))), (2, .cp (.one (.ptr 2 0))), (7, .cp (.one (.int .i64 x7))), (15, .cp (.one (.val false (.int .i64) x1))), (16, .cp (.one (.int .i64 x16))), (17, .cp (.one (.int .i64 x17)))] [(2, .box [.val false (.pair (.int .i64) (.int .i64)) y2_0, .val false (.pair (.int .i64) (.pair (.int .i64) (.pair (.int .i64) (.int .i64)))) y2_1, .val false (.pair (.int .i64) (.int .i64)) y2_2])]
noncomputable def f40_Q_l0 (k : Nat) (R_l0 : f40_S) : List (Fr (RDL f40_rs)) := [.c (sub f40_c [1, 1, 1, 0, 1, 0, 0]) 0, .j (fun σ => R_l0 (cut f40_A.loops 0 σ)), .blk 0, .c (sub f40_c [1, 1, 1, 1]) 0]
noncomputable def f40_C_l0 (k : Nat) (n : Nat) (σ : St) : Option (RDL f40_rs) := loopK (fun σ K => den T f40_Y (f40_E k) f40_A k (sub f40_c [1, 1, 1, 0, 1, 0, 0]) 0 σ K) (cut f40_A.loops 0) (f40_a k [.blk 0, .c (sub f40_c [1, 1, 1, 1]) 0]) n σ
def f40_s_r10 (y2_0 : (List (Int × Int))) (y2_1 : (List (Int × (Int × (Int × Int))))) (y2_2 : (List (Int × Int))) (x1 : (List Int)) (x16 : Int) (x17 : Int) (x46 : Bool) (x7 : Int) (x9 : Int) : St := mkS 70 210 [(1, .cp (.one (.val false (.int .i64) x1))), (2, .cp (.one (.ptr 2 0))), (7, .cp (.one (.int .i64 x7))), (8, .cp (.one (.int .i64 x17))), (9, .cp (.one (.int .i64 x9))), (15, .cp (.one (.val false (.int .i64) x1))), (16, .cp (.one (.int .i64 x16))), (17, .cp (.one (.int .i64 x17))), (46, .cp (.one (.prop (x46 = true) inferInstance)))] [(2, .box [.val false (.pair (.int .i64) (.int .i64)) y2_0, .val false (.pair (.int .i64) (.pair (.int .i64) (.pair (.int .i64) (.int .i64)))) y2_1, .val false (.pair (.int .i64) (.int .i64)) y2_2])]
noncomputable def f40_Q_r10 (k : Nat) (R_l0 : f40_S) : List (Fr (RDL f40_rs)) := [.c (sub f40_c [1, 1, 1, 0, 1, 0, 0, 1, 1, 0, 0, 1, 1, 0, 1]) 1, .c (sub f40_c [1, 1, 1, 0, 1, 0, 0, 1, 1, 0, 0, 1, 1, 1]) 1, .blk 1, .c (sub f40_c [1, 1, 1, 0, 1, 0, 0, 1, 1, 1]) 0, .j (fun σ => R_l0 (cut f40_A.loops 0 σ)), .blk 0, .c (sub f40_c [1, 1, 1, 1]) 0]
noncomputable def f40_C_r10 (k : Nat) (R_l0 : f40_S) : f40_S := fun σ => f40_a k (f40_Q_r10 k R_l0) .nx σ
def f40_s_r12 (y2_0 : (List (Int × Int))) (y2_1 : (List (Int × (Int × (Int × Int))))) (y2_2 : (List (Int × Int))) (x1 : (List Int)) (x16 : Int) (x17 : Int) (x59 : Bool) (x7 : Int) (x9 : Int) : St := mkS 70 210 [(1, .cp (.one (.val false (.int .i64) x1))), (2, .cp (.one (.ptr 2 0))), (7, .cp (.one (.int .i64 x7))), (9, .cp (.one (.int .i64 x9))), (15, .cp (.one (.val false (.int .i64) x1))), (16, .cp (.one (.int .i64 x16))), (17, .cp (.one (.int .i64 x17))), (59, .cp (.one (.prop (x59 = true) inferInstance)))] [(2, .box [.val false (.pair (.int .i64) (.int .i64)) y2_0, .val false (.pair (.int .i64) (.pair (.int .i64) (.pair (.int .i64) (.int .i64)))) y2_1, .val false (.pair (.int .i64) (.int .i64)) y2_2])]
noncomputable def f40_Q_r12 (k : Nat) (R_l0 : f40_S) : List (Fr (RDL f40_rs)) := [.c (sub f40_c [1, 1, 1, 0, 1, 0, 0, 1, 1, 0, 0, 1, 1, 1, 0, 1]) 1, .c (sub f40_c [1, 1, 1, 0, 1, 0, 0, 1, 1, 0, 0, 1, 1, 1, 1]) 1, .blk 1, .c (sub f40_c [1, 1, 1, 0, 1, 0, 0, 1, 1, 1]) 0, .j (fun σ => R_l0 (cut f40_A.loops 0 σ)), .blk 0, .c (sub f40_c [1, 1, 1, 1]) 0]
noncomputable def f40_C_r12 (k : Nat) (R_l0 : f40_S) : f40_S := fun σ => f40_a k (f40_Q_r12 k R_l0) .nx σ
theorem f40_h1_1_1_0_1_0_0_1_1_0_0_1_1_1_0 : (sub f40_c [1, 1, 1, 0, 1, 0, 0, 1, 1, 0, 0, 1, 1, 1, 0]) = .seq (sub f40_c [1, 1, 1, 0, 1, 0, 0, 1, 1, 0, 0, 1, 1, 1, 0, 0]) (sub f40_c [1, 1, 1, 0, 1, 0, 0, 1, 1, 0, 0, 1, 1, 1, 0, 1]) := by kernel_rfl
theorem f40_h1_1_1_0_1_0_0_1_1_0_0_1_1_1 : (sub f40_c [1, 1, 1, 0, 1, 0, 0, 1, 1, 0, 0, 1, 1, 1]) = .seq (sub f40_c [1, 1, 1, 0, 1, 0, 0, 1, 1, 0, 0, 1, 1, 1, 0]) (sub f40_c [1, 1, 1, 0, 1, 0, 0, 1, 1, 0, 0, 1, 1, 1, 1]) := by kernel_rfl
theorem f40_h1_1_1_0_1_0_0_1_1_0_0_1_1_0 : (sub f40_c [1, 1, 1, 0, 1, 0, 0, 1, 1, 0, 0, 1, 1, 0]) = .seq (sub f40_c [1, 1, 1, 0, 1, 0, 0, 1, 1, 0, 0, 1, 1, 0, 0]) (sub f40_c [1, 1, 1, 0, 1, 0, 0, 1, 1, 0, 0, 1, 1, 0, 1]) := by kernel_rfl
theorem f40_h1_1_1_0_1_0_0_1_1_0_0_1_1 : (sub f40_c [1, 1, 1, 0, 1, 0, 0, 1, 1, 0, 0, 1, 1]) = .seq (sub f40_c [1, 1, 1, 0, 1, 0, 0, 1, 1, 0, 0, 1, 1, 0]) (sub f40_c [1, 1, 1, 0, 1, 0, 0, 1, 1, 0, 0, 1, 1, 1]) := by kernel_rfl
theorem f40_h1_1_1_0_1_0_0_1_1_0_0_1 : (sub f40_c [1, 1, 1, 0, 1, 0, 0, 1, 1, 0, 0, 1]) = .seq (sub f40_c [1, 1, 1, 0, 1, 0, 0, 1, 1, 0, 0, 1, 0]) (sub f40_c [1, 1, 1, 0, 1, 0, 0, 1, 1, 0, 0, 1, 1]) := by kernel_rfl
theorem f40_h1_1_1_0_1_0_0_1_1_0_0 : (sub f40_c [1, 1, 1, 0, 1, 0, 0, 1, 1, 0, 0]) = .seq (sub f40_c [1, 1, 1, 0, 1, 0, 0, 1, 1, 0, 0, 0]) (sub f40_c [1, 1, 1, 0, 1, 0, 0, 1, 1, 0, 0, 1]) := by kernel_rfl
theorem f40_h1_1_1_0_1_0_0_1_1_0 : (sub f40_c [1, 1, 1, 0, 1, 0, 0, 1, 1, 0]) = .block 1 (sub f40_c [1, 1, 1, 0, 1, 0, 0, 1, 1, 0, 0]) := by kernel_rfl
theorem f40_h1_1_1_0_1_0_0_1_1 : (sub f40_c [1, 1, 1, 0, 1, 0, 0, 1, 1]) = .seq (sub f40_c [1, 1, 1, 0, 1, 0, 0, 1, 1, 0]) (sub f40_c [1, 1, 1, 0, 1, 0, 0, 1, 1, 1]) := by kernel_rfl
theorem f40_h1_1_1_0_1_0_0_1 : (sub f40_c [1, 1, 1, 0, 1, 0, 0, 1]) = .seq (sub f40_c [1, 1, 1, 0, 1, 0, 0, 1, 0]) (sub f40_c [1, 1, 1, 0, 1, 0, 0, 1, 1]) := by kernel_rfl
theorem f40_h1_1_1_0_1_0_0 : (sub f40_c [1, 1, 1, 0, 1, 0, 0]) = .seq (sub f40_c [1, 1, 1, 0, 1, 0, 0, 0]) (sub f40_c [1, 1, 1, 0, 1, 0, 0, 1]) := by kernel_rfl
theorem f40_h1_1_1_0_1_0 : (sub f40_c [1, 1, 1, 0, 1, 0]) = .loop (sub f40_c [1, 1, 1, 0, 1, 0, 0]) := by kernel_rfl
theorem f40_h1_1_1_0_1 : (sub f40_c [1, 1, 1, 0, 1]) = .block 0 (sub f40_c [1, 1, 1, 0, 1, 0]) := by kernel_rfl
theorem f40_h1_1_1_0 : (sub f40_c [1, 1, 1, 0]) = .seq (sub f40_c [1, 1, 1, 0, 0]) (sub f40_c [1, 1, 1, 0, 1]) := by kernel_rfl
theorem f40_h1_1_1 : (sub f40_c [1, 1, 1]) = .seq (sub f40_c [1, 1, 1, 0]) (sub f40_c [1, 1, 1, 1]) := by kernel_rfl
theorem f40_h1_1 : (sub f40_c [1, 1]) = .seq (sub f40_c [1, 1, 0]) (sub f40_c [1, 1, 1]) := by kernel_rfl
theorem f40_h1 : (sub f40_c [1]) = .seq (sub f40_c [1, 0]) (sub f40_c [1, 1]) := by kernel_rfl
theorem f40_h : f40_c = .seq (sub f40_c [0]) (sub f40_c [1]) := by kernel_rfl
noncomputable def f40_F_r12 (k : Nat) (G_l0 : f40_S) : List (Fr (RDL f40_rs)) := .c (sub f40_c [1, 1, 1, 0, 1, 0, 0, 1, 1, 0, 0, 1, 1, 1, 0, 1]) 1 :: .c (sub f40_c [1, 1, 1, 0, 1, 0, 0, 1, 1, 0, 0, 1, 1, 1, 1]) 1 :: .blk 1 :: .c (sub f40_c [1, 1, 1, 0, 1, 0, 0, 1, 1, 1]) 0 :: .j (fun σ => G_l0 (cut f40_A.loops 0 σ)) :: .blk 0 :: .c (sub f40_c [1, 1, 1, 1]) 0 :: []
theorem f40_f_r12 (k : Nat) (R_l0 : f40_S) : f40_a k (f40_Q_r12 k R_l0) = f40_a k (f40_F_r12 k R_l0) := (ap_cons _ (ap_cons _ (ap_cons _ (ap_cons _ (ap_cons _ (ap_cons _ (ap_cons _ rfl)))))))
noncomputable def f40_F_r10 (k : Nat) (G_l0 : f40_S) (G_r12 : f40_S) : List (Fr (RDL f40_rs)) := .c (sub f40_c [1, 1, 1, 0, 1, 0, 0, 1, 1, 0, 0, 1, 1, 0, 1]) 1 :: .c (sub f40_c [1, 1, 1, 0, 1, 0, 0, 1, 1, 0, 0, 1, 1, 1, 0, 0]) 1 :: .j G_r12 :: f40_F_r12 k G_l0
theorem f40_f_r10 (k : Nat) (R_l0 : f40_S) : f40_a k (f40_Q_r10 k R_l0) = f40_a k (f40_F_r10 k R_l0 (f40_C_r12 k R_l0)) := (ap_cons _ (Eq.trans (ap_seq f40_h1_1_1_0_1_0_0_1_1_0_0_1_1_1) (Eq.trans (ap_seq f40_h1_1_1_0_1_0_0_1_1_0_0_1_1_1_0) (ap_cons _ (Eq.trans (ap_pass (C := (f40_C_r12 k R_l0)) (fun _ => rfl)) (ap_cons _ (f40_f_r12 k R_l0)))))))
noncomputable def f40_F_l0 (k : Nat) (G_l0 : f40_S) (G_r10 : f40_S) (G_r12 : f40_S) : List (Fr (RDL f40_rs)) := .c (sub f40_c [1, 1, 1, 0, 1, 0, 0, 0]) 0 :: .c (sub f40_c [1, 1, 1, 0, 1, 0, 0, 1, 0]) 0 :: .j (fun σ => f40_a k (.c (sub f40_c [1, 1, 1, 0, 1, 0, 0, 1, 1, 0, 0, 0]) 1 :: .c (sub f40_c [1, 1, 1, 0, 1, 0, 0, 1, 1, 0, 0, 1, 0]) 1 :: .c (sub f40_c [1, 1, 1, 0, 1, 0, 0, 1, 1, 0, 0, 1, 1, 0, 0]) 1 :: .j G_r10 :: f40_F_r10 k G_l0 G_r12) .nx σ) :: .c (sub f40_c [1, 1, 1, 0, 1, 0, 0, 1, 1, 1]) 0 :: .j (fun σ => G_l0 (cut f40_A.loops 0 σ)) :: .blk 0 :: .c (sub f40_c [1, 1, 1, 1]) 0 :: []
theorem f40_f_l0 (k : Nat) (R_l0 : f40_S) : f40_a k (f40_Q_l0 k R_l0) = f40_a k (f40_F_l0 k R_l0 (f40_C_r10 k R_l0) (f40_C_r12 k R_l0)) := (Eq.trans (ap_seq f40_h1_1_1_0_1_0_0) (ap_cons _ (Eq.trans (ap_seq f40_h1_1_1_0_1_0_0_1) (ap_cons _ (Eq.trans (ap_seq f40_h1_1_1_0_1_0_0_1_1) (Eq.trans (ap_block f40_h1_1_1_0_1_0_0_1_1_0) (Eq.trans (ap_j (Eq.trans (ap_seq f40_h1_1_1_0_1_0_0_1_1_0_0) (ap_cons _ (Eq.trans (ap_seq f40_h1_1_1_0_1_0_0_1_1_0_0_1) (ap_cons _ (Eq.trans (ap_seq f40_h1_1_1_0_1_0_0_1_1_0_0_1_1) (Eq.trans (ap_seq f40_h1_1_1_0_1_0_0_1_1_0_0_1_1_0) (ap_cons _ (Eq.trans (ap_pass (C := (f40_C_r10 k R_l0)) (fun _ => rfl)) (ap_cons _ (f40_f_r10 k R_l0))))))))))) (ap_cons _ (ap_cons _ (ap_cons _ (ap_cons _ (ap_cons _ rfl))))))))))))
def f40_entry_B (k : Nat) (g_l0 : (List (Int × Int)) → (List (Int × (Int × (Int × Int)))) → (List (Int × Int)) → (List Int) → Int → Int → Int → Option (Int × Int × Unit)) (a0 : ((List (Int × Int)) × ((List (Int × (Int × (Int × Int)))) × (List (Int × Int))))) (a1 : (List Int)) : Option (Int × Int × Unit) := ((f33 k (a0.1, (a0.2.1, a0.2.2))).bind fun r1 => (if ¬ (r1.1 = 0) then some (0, r1.1, ()) else (g_l0 a0.1 a0.2.1 a0.2.2 a1 (a1.length : Int) 0 0)))
def f40_l0_B (k : Nat) (g_r10 : (List (Int × Int)) → (List (Int × (Int × (Int × Int)))) → (List (Int × Int)) → (List Int) → Int → Int → Bool → Int → Int → Option (Int × Int × Unit)) (y2_0 : (List (Int × Int))) (y2_1 : (List (Int × (Int × (Int × Int))))) (y2_2 : (List (Int × Int))) (x1 : (List Int)) (x16 : Int) (x17 : Int) (x7 : Int) : Option (Int × Int × Unit) := (if x17 < x16 then (if 0 ≤ x17 then (if x17 < (x1.length : Int) then ((f69 k (y2_0, (y2_1, y2_2)) (x1.getD (x17).toNat 0)).bind fun r1 => (if ¬ (r1.1 = true) then some (0, 1, ()) else (if 0 < x17 then (if 0 ≤ (w64 (x17 - 1)) then (if (w64 (x17 - 1)) < (x1.length : Int) then (if 0 ≤ (x1.getD (w64 (x17 - 1)).toNat 0) then (if (x1.getD (w64 (x17 - 1)).toNat 0) < (y2_1.length : Int) then (if 0 ≤ (x1.getD (x17).toNat 0) then (if (x1.getD (x17).toNat 0) < (y2_1.length : Int) then (g_r10 y2_0 y2_1 y2_2 x1 x16 x17 (decide (¬ ((((y2_1.getD ((x1.getD (w64 (x17 - 1)).toNat 0)).toNat (0, (0, (0, 0)))).2).1) = ((y2_1.getD ((x1.getD (x17).toNat 0)).toNat (0, (0, (0, 0)))).1)))) x7 (x1.getD (x17).toNat 0)) else none) else none) else none) else none) else none) else none) else (g_r10 y2_0 y2_1 y2_2 x1 x16 x17 false x7 (x1.getD (x17).toNat 0))))) else none) else none) else some (x7, 0, ()))
def f40_r10_B (k : Nat) (g_r12 : (List (Int × Int)) → (List (Int × (Int × (Int × Int)))) → (List (Int × Int)) → (List Int) → Int → Int → Bool → Int → Int → Option (Int × Int × Unit)) (y2_0 : (List (Int × Int))) (y2_1 : (List (Int × (Int × (Int × Int))))) (y2_2 : (List (Int × Int))) (x1 : (List Int)) (x16 : Int) (x17 : Int) (x46 : Bool) (x7 : Int) (x9 : Int) : Option (Int × Int × Unit) := (if x46 = true then some (0, 9, ()) else (if 0 < x17 then (if 0 ≤ (w64 (x17 - 1)) then (if (w64 (x17 - 1)) < (x1.length : Int) then ((f38 k (y2_0, (y2_1, y2_2)) (x1.getD (w64 (x17 - 1)).toNat 0) x9).bind fun r1 => (g_r12 y2_0 y2_1 y2_2 x1 x16 x17 (decide (¬ (r1.1 = true))) x7 x9)) else none) else none) else (g_r12 y2_0 y2_1 y2_2 x1 x16 x17 false x7 x9)))
def f40_r12_B (k : Nat) (g_l0 : (List (Int × Int)) → (List (Int × (Int × (Int × Int)))) → (List (Int × Int)) → (List Int) → Int → Int → Int → Option (Int × Int × Unit)) (y2_0 : (List (Int × Int))) (y2_1 : (List (Int × (Int × (Int × Int))))) (y2_2 : (List (Int × Int))) (x1 : (List Int)) (x16 : Int) (x17 : Int) (x59 : Bool) (x7 : Int) (x9 : Int) : Option (Int × Int × Unit) := (if x59 = true then some (0, 19, ()) else (if 0 ≤ x9 then (if x9 < (y2_1.length : Int) then (g_l0 y2_0 y2_1 y2_2 x1 x16 (w64 (x17 + 1)) (w64 (x7 + ((((y2_1.getD (x9).toNat (0, (0, (0, 0)))).2).2).1)))) else none) else none))
theorem f40_r12_P (k : Nat) (G_l0 : f40_S) (y2_0 : (List (Int × Int))) (y2_1 : (List (Int × (Int × (Int × Int))))) (y2_2 : (List (Int × Int))) (x1 : (List Int)) (x16 : Int) (x17 : Int) (x59 : Bool) (x7 : Int) (x9 : Int) : f40_a k (f40_F_r12 k G_l0) .nx (f40_s_r12 y2_0 y2_1 y2_2 x1 x16 x17 x59 x7 x9) = f40_r12_B k (fun y2_0 y2_1 y2_2 x1 x16 x17 x7 => G_l0 (f40_s_l0 y2_0 y2_1 y2_2 x1 x16 x17 x7)) y2_0 y2_1 y2_2 x1 x16 x17 x59 x7 x9 := by kernel_rfl
def f40_r12 (k : Nat) (r_l0 : (List (Int × Int)) → (List (Int × (Int × (Int × Int)))) → (List (Int × Int)) → (List Int) → Int → Int → Int → Option (Int × Int × Unit)) (y2_0 : (List (Int × Int))) (y2_1 : (List (Int × (Int × (Int × Int))))) (y2_2 : (List (Int × Int))) (x1 : (List Int)) (x16 : Int) (x17 : Int) (x59 : Bool) (x7 : Int) (x9 : Int) : Option (Int × Int × Unit) := f40_r12_B k r_l0 y2_0 y2_1 y2_2 x1 x16 x17 x59 x7 x9
theorem f40_r12_E (k : Nat) (R_l0 : f40_S) (r_l0 : (List (Int × Int)) → (List (Int × (Int × (Int × Int)))) → (List (Int × Int)) → (List Int) → Int → Int → Int → Option (Int × Int × Unit)) (h_l0 : ∀ (y2_0 : (List (Int × Int))) (y2_1 : (List (Int × (Int × (Int × Int))))) (y2_2 : (List (Int × Int))) (x1 : (List Int)) (x16 : Int) (x17 : Int) (x7 : Int), R_l0 (f40_s_l0 y2_0 y2_1 y2_2 x1 x16 x17 x7) = r_l0 y2_0 y2_1 y2_2 x1 x16 x17 x7) (y2_0 : (List (Int × Int))) (y2_1 : (List (Int × (Int × (Int × Int))))) (y2_2 : (List (Int × Int))) (x1 : (List Int)) (x16 : Int) (x17 : Int) (x59 : Bool) (x7 : Int) (x9 : Int) : f40_C_r12 k R_l0 (f40_s_r12 y2_0 y2_1 y2_2 x1 x16 x17 x59 x7 x9) = f40_r12 k r_l0 y2_0 y2_1 y2_2 x1 x16 x17 x59 x7 x9 := by
  refine Eq.trans (ap_at (f40_f_r12 k R_l0) _) ((f40_r12_P k R_l0 y2_0 y2_1 y2_2 x1 x16 x17 x59 x7 x9).trans ?_)
  have e_l0 : (fun y2_0 y2_1 y2_2 x1 x16 x17 x7 => R_l0 (f40_s_l0 y2_0 y2_1 y2_2 x1 x16 x17 x7)) = r_l0 := funext fun y2_0 => funext fun y2_1 => funext fun y2_2 => funext fun x1 => funext fun x16 => funext fun x17 => funext fun x7 => h_l0 y2_0 y2_1 y2_2 x1 x16 x17 x7
  rw [e_l0]
  rfl
theorem f40_r10_P (k : Nat) (G_l0 : f40_S) (G_r12 : f40_S) (y2_0 : (List (Int × Int))) (y2_1 : (List (Int × (Int × (Int × Int))))) (y2_2 : (List (Int × Int))) (x1 : (List Int)) (x16 : Int) (x17 : Int) (x46 : Bool) (x7 : Int) (x9 : Int) : f40_a k (f40_F_r10 k G_l0 G_r12) .nx (f40_s_r10 y2_0 y2_1 y2_2 x1 x16 x17 x46 x7 x9) = f40_r10_B k (fun y2_0 y2_1 y2_2 x1 x16 x17 x59 x7 x9 => G_r12 (f40_s_r12 y2_0 y2_1 y2_2 x1 x16 x17 x59 x7 x9)) y2_0 y2_1 y2_2 x1 x16 x17 x46 x7 x9 := by kernel_rfl
def f40_r10 (k : Nat) (r_l0 : (List (Int × Int)) → (List (Int × (Int × (Int × Int)))) → (List (Int × Int)) → (List Int) → Int → Int → Int → Option (Int × Int × Unit)) (y2_0 : (List (Int × Int))) (y2_1 : (List (Int × (Int × (Int × Int))))) (y2_2 : (List (Int × Int))) (x1 : (List Int)) (x16 : Int) (x17 : Int) (x46 : Bool) (x7 : Int) (x9 : Int) : Option (Int × Int × Unit) := f40_r10_B k (f40_r12 k r_l0) y2_0 y2_1 y2_2 x1 x16 x17 x46 x7 x9
theorem f40_r10_E (k : Nat) (R_l0 : f40_S) (r_l0 : (List (Int × Int)) → (List (Int × (Int × (Int × Int)))) → (List (Int × Int)) → (List Int) → Int → Int → Int → Option (Int × Int × Unit)) (h_l0 : ∀ (y2_0 : (List (Int × Int))) (y2_1 : (List (Int × (Int × (Int × Int))))) (y2_2 : (List (Int × Int))) (x1 : (List Int)) (x16 : Int) (x17 : Int) (x7 : Int), R_l0 (f40_s_l0 y2_0 y2_1 y2_2 x1 x16 x17 x7) = r_l0 y2_0 y2_1 y2_2 x1 x16 x17 x7) (y2_0 : (List (Int × Int))) (y2_1 : (List (Int × (Int × (Int × Int))))) (y2_2 : (List (Int × Int))) (x1 : (List Int)) (x16 : Int) (x17 : Int) (x46 : Bool) (x7 : Int) (x9 : Int) : f40_C_r10 k R_l0 (f40_s_r10 y2_0 y2_1 y2_2 x1 x16 x17 x46 x7 x9) = f40_r10 k r_l0 y2_0 y2_1 y2_2 x1 x16 x17 x46 x7 x9 := by
  refine Eq.trans (ap_at (f40_f_r10 k R_l0) _) ((f40_r10_P k R_l0 (f40_C_r12 k R_l0) y2_0 y2_1 y2_2 x1 x16 x17 x46 x7 x9).trans ?_)
  have e_r12 : (fun y2_0 y2_1 y2_2 x1 x16 x17 x59 x7 x9 => (f40_C_r12 k R_l0) (f40_s_r12 y2_0 y2_1 y2_2 x1 x16 x17 x59 x7 x9)) = (f40_r12 k r_l0) := funext fun y2_0 => funext fun y2_1 => funext fun y2_2 => funext fun x1 => funext fun x16 => funext fun x17 => funext fun x59 => funext fun x7 => funext fun x9 => f40_r12_E k R_l0 r_l0 h_l0  y2_0 y2_1 y2_2 x1 x16 x17 x59 x7 x9
  rw [e_r12]
  rfl
theorem f40_l0_P (k : Nat) (G_l0 : f40_S) (G_r10 : f40_S) (G_r12 : f40_S) (y2_0 : (List (Int × Int))) (y2_1 : (List (Int × (Int × (Int × Int))))) (y2_2 : (List (Int × Int))) (x1 : (List Int)) (x16 : Int) (x17 : Int) (x7 : Int) : f40_a k (f40_F_l0 k G_l0 G_r10 G_r12) .nx (f40_s_l0 y2_0 y2_1 y2_2 x1 x16 x17 x7) = f40_l0_B k (fun y2_0 y2_1 y2_2 x1 x16 x17 x46 x7 x9 => G_r10 (f40_s_r10 y2_0 y2_1 y2_2 x1 x16 x17 x46 x7 x9)) y2_0 y2_1 y2_2 x1 x16 x17 x7 := by kernel_rfl
def f40_l0 (k : Nat) : Nat → (List (Int × Int)) → (List (Int × (Int × (Int × Int)))) → (List (Int × Int)) → (List Int) → Int → Int → Int → Option (Int × Int × Unit)
  | 0, _, _, _, _, _, _, _ => none
  | n + 1, y2_0, y2_1, y2_2, x1, x16, x17, x7 => f40_l0_B k (f40_r10 k (fun y2_0 y2_1 y2_2 x1 x16 x17 x7 => f40_l0 k n y2_0 y2_1 y2_2 x1 x16 x17 x7)) y2_0 y2_1 y2_2 x1 x16 x17 x7
theorem f40_l0_E (k : Nat) : ∀ (n : Nat) (y2_0 : (List (Int × Int))) (y2_1 : (List (Int × (Int × (Int × Int))))) (y2_2 : (List (Int × Int))) (x1 : (List Int)) (x16 : Int) (x17 : Int) (x7 : Int), f40_C_l0 k n (f40_s_l0 y2_0 y2_1 y2_2 x1 x16 x17 x7) = f40_l0 k n y2_0 y2_1 y2_2 x1 x16 x17 x7
  | 0, _, _, _, _, _, _, _ => rfl
  | n + 1, y2_0, y2_1, y2_2, x1, x16, x17, x7 => by
    refine Eq.trans (show _ = f40_a k (f40_Q_l0 k (f40_C_l0 k n)) .nx (f40_s_l0 y2_0 y2_1 y2_2 x1 x16 x17 x7) by kernel_rfl) (Eq.trans (ap_at (f40_f_l0 k (f40_C_l0 k n)) _) ((f40_l0_P k (f40_C_l0 k n) (f40_C_r10 k (f40_C_l0 k n)) (f40_C_r12 k (f40_C_l0 k n)) y2_0 y2_1 y2_2 x1 x16 x17 x7).trans ?_))
    have e_r10 : (fun y2_0 y2_1 y2_2 x1 x16 x17 x46 x7 x9 => (f40_C_r10 k (f40_C_l0 k n)) (f40_s_r10 y2_0 y2_1 y2_2 x1 x16 x17 x46 x7 x9)) = (f40_r10 k (fun y2_0 y2_1 y2_2 x1 x16 x17 x7 => f40_l0 k n y2_0 y2_1 y2_2 x1 x16 x17 x7)) := funext fun y2_0 => funext fun y2_1 => funext fun y2_2 => funext fun x1 => funext fun x16 => funext fun x17 => funext fun x46 => funext fun x7 => funext fun x9 => f40_r10_E k (f40_C_l0 k n) (fun y2_0 y2_1 y2_2 x1 x16 x17 x7 => f40_l0 k n y2_0 y2_1 y2_2 x1 x16 x17 x7) (fun y2_0 y2_1 y2_2 x1 x16 x17 x7 => f40_l0_E k n y2_0 y2_1 y2_2 x1 x16 x17 x7)  y2_0 y2_1 y2_2 x1 x16 x17 x46 x7 x9
    rw [e_r10]
    rfl
theorem f40_entry_P (k : Nat) (G_l0 : f40_S) (xs : DL f40_sig) : f40_a k (.c (sub f40_c [0]) 0 :: .c (sub f40_c [1, 0]) 0 :: .c (sub f40_c [1, 1, 0]) 0 :: .c (sub f40_c [1, 1, 1, 0, 0]) 0 :: .j (fun σ => f40_a k (.j (fun σ => G_l0 (cut f40_A.loops 0 σ)) :: .blk 0 :: .c (sub f40_c [1, 1, 1, 1]) 0 :: []) .nx σ) :: .c (sub f40_c [1, 1, 1, 1]) 0 :: []) .nx (σ0 70 210 f40_sig xs) = f40_entry_B k (fun y2_0 y2_1 y2_2 x1 x16 x17 x7 => G_l0 (f40_s_l0 y2_0 y2_1 y2_2 x1 x16 x17 x7)) xs.1 xs.2.1 := by kernel_rfl
theorem f40_f_entry (k : Nat) : f40_a k [.c f40_c 0] = f40_a k (.c (sub f40_c [0]) 0 :: .c (sub f40_c [1, 0]) 0 :: .c (sub f40_c [1, 1, 0]) 0 :: .c (sub f40_c [1, 1, 1, 0, 0]) 0 :: .j (fun σ => f40_a k (.j (fun σ => (f40_C_l0 k k) (cut f40_A.loops 0 σ)) :: .blk 0 :: .c (sub f40_c [1, 1, 1, 1]) 0 :: []) .nx σ) :: .c (sub f40_c [1, 1, 1, 1]) 0 :: []) := (Eq.trans (ap_seq f40_h) (ap_cons _ (Eq.trans (ap_seq f40_h1) (ap_cons _ (Eq.trans (ap_seq f40_h1_1) (ap_cons _ (Eq.trans (ap_seq f40_h1_1_1) (Eq.trans (ap_seq f40_h1_1_1_0) (ap_cons _ (Eq.trans (ap_block f40_h1_1_1_0_1) (Eq.trans (ap_j (Eq.trans (ap_loop (C := (f40_C_l0 k)) f40_h1_1_1_0_1_0 (fun _ _ => rfl)) (ap_cons _ (ap_cons _ (ap_cons _ rfl))))) (ap_cons _ (ap_cons _ rfl)))))))))))))
def f40 (k : Nat) (a0 : ((List (Int × Int)) × ((List (Int × (Int × (Int × Int)))) × (List (Int × Int))))) (a1 : (List Int)) : Option (Int × Int × Unit) := f40_entry_B k (f40_l0 k k) a0 a1
theorem f40_eq (k : Nat) (xs : DL f40_sig) : den T f40_Y (f40_E k) f40_A k f40_c 0 (σ0 70 210 f40_sig xs) (Kfin T f40_rs f40_ts) = f40 k xs.1 xs.2.1 := by
  refine Eq.trans den_ap (Eq.trans (ap_at (f40_f_entry k) _) ((f40_entry_P k (f40_C_l0 k k) xs).trans ?_))
  have e_l0 : (fun y2_0 y2_1 y2_2 x1 x16 x17 x7 => (f40_C_l0 k k) (f40_s_l0 y2_0 y2_1 y2_2 x1 x16 x17 x7)) = (f40_l0 k k) := funext fun y2_0 => funext fun y2_1 => funext fun y2_2 => funext fun x1 => funext fun x16 => funext fun x17 => funext fun x7 => f40_l0_E k  k y2_0 y2_1 y2_2 x1 x16 x17 x7
  rw [e_l0]
  rfl
noncomputable def f40_con (k : Nat) : Con := ⟨f40_sig, f40_rs, fun xs => f40 k xs.1 xs.2.1⟩
theorem f40_ok (k : Nat) : PureOK Try.prog 40 f40_sig f40_rs (fun xs => f40 k xs.1 xs.2.1) :=
  (pure_of_den (k := k) (A := f40_A) (T := T) (Y := f40_Y) (E := f40_E k) (M := 210) (ts := f40_ts) T_ok ⟨f33_ok k, f38_ok k, f69_ok k, trivial⟩ ⟨f33_ent, f38_ent, f69_ent, trivial⟩ mixed (f := 40) (fn := Try.f40) (c := f40_c) (by kernel_rfl) (by kernel_rfl) (by kernel_rfl) (by decide) (by kernel_rfl)).congr fun xs => (f40_eq k xs).symm
theorem f40_ent : Ent Try.prog 40 := fun args w => by kernel_rfl
/-! ### terrier/terrlaw4.triangle: function 65 -/
noncomputable def f65_c : Code := Try.f65.body.getD .skip
abbrev f65_sig : List PT := []
abbrev f65_rs : List RT := [.d true (.pair (.sl false (.pair (.int .i64) (.int .i64))) (.pair (.sl false (.pair (.int .i64) (.pair (.int .i64) (.pair (.int .i64) (.int .i64))))) (.sl false (.pair (.int .i64) (.int .i64)))))]
abbrev f65_ts : List RV := [.cell 0 53]
abbrev f65_S := St → Option (RDL f65_rs)
def f65_Y : Tys := [(46, (.pair (.int .i64) (.int .i64))), (55, (.pair (.int .i64) (.pair (.int .i64) (.pair (.int .i64) (.int .i64)))))]
noncomputable def f65_E (k : Nat) : Env := []
def f65_A : Ann := {}
noncomputable abbrev f65_a (k : Nat) (F : List (Fr (RDL f65_rs))) : Kont (RDL f65_rs) := ap T f65_Y (f65_E k) f65_A k (Kfin T f65_rs f65_ts) F
def f65_entry_B (k : Nat)  : Option (((List (Int × Int)) × ((List (Int × (Int × (Int × Int)))) × (List (Int × Int)))) × Unit) := some (([(0, 0), (1, 0), (0, 1)], ([(0, (1, (2, 0))), (1, (2, (2, 0))), (0, (2, (5, 0)))], [])), ())
theorem f65_entry_P (k : Nat) (xs : DL f65_sig) : f65_a k (.c f65_c 0 :: []) .nx (σ0 10 30 f65_sig xs) = f65_entry_B k   := by kernel_rfl
theorem f65_f_entry (k : Nat) : f65_a k [.c f65_c 0] = f65_a k (.c f65_c 0 :: []) := (ap_cons _ rfl)
def f65 (k : Nat)  : Option (((List (Int × Int)) × ((List (Int × (Int × (Int × Int)))) × (List (Int × Int)))) × Unit) := f65_entry_B k  
theorem f65_eq (k : Nat) (xs : DL f65_sig) : den T f65_Y (f65_E k) f65_A k f65_c 0 (σ0 10 30 f65_sig xs) (Kfin T f65_rs f65_ts) = f65 k  := by
  refine Eq.trans den_ap (Eq.trans (ap_at (f65_f_entry k) _) ((f65_entry_P k  xs).trans ?_))
  rfl
noncomputable def f65_con (k : Nat) : Con := ⟨f65_sig, f65_rs, fun xs => f65 k ⟩
theorem f65_ok (k : Nat) : PureOK Try.prog 65 f65_sig f65_rs (fun xs => f65 k ) :=
  (pure_of_den (k := k) (A := f65_A) (T := T) (Y := f65_Y) (E := f65_E k) (M := 30) (ts := f65_ts) T_ok trivial trivial mixed (f := 65) (fn := Try.f65) (c := f65_c) (by kernel_rfl) (by kernel_rfl) (by kernel_rfl) (by decide) (by kernel_rfl)).congr fun xs => (f65_eq k xs).symm
theorem f65_ent : Ent Try.prog 65 := fun args w => by kernel_rfl
/-! ### terrier/terrlaw4.netted: function 32 -/
noncomputable def f32_c : Code := Try.f32.body.getD .skip
abbrev f32_sig : List PT := []
abbrev f32_rs : List RT := [.d false .bool]
abbrev f32_ts : List RV := [.tmp 0]
abbrev f32_S := St → Option (RDL f32_rs)
def f32_Y : Tys := [(3, (.int .i64))]
noncomputable def f32_E (k : Nat) : Env := [(35, .c (f35_con k)), (36, .c (f36_con k)), (40, .c (f40_con k)), (65, .c (f65_con k))]
def f32_A : Ann := { regs := [(2, { slots := [(0, .bool)] })] }
noncomputable abbrev f32_a (k : Nat) (F : List (Fr (RDL f32_rs))) : Kont (RDL f32_rs) := ap T f32_Y (f32_E k) f32_A k (Kfin T f32_rs f32_ts) F
def f32_s_r2 (x0 : Bool) : St := mkS 21 64 [(0, .cp (.one (.prop (x0 = true) inferInstance)))] []
noncomputable def f32_Q_r2 (k : Nat) : List (Fr (RDL f32_rs)) := [.c (sub f32_c [1, 1, 1]) 0]
noncomputable def f32_C_r2 (k : Nat) : f32_S := fun σ => f32_a k (f32_Q_r2 k) .nx σ
theorem f32_h1_1 : (sub f32_c [1, 1]) = .seq (sub f32_c [1, 1, 0]) (sub f32_c [1, 1, 1]) := by kernel_rfl
theorem f32_h1 : (sub f32_c [1]) = .seq (sub f32_c [1, 0]) (sub f32_c [1, 1]) := by kernel_rfl
theorem f32_h : f32_c = .seq (sub f32_c [0]) (sub f32_c [1]) := by kernel_rfl
noncomputable def f32_F_r2 (k : Nat) : List (Fr (RDL f32_rs)) := .c (sub f32_c [1, 1, 1]) 0 :: []
theorem f32_f_r2 (k : Nat) : f32_a k (f32_Q_r2 k) = f32_a k (f32_F_r2 k) := (ap_cons _ rfl)
def f32_entry_B (k : Nat) (g_r2 : Bool → Option (Bool × Unit))  : Option (Bool × Unit) := ((f65 k ).bind fun r1 => ((f40 k (r1.1.1, (r1.1.2.1, r1.1.2.2)) ([0, 1])).bind fun r2 => (if r2.2.1 = 0 then (if r2.1 = 4 then ((f65 k ).bind fun r3 => ((f36 k (r3.1.1, (r3.1.2.1, r3.1.2.2)) 0).bind fun r4 => ((f35 k r4.1 ([0, 2])).bind fun r5 => (g_r2 (decide (r5.1 = true)))))) else (g_r2 false)) else (g_r2 false))))
def f32_r2_B (k : Nat) (x0 : Bool) : Option (Bool × Unit) := some (decide (x0 = true), ())
theorem f32_r2_P (k : Nat) (x0 : Bool) : f32_a k (f32_F_r2 k) .nx (f32_s_r2 x0) = f32_r2_B k  x0 := by kernel_rfl
def f32_r2 (k : Nat) (x0 : Bool) : Option (Bool × Unit) := f32_r2_B k  x0
theorem f32_r2_E (k : Nat) (x0 : Bool) : f32_C_r2 k (f32_s_r2 x0) = f32_r2 k x0 := by
  refine Eq.trans (ap_at (f32_f_r2 k) _) ((f32_r2_P k  x0).trans ?_)
  rfl
theorem f32_entry_P (k : Nat) (G_r2 : f32_S) (xs : DL f32_sig) : f32_a k (.c (sub f32_c [0]) 0 :: .c (sub f32_c [1, 0]) 0 :: .c (sub f32_c [1, 1, 0]) 0 :: .j G_r2 :: f32_F_r2 k) .nx (σ0 21 64 f32_sig xs) = f32_entry_B k (fun x0 => G_r2 (f32_s_r2 x0))  := by kernel_rfl
theorem f32_f_entry (k : Nat) : f32_a k [.c f32_c 0] = f32_a k (.c (sub f32_c [0]) 0 :: .c (sub f32_c [1, 0]) 0 :: .c (sub f32_c [1, 1, 0]) 0 :: .j (f32_C_r2 k) :: f32_F_r2 k) := (Eq.trans (ap_seq f32_h) (ap_cons _ (Eq.trans (ap_seq f32_h1) (ap_cons _ (Eq.trans (ap_seq f32_h1_1) (ap_cons _ (Eq.trans (ap_pass (C := (f32_C_r2 k)) (fun _ => rfl)) (ap_cons _ (f32_f_r2 k)))))))))
def f32 (k : Nat)  : Option (Bool × Unit) := f32_entry_B k (f32_r2 k) 
theorem f32_eq (k : Nat) (xs : DL f32_sig) : den T f32_Y (f32_E k) f32_A k f32_c 0 (σ0 21 64 f32_sig xs) (Kfin T f32_rs f32_ts) = f32 k  := by
  refine Eq.trans den_ap (Eq.trans (ap_at (f32_f_entry k) _) ((f32_entry_P k (f32_C_r2 k) xs).trans ?_))
  have e_r2 : (fun x0 => (f32_C_r2 k) (f32_s_r2 x0)) = (f32_r2 k) := funext fun x0 => f32_r2_E k   x0
  rw [e_r2]
  rfl
noncomputable def f32_con (k : Nat) : Con := ⟨f32_sig, f32_rs, fun xs => f32 k ⟩
theorem f32_ok (k : Nat) : PureOK Try.prog 32 f32_sig f32_rs (fun xs => f32 k ) :=
  (pure_of_den (k := k) (A := f32_A) (T := T) (Y := f32_Y) (E := f32_E k) (M := 64) (ts := f32_ts) T_ok ⟨f35_ok k, f36_ok k, f40_ok k, f65_ok k, trivial⟩ ⟨f35_ent, f36_ent, f40_ent, f65_ent, trivial⟩ mixed (f := 32) (fn := Try.f32) (c := f32_c) (by kernel_rfl) (by kernel_rfl) (by kernel_rfl) (by decide) (by kernel_rfl)).congr fun xs => (f32_eq k xs).symm
theorem f32_ent : Ent Try.prog 32 := fun args w => by kernel_rfl
/-! ### terrier/terrref4.PointOK: function 71 -/
noncomputable def f71_c : Code := Try.f71.body.getD .skip
abbrev f71_sig : List PT := [(true, (.pair (.int .i64) (.int .i64)))]
abbrev f71_rs : List RT := [.d false .bool]
abbrev f71_ts : List RV := [.tmp 2]
abbrev f71_S := St → Option (RDL f71_rs)
def f71_Y : Tys := []
noncomputable def f71_E (k : Nat) : Env := []
def f71_A : Ann := { regs := [(1, { slots := [(2, .bool)] })] }
noncomputable abbrev f71_a (k : Nat) (F : List (Fr (RDL f71_rs))) : Kont (RDL f71_rs) := ap T f71_Y (f71_E k) f71_A k (Kfin T f71_rs f71_ts) F
def f71_s_r1 (x2 : Bool) : St := mkS 21 64 [(2, .cp (.one (.prop (x2 = true) inferInstance)))] []
noncomputable def f71_Q_r1 (k : Nat) : List (Fr (RDL f71_rs)) := [.c (sub f71_c [1, 1]) 0]
noncomputable def f71_C_r1 (k : Nat) : f71_S := fun σ => f71_a k (f71_Q_r1 k) .nx σ
theorem f71_h1 : (sub f71_c [1]) = .seq (sub f71_c [1, 0]) (sub f71_c [1, 1]) := by kernel_rfl
theorem f71_h : f71_c = .seq (sub f71_c [0]) (sub f71_c [1]) := by kernel_rfl
noncomputable def f71_F_r1 (k : Nat) : List (Fr (RDL f71_rs)) := .c (sub f71_c [1, 1]) 0 :: []
theorem f71_f_r1 (k : Nat) : f71_a k (f71_Q_r1 k) = f71_a k (f71_F_r1 k) := (ap_cons _ rfl)
def f71_entry_B (k : Nat) (g_r1 : Bool → Option (Bool × Unit)) (a0 : (Int × Int)) : Option (Bool × Unit) := (if (-1048576) ≤ a0.1 then (if a0.1 ≤ 1048576 then (if (-1048576) ≤ a0.2 then (g_r1 (decide (a0.2 ≤ 1048576))) else (g_r1 false)) else (g_r1 false)) else (g_r1 false))
def f71_r1_B (k : Nat) (x2 : Bool) : Option (Bool × Unit) := some (decide (x2 = true), ())
theorem f71_r1_P (k : Nat) (x2 : Bool) : f71_a k (f71_F_r1 k) .nx (f71_s_r1 x2) = f71_r1_B k  x2 := by kernel_rfl
def f71_r1 (k : Nat) (x2 : Bool) : Option (Bool × Unit) := f71_r1_B k  x2
theorem f71_r1_E (k : Nat) (x2 : Bool) : f71_C_r1 k (f71_s_r1 x2) = f71_r1 k x2 := by
  refine Eq.trans (ap_at (f71_f_r1 k) _) ((f71_r1_P k  x2).trans ?_)
  rfl
theorem f71_entry_P (k : Nat) (G_r1 : f71_S) (xs : DL f71_sig) : f71_a k (.c (sub f71_c [0]) 0 :: .c (sub f71_c [1, 0]) 0 :: .j G_r1 :: f71_F_r1 k) .nx (σ0 21 64 f71_sig xs) = f71_entry_B k (fun x2 => G_r1 (f71_s_r1 x2)) xs.1 := by kernel_rfl
theorem f71_f_entry (k : Nat) : f71_a k [.c f71_c 0] = f71_a k (.c (sub f71_c [0]) 0 :: .c (sub f71_c [1, 0]) 0 :: .j (f71_C_r1 k) :: f71_F_r1 k) := (Eq.trans (ap_seq f71_h) (ap_cons _ (Eq.trans (ap_seq f71_h1) (ap_cons _ (Eq.trans (ap_pass (C := (f71_C_r1 k)) (fun _ => rfl)) (ap_cons _ (f71_f_r1 k)))))))
def f71 (k : Nat) (a0 : (Int × Int)) : Option (Bool × Unit) := f71_entry_B k (f71_r1 k) a0
theorem f71_eq (k : Nat) (xs : DL f71_sig) : den T f71_Y (f71_E k) f71_A k f71_c 0 (σ0 21 64 f71_sig xs) (Kfin T f71_rs f71_ts) = f71 k xs.1 := by
  refine Eq.trans den_ap (Eq.trans (ap_at (f71_f_entry k) _) ((f71_entry_P k (f71_C_r1 k) xs).trans ?_))
  have e_r1 : (fun x2 => (f71_C_r1 k) (f71_s_r1 x2)) = (f71_r1 k) := funext fun x2 => f71_r1_E k   x2
  rw [e_r1]
  rfl
noncomputable def f71_con (k : Nat) : Con := ⟨f71_sig, f71_rs, fun xs => f71 k xs.1⟩
theorem f71_ok (k : Nat) : PureOK Try.prog 71 f71_sig f71_rs (fun xs => f71 k xs.1) :=
  (pure_of_den (k := k) (A := f71_A) (T := T) (Y := f71_Y) (E := f71_E k) (M := 64) (ts := f71_ts) T_ok trivial trivial mixed (f := 71) (fn := Try.f71) (c := f71_c) (by kernel_rfl) (by kernel_rfl) (by kernel_rfl) (by decide) (by kernel_rfl)).congr fun xs => (f71_eq k xs).symm
theorem f71_ent : Ent Try.prog 71 := fun args w => by kernel_rfl
/-! ### terrier/terrref4.NetFault$1: function 72 -/
noncomputable def f72_c : Code := Try.f72.body.getD .skip
abbrev f72_sig : List PT := [(false, (.int .i64)), (false, (.int .i64))]
abbrev f72_rs : List RT := [.d false .bool]
abbrev f72_ts : List RV := [.tmp 4]
abbrev f72_S := St → Option (RDL f72_rs)
def f72_Y : Tys := []
noncomputable def f72_E (k : Nat) : Env := []
def f72_A : Ann := { regs := [(1, { slots := [(4, .bool)] })] }
noncomputable abbrev f72_a (k : Nat) (F : List (Fr (RDL f72_rs))) : Kont (RDL f72_rs) := ap T f72_Y (f72_E k) f72_A k (Kfin T f72_rs f72_ts) F
def f72_s_r1 (x4 : Bool) : St := mkS 12 36 [(4, .cp (.one (.prop (x4 = true) inferInstance)))] []
noncomputable def f72_Q_r1 (k : Nat) : List (Fr (RDL f72_rs)) := [.c (sub f72_c [1, 1]) 0]
noncomputable def f72_C_r1 (k : Nat) : f72_S := fun σ => f72_a k (f72_Q_r1 k) .nx σ
theorem f72_h1 : (sub f72_c [1]) = .seq (sub f72_c [1, 0]) (sub f72_c [1, 1]) := by kernel_rfl
theorem f72_h : f72_c = .seq (sub f72_c [0]) (sub f72_c [1]) := by kernel_rfl
noncomputable def f72_F_r1 (k : Nat) : List (Fr (RDL f72_rs)) := .c (sub f72_c [1, 1]) 0 :: []
theorem f72_f_r1 (k : Nat) : f72_a k (f72_Q_r1 k) = f72_a k (f72_F_r1 k) := (ap_cons _ rfl)
def f72_entry_B (k : Nat) (g_r1 : Bool → Option (Bool × Unit)) (a0 : Int) (a1 : Int) : Option (Bool × Unit) := (if 0 ≤ a0 then (g_r1 (decide (a0 < a1))) else (g_r1 false))
def f72_r1_B (k : Nat) (x4 : Bool) : Option (Bool × Unit) := some (decide (x4 = true), ())
theorem f72_r1_P (k : Nat) (x4 : Bool) : f72_a k (f72_F_r1 k) .nx (f72_s_r1 x4) = f72_r1_B k  x4 := by kernel_rfl
def f72_r1 (k : Nat) (x4 : Bool) : Option (Bool × Unit) := f72_r1_B k  x4
theorem f72_r1_E (k : Nat) (x4 : Bool) : f72_C_r1 k (f72_s_r1 x4) = f72_r1 k x4 := by
  refine Eq.trans (ap_at (f72_f_r1 k) _) ((f72_r1_P k  x4).trans ?_)
  rfl
theorem f72_entry_P (k : Nat) (G_r1 : f72_S) (xs : DL f72_sig) : f72_a k (.c (sub f72_c [0]) 0 :: .c (sub f72_c [1, 0]) 0 :: .j G_r1 :: f72_F_r1 k) .nx (σ0 12 36 f72_sig xs) = f72_entry_B k (fun x4 => G_r1 (f72_s_r1 x4)) xs.1 xs.2.1 := by kernel_rfl
theorem f72_f_entry (k : Nat) : f72_a k [.c f72_c 0] = f72_a k (.c (sub f72_c [0]) 0 :: .c (sub f72_c [1, 0]) 0 :: .j (f72_C_r1 k) :: f72_F_r1 k) := (Eq.trans (ap_seq f72_h) (ap_cons _ (Eq.trans (ap_seq f72_h1) (ap_cons _ (Eq.trans (ap_pass (C := (f72_C_r1 k)) (fun _ => rfl)) (ap_cons _ (f72_f_r1 k)))))))
def f72 (k : Nat) (a0 : Int) (a1 : Int) : Option (Bool × Unit) := f72_entry_B k (f72_r1 k) a0 a1
theorem f72_eq (k : Nat) (xs : DL f72_sig) : den T f72_Y (f72_E k) f72_A k f72_c 0 (σ0 12 36 f72_sig xs) (Kfin T f72_rs f72_ts) = f72 k xs.1 xs.2.1 := by
  refine Eq.trans den_ap (Eq.trans (ap_at (f72_f_entry k) _) ((f72_entry_P k (f72_C_r1 k) xs).trans ?_))
  have e_r1 : (fun x4 => (f72_C_r1 k) (f72_s_r1 x4)) = (f72_r1 k) := funext fun x4 => f72_r1_E k   x4
  rw [e_r1]
  rfl
noncomputable def f72_con (k : Nat) : Con := ⟨f72_sig, f72_rs, fun xs => f72 k xs.1 xs.2.1⟩
theorem f72_ok (k : Nat) : PureOK Try.prog 72 f72_sig f72_rs (fun xs => f72 k xs.1 xs.2.1) :=
  (pure_of_den (k := k) (A := f72_A) (T := T) (Y := f72_Y) (E := f72_E k) (M := 36) (ts := f72_ts) T_ok trivial trivial mixed (f := 72) (fn := Try.f72) (c := f72_c) (by kernel_rfl) (by kernel_rfl) (by kernel_rfl) (by decide) (by kernel_rfl)).congr fun xs => (f72_eq k xs).symm
theorem f72_ent : Ent Try.prog 72 := fun args w => by kernel_rfl
/-! ### terrier/terrref4.NetFault: function 34 -/
noncomputable def f34_c : Code := Try.f34.body.getD .skip
abbrev f34_sig : List PT := [(true, (.pair (.sl false (.pair (.int .i64) (.int .i64))) (.pair (.sl false (.pair (.int .i64) (.pair (.int .i64) (.pair (.int .i64) (.int .i64))))) (.sl false (.pair (.int .i64) (.int .i64))))))]
abbrev f34_rs : List RT := [.d false (.int .i64)]
abbrev f34_ts : List RV := [.tmp 2]
abbrev f34_S := St → Option (RDL f34_rs)
def f34_Y : Tys := []
noncomputable def f34_E (k : Nat) : Env := [(71, .c (f71_con k)), (72, .c (f72_con k))]
def f34_A : Ann := { regs := [(1, { slots := [(1, .id), (27, .bool)], keys := [(1, [.val false (.pair (.int .i64) (.int .i64)), .val false (.pair (.int .i64) (.pair (.int .i64) (.pair (.int .i64) (.int .i64)))), .val false (.pair (.int .i64) (.int .i64))])] })], loops := [(0, { slots := [(1, .id), (3, .id), (30, .val false (.pair (.int .i64) (.int .i64))), (31, .id), (32, .id)], keys := [(1, [.val false (.pair (.int .i64) (.int .i64)), .val false (.pair (.int .i64) (.pair (.int .i64) (.pair (.int .i64) (.int .i64)))), .val false (.pair (.int .i64) (.int .i64))]), (28, [])] }), (3, { slots := [(1, .id), (6, .id), (48, .val false (.pair (.int .i64) (.pair (.int .i64) (.pair (.int .i64) (.int .i64))))), (49, .id), (50, .id)], keys := [(1, [.val false (.pair (.int .i64) (.int .i64)), .val false (.pair (.int .i64) (.pair (.int .i64) (.pair (.int .i64) (.int .i64)))), .val false (.pair (.int .i64) (.int .i64))])] }), (6, { slots := [(1, .id), (6, .id), (9, .id), (86, .val false (.pair (.int .i64) (.int .i64))), (87, .id), (88, .id)], keys := [(1, [.val false (.pair (.int .i64) (.int .i64)), .val false (.pair (.int .i64) (.pair (.int .i64) (.pair (.int .i64) (.int .i64)))), .val false (.pair (.int .i64) (.int .i64))]), (84, [])] })], conds := [(18, { slots := [(1, .id), (6, .id), (8, .id), (48, .val false (.pair (.int .i64) (.pair (.int .i64) (.pair (.int .i64) (.int .i64))))), (49, .id), (50, .id), (54, .bool)], keys := [(1, [.val false (.pair (.int .i64) (.int .i64)), .val false (.pair (.int .i64) (.pair (.int .i64) (.pair (.int .i64) (.int .i64)))), .val false (.pair (.int .i64) (.int .i64))]), (8, [])] }), (30, { slots := [(1, .id), (6, .id), (9, .id), (11, .id), (86, .val false (.pair (.int .i64) (.int .i64))), (87, .id), (88, .id), (92, .bool)], keys := [(1, [.val false (.pair (.int .i64) (.int .i64)), .val false (.pair (.int .i64) (.pair (.int .i64) (.pair (.int .i64) (.int .i64)))), .val false (.pair (.int .i64) (.int .i64))]), (11, []), (84, [])] })] }
noncomputable abbrev f34_a (k : Nat) (F : List (Fr (RDL f34_rs))) : Kont (RDL f34_rs) := ap T f34_Y (f34_E k) f34_A k (Kfin T f34_rs f34_ts) F
def f34_s_r1 (y1_0 : (List (Int × Int))) (y1_1 : (List (Int × (Int × (Int × Int))))) (y1_2 : (List (Int × Int))) (x27 : Bool) : St := mkS 132 396 [(1, .cp (.one (.ptr 1 0))), (27, .cp (.one (.prop (x27 = true) inferInstance)))] [(1, .box [.val false (.pair (.int .i64) (.int .i64)) y1_0, .val false (.pair (.int .i64) (.pair (.int .i64) (.pair (.int .i64) (.int .i64)))) y1_1, .val false (.pair (.int .i64) (.int .i64)) y1_2])]
noncomputable def f34_Q_r1 (k : Nat) : List (Fr (RDL f34_rs)) := [.c (sub f34_c [1, 0, 1]) 0, .c (sub f34_c [1, 1]) 0]
noncomputable def f34_C_r1 (k : Nat) : f34_S := fun σ => f34_a k (f34_Q_r1 k) .nx σ
def f34_s_l0 (y1_0 : (List (Int × Int))) (y1_1 : (List (Int × (Int × (Int × Int))))) (y1_2 : (List (Int × Int))) (y28 : (List (Int × Int))) (x31 : Int) (x32 : Int) : St := mkS 132 396 [(1, .cp (.one (.ptr 1 0))), (3, .cp (.one (.mp 28))), (30, .cp (.one (.val false (.pair (.int .i64) (.int .i64)) y1_0))), (31, .cp (.one (.int .i64 x31))), (32, .cp (.one (.int .i64 x32)))] [(1, .box [.val false (.pair (.int .i64) (.int .i64)) y1_0, .val false (.pair (.int .i64) (.pair (.int .i64) (.pair (.int .i64) (.int .i64)))) y1_1, .val false (.pair (.int .i64) (.int .i64)) y1_2]), (28, .set y28)]
noncomputable def f34_Q_l0 (k : Nat) (R_l0 : f34_S) : List (Fr (RDL f34_rs)) := [.c (sub f34_c [1, 1, 1, 0, 1, 0, 0]) 0, .j (fun σ => R_l0 (cut f34_A.loops 0 σ)), .blk 0, .c (sub f34_c [1, 1, 1, 1]) 0]
noncomputable def f34_C_l0 (k : Nat) (n : Nat) (σ : St) : Option (RDL f34_rs) := loopK (fun σ K => den T f34_Y (f34_E k) f34_A k (sub f34_c [1, 1, 1, 0, 1, 0, 0]) 0 σ K) (cut f34_A.loops 0) (f34_a k [.blk 0, .c (sub f34_c [1, 1, 1, 1]) 0]) n σ
def f34_s_l3 (y1_0 : (List (Int × Int))) (y1_1 : (List (Int × (Int × (Int × Int))))) (y1_2 : (List (Int × Int))) (x49 : Int) (x50 : Int) : St := mkS 132 396 [(1, .cp (.one (.ptr 1 0))), (6, .cp (.one (.fn 72 []))), (48, .cp (.one (.val false (.pair (.int .i64) (.pair (.int .i64) (.pair (.int .i64) (.int .i64)))) y1_1))), (49, .cp (.one (.int .i64 x49))), (50, .cp (.one (.int .i64 x50)))] [(1, .box [.val false (.pair (.int .i64) (.int .i64)) y1_0, .val false (.pair (.int .i64) (.pair (.int .i64) (.pair (.int .i64) (.int .i64)))) y1_1, .val false (.pair (.int .i64) (.int .i64)) y1_2])]
noncomputable def f34_Q_l3 (k : Nat) (R_l3 : f34_S) : List (Fr (RDL f34_rs)) := [.c (sub f34_c [1, 1, 1, 1, 1, 0, 1, 0, 0]) 3, .j (fun σ => R_l3 (cut f34_A.loops 3 σ)), .blk 3, .c (sub f34_c [1, 1, 1, 1, 1, 1]) 0]
noncomputable def f34_C_l3 (k : Nat) (n : Nat) (σ : St) : Option (RDL f34_rs) := loopK (fun σ K => den T f34_Y (f34_E k) f34_A k (sub f34_c [1, 1, 1, 1, 1, 0, 1, 0, 0]) 3 σ K) (cut f34_A.loops 3) (f34_a k [.blk 3, .c (sub f34_c [1, 1, 1, 1, 1, 1]) 0]) n σ
def f34_s_c18 (y1_0 : (List (Int × Int))) (y1_1 : (List (Int × (Int × (Int × Int))))) (y1_2 : (List (Int × Int))) (y8_0 : Int) (y8_1 : Int) (y8_2 : Int) (y8_3 : Int) (x49 : Int) (x50 : Int) (x54 : Bool) : St := mkS 132 396 [(1, .cp (.one (.ptr 1 0))), (6, .cp (.one (.fn 72 []))), (8, .cp (.one (.ptr 8 0))), (48, .cp (.one (.val false (.pair (.int .i64) (.pair (.int .i64) (.pair (.int .i64) (.int .i64)))) y1_1))), (49, .cp (.one (.int .i64 x49))), (50, .cp (.one (.int .i64 x50))), (54, .cp (.one (.prop (x54 = true) inferInstance)))] [(1, .box [.val false (.pair (.int .i64) (.int .i64)) y1_0, .val false (.pair (.int .i64) (.pair (.int .i64) (.pair (.int .i64) (.int .i64)))) y1_1, .val false (.pair (.int .i64) (.int .i64)) y1_2]), (8, .box [.int .i64 y8_0, .int .i64 y8_1, .int .i64 y8_2, .int .i64 y8_3])]
noncomputable def f34_Q_c18 (k : Nat) (R_l3 : f34_S) : List (Fr (RDL f34_rs)) := [.c (sub f34_c [1, 1, 1, 1, 1, 0, 1, 0, 0, 1, 1, 0, 0, 1, 0, 1]) 5, .blk 5, .blk 4, .c (sub f34_c [1, 1, 1, 1, 1, 0, 1, 0, 0, 1, 1, 1]) 3, .j (fun σ => R_l3 (cut f34_A.loops 3 σ)), .blk 3, .c (sub f34_c [1, 1, 1, 1, 1, 1]) 0]
noncomputable def f34_C_c18 (k : Nat) (R_l3 : f34_S) : f34_S := fun σ => f34_a k (f34_Q_c18 k R_l3) .nx σ
def f34_s_l6 (y1_0 : (List (Int × Int))) (y1_1 : (List (Int × (Int × (Int × Int))))) (y1_2 : (List (Int × Int))) (y84 : (List (Int × Int))) (x87 : Int) (x88 : Int) : St := mkS 132 396 [(1, .cp (.one (.ptr 1 0))), (6, .cp (.one (.fn 72 []))), (9, .cp (.one (.mp 84))), (86, .cp (.one (.val false (.pair (.int .i64) (.int .i64)) y1_2))), (87, .cp (.one (.int .i64 x87))), (88, .cp (.one (.int .i64 x88)))] [(1, .box [.val false (.pair (.int .i64) (.int .i64)) y1_0, .val false (.pair (.int .i64) (.pair (.int .i64) (.pair (.int .i64) (.int .i64)))) y1_1, .val false (.pair (.int .i64) (.int .i64)) y1_2]), (84, .set y84)]
noncomputable def f34_Q_l6 (k : Nat) (R_l6 : f34_S) : List (Fr (RDL f34_rs)) := [.c (sub f34_c [1, 1, 1, 1, 1, 1, 1, 0, 1, 0, 0]) 6, .j (fun σ => R_l6 (cut f34_A.loops 6 σ)), .blk 6, .c (sub f34_c [1, 1, 1, 1, 1, 1, 1, 1]) 0]
noncomputable def f34_C_l6 (k : Nat) (n : Nat) (σ : St) : Option (RDL f34_rs) := loopK (fun σ K => den T f34_Y (f34_E k) f34_A k (sub f34_c [1, 1, 1, 1, 1, 1, 1, 0, 1, 0, 0]) 6 σ K) (cut f34_A.loops 6) (f34_a k [.blk 6, .c (sub f34_c [1, 1, 1, 1, 1, 1, 1, 1]) 0]) n σ
def f34_s_c30 (y1_0 : (List (Int × Int))) (y1_1 : (List (Int × (Int × (Int × Int))))) (y1_2 : (List (Int × Int))) (y11_0 : Int) (y11_1 : Int) (y84 : (List (Int × Int))) (x87 : Int) (x88 : Int) (x92 : Bool) : St := mkS 132 396 [(1, .cp (.one (.ptr 1 0))), (6, .cp (.one (.fn 72 []))), (9, .cp (.one (.mp 84))), (11, .cp (.one (.ptr 11 0))), (86, .cp (.one (.val false (.pair (.int .i64) (.int .i64)) y1_2))), (87, .cp (.one (.int .i64 x87))), (88, .cp (.one (.int .i64 x88))), (92, .cp (.one (.prop (x92 = true) inferInstance)))] [(1, .box [.val false (.pair (.int .i64) (.int .i64)) y1_0, .val false (.pair (.int .i64) (.pair (.int .i64) (.pair (.int .i64) (.int .i64)))) y1_1, .val false (.pair (.int .i64) (.int .i64)) y1_2]), (11, .box [.int .i64 y11_0, .int .i64 y11_1]), (84, .set y84)]
noncomputable def f34_Q_c30 (k : Nat) (R_l6 : f34_S) : List (Fr (RDL f34_rs)) := [.c (sub f34_c [1, 1, 1, 1, 1, 1, 1, 0, 1, 0, 0, 1, 1, 0, 0, 1, 0, 0, 1]) 8, .blk 8, .c (sub f34_c [1, 1, 1, 1, 1, 1, 1, 0, 1, 0, 0, 1, 1, 0, 0, 1, 1]) 7, .blk 7, .c (sub f34_c [1, 1, 1, 1, 1, 1, 1, 0, 1, 0, 0, 1, 1, 1]) 6, .j (fun σ => R_l6 (cut f34_A.loops 6 σ)), .blk 6, .c (sub f34_c [1, 1, 1, 1, 1, 1, 1, 1]) 0]
noncomputable def f34_C_c30 (k : Nat) (R_l6 : f34_S) : f34_S := fun σ => f34_a k (f34_Q_c30 k R_l6) .nx σ
theorem f34_h1_1_1_1_1_1_1_0_1_0 : (sub f34_c [1, 1, 1, 1, 1, 1, 1, 0, 1, 0]) = .loop (sub f34_c [1, 1, 1, 1, 1, 1, 1, 0, 1, 0, 0]) := by kernel_rfl
theorem f34_h1_1_1_1_1_1_1_0_1 : (sub f34_c [1, 1, 1, 1, 1, 1, 1, 0, 1]) = .block 6 (sub f34_c [1, 1, 1, 1, 1, 1, 1, 0, 1, 0]) := by kernel_rfl
theorem f34_h1_1_1_1_1_1_1_0 : (sub f34_c [1, 1, 1, 1, 1, 1, 1, 0]) = .seq (sub f34_c [1, 1, 1, 1, 1, 1, 1, 0, 0]) (sub f34_c [1, 1, 1, 1, 1, 1, 1, 0, 1]) := by kernel_rfl
theorem f34_h1_1_1_1_1_1_1 : (sub f34_c [1, 1, 1, 1, 1, 1, 1]) = .seq (sub f34_c [1, 1, 1, 1, 1, 1, 1, 0]) (sub f34_c [1, 1, 1, 1, 1, 1, 1, 1]) := by kernel_rfl
theorem f34_h1_1_1_1_1_1 : (sub f34_c [1, 1, 1, 1, 1, 1]) = .seq (sub f34_c [1, 1, 1, 1, 1, 1, 0]) (sub f34_c [1, 1, 1, 1, 1, 1, 1]) := by kernel_rfl
theorem f34_h1_1_1_1_1_0_1_0 : (sub f34_c [1, 1, 1, 1, 1, 0, 1, 0]) = .loop (sub f34_c [1, 1, 1, 1, 1, 0, 1, 0, 0]) := by kernel_rfl
theorem f34_h1_1_1_1_1_0_1 : (sub f34_c [1, 1, 1, 1, 1, 0, 1]) = .block 3 (sub f34_c [1, 1, 1, 1, 1, 0, 1, 0]) := by kernel_rfl
theorem f34_h1_1_1_1_1_0 : (sub f34_c [1, 1, 1, 1, 1, 0]) = .seq (sub f34_c [1, 1, 1, 1, 1, 0, 0]) (sub f34_c [1, 1, 1, 1, 1, 0, 1]) := by kernel_rfl
theorem f34_h1_1_1_1_1 : (sub f34_c [1, 1, 1, 1, 1]) = .seq (sub f34_c [1, 1, 1, 1, 1, 0]) (sub f34_c [1, 1, 1, 1, 1, 1]) := by kernel_rfl
theorem f34_h1_1_1_1 : (sub f34_c [1, 1, 1, 1]) = .seq (sub f34_c [1, 1, 1, 1, 0]) (sub f34_c [1, 1, 1, 1, 1]) := by kernel_rfl
theorem f34_h1_1_1_0_1_0 : (sub f34_c [1, 1, 1, 0, 1, 0]) = .loop (sub f34_c [1, 1, 1, 0, 1, 0, 0]) := by kernel_rfl
theorem f34_h1_1_1_0_1 : (sub f34_c [1, 1, 1, 0, 1]) = .block 0 (sub f34_c [1, 1, 1, 0, 1, 0]) := by kernel_rfl
theorem f34_h1_1_1_0 : (sub f34_c [1, 1, 1, 0]) = .seq (sub f34_c [1, 1, 1, 0, 0]) (sub f34_c [1, 1, 1, 0, 1]) := by kernel_rfl
theorem f34_h1_1_1 : (sub f34_c [1, 1, 1]) = .seq (sub f34_c [1, 1, 1, 0]) (sub f34_c [1, 1, 1, 1]) := by kernel_rfl
theorem f34_h1_1 : (sub f34_c [1, 1]) = .seq (sub f34_c [1, 1, 0]) (sub f34_c [1, 1, 1]) := by kernel_rfl
theorem f34_h1_1_1_1_1_0_1_0_0_1_1_0_0_1_0_0 : (sub f34_c [1, 1, 1, 1, 1, 0, 1, 0, 0, 1, 1, 0, 0, 1, 0, 0]) = .seq (sub f34_c [1, 1, 1, 1, 1, 0, 1, 0, 0, 1, 1, 0, 0, 1, 0, 0, 0]) (sub f34_c [1, 1, 1, 1, 1, 0, 1, 0, 0, 1, 1, 0, 0, 1, 0, 0, 1]) := by kernel_rfl
theorem f34_h1_1_1_1_1_0_1_0_0_1_1_0_0_1_0 : (sub f34_c [1, 1, 1, 1, 1, 0, 1, 0, 0, 1, 1, 0, 0, 1, 0]) = .seq (sub f34_c [1, 1, 1, 1, 1, 0, 1, 0, 0, 1, 1, 0, 0, 1, 0, 0]) (sub f34_c [1, 1, 1, 1, 1, 0, 1, 0, 0, 1, 1, 0, 0, 1, 0, 1]) := by kernel_rfl
theorem f34_h1_1_1_1_1_0_1_0_0_1_1_0_0_1 : (sub f34_c [1, 1, 1, 1, 1, 0, 1, 0, 0, 1, 1, 0, 0, 1]) = .block 5 (sub f34_c [1, 1, 1, 1, 1, 0, 1, 0, 0, 1, 1, 0, 0, 1, 0]) := by kernel_rfl
theorem f34_h1_1_1_1_1_0_1_0_0_1_1_0_0 : (sub f34_c [1, 1, 1, 1, 1, 0, 1, 0, 0, 1, 1, 0, 0]) = .seq (sub f34_c [1, 1, 1, 1, 1, 0, 1, 0, 0, 1, 1, 0, 0, 0]) (sub f34_c [1, 1, 1, 1, 1, 0, 1, 0, 0, 1, 1, 0, 0, 1]) := by kernel_rfl
theorem f34_h1_1_1_1_1_0_1_0_0_1_1_0 : (sub f34_c [1, 1, 1, 1, 1, 0, 1, 0, 0, 1, 1, 0]) = .block 4 (sub f34_c [1, 1, 1, 1, 1, 0, 1, 0, 0, 1, 1, 0, 0]) := by kernel_rfl
theorem f34_h1_1_1_1_1_0_1_0_0_1_1 : (sub f34_c [1, 1, 1, 1, 1, 0, 1, 0, 0, 1, 1]) = .seq (sub f34_c [1, 1, 1, 1, 1, 0, 1, 0, 0, 1, 1, 0]) (sub f34_c [1, 1, 1, 1, 1, 0, 1, 0, 0, 1, 1, 1]) := by kernel_rfl
theorem f34_h1_1_1_1_1_0_1_0_0_1 : (sub f34_c [1, 1, 1, 1, 1, 0, 1, 0, 0, 1]) = .seq (sub f34_c [1, 1, 1, 1, 1, 0, 1, 0, 0, 1, 0]) (sub f34_c [1, 1, 1, 1, 1, 0, 1, 0, 0, 1, 1]) := by kernel_rfl
theorem f34_h1_1_1_1_1_0_1_0_0 : (sub f34_c [1, 1, 1, 1, 1, 0, 1, 0, 0]) = .seq (sub f34_c [1, 1, 1, 1, 1, 0, 1, 0, 0, 0]) (sub f34_c [1, 1, 1, 1, 1, 0, 1, 0, 0, 1]) := by kernel_rfl
theorem f34_h1_1_1_1_1_1_1_0_1_0_0_1_1_0_0_1_0_0_0 : (sub f34_c [1, 1, 1, 1, 1, 1, 1, 0, 1, 0, 0, 1, 1, 0, 0, 1, 0, 0, 0]) = .seq (sub f34_c [1, 1, 1, 1, 1, 1, 1, 0, 1, 0, 0, 1, 1, 0, 0, 1, 0, 0, 0, 0]) (sub f34_c [1, 1, 1, 1, 1, 1, 1, 0, 1, 0, 0, 1, 1, 0, 0, 1, 0, 0, 0, 1]) := by kernel_rfl
theorem f34_h1_1_1_1_1_1_1_0_1_0_0_1_1_0_0_1_0_0 : (sub f34_c [1, 1, 1, 1, 1, 1, 1, 0, 1, 0, 0, 1, 1, 0, 0, 1, 0, 0]) = .seq (sub f34_c [1, 1, 1, 1, 1, 1, 1, 0, 1, 0, 0, 1, 1, 0, 0, 1, 0, 0, 0]) (sub f34_c [1, 1, 1, 1, 1, 1, 1, 0, 1, 0, 0, 1, 1, 0, 0, 1, 0, 0, 1]) := by kernel_rfl
theorem f34_h1_1_1_1_1_1_1_0_1_0_0_1_1_0_0_1_0 : (sub f34_c [1, 1, 1, 1, 1, 1, 1, 0, 1, 0, 0, 1, 1, 0, 0, 1, 0]) = .block 8 (sub f34_c [1, 1, 1, 1, 1, 1, 1, 0, 1, 0, 0, 1, 1, 0, 0, 1, 0, 0]) := by kernel_rfl
theorem f34_h1_1_1_1_1_1_1_0_1_0_0_1_1_0_0_1 : (sub f34_c [1, 1, 1, 1, 1, 1, 1, 0, 1, 0, 0, 1, 1, 0, 0, 1]) = .seq (sub f34_c [1, 1, 1, 1, 1, 1, 1, 0, 1, 0, 0, 1, 1, 0, 0, 1, 0]) (sub f34_c [1, 1, 1, 1, 1, 1, 1, 0, 1, 0, 0, 1, 1, 0, 0, 1, 1]) := by kernel_rfl
theorem f34_h1_1_1_1_1_1_1_0_1_0_0_1_1_0_0 : (sub f34_c [1, 1, 1, 1, 1, 1, 1, 0, 1, 0, 0, 1, 1, 0, 0]) = .seq (sub f34_c [1, 1, 1, 1, 1, 1, 1, 0, 1, 0, 0, 1, 1, 0, 0, 0]) (sub f34_c [1, 1, 1, 1, 1, 1, 1, 0, 1, 0, 0, 1, 1, 0, 0, 1]) := by kernel_rfl
theorem f34_h1_1_1_1_1_1_1_0_1_0_0_1_1_0 : (sub f34_c [1, 1, 1, 1, 1, 1, 1, 0, 1, 0, 0, 1, 1, 0]) = .block 7 (sub f34_c [1, 1, 1, 1, 1, 1, 1, 0, 1, 0, 0, 1, 1, 0, 0]) := by kernel_rfl
theorem f34_h1_1_1_1_1_1_1_0_1_0_0_1_1 : (sub f34_c [1, 1, 1, 1, 1, 1, 1, 0, 1, 0, 0, 1, 1]) = .seq (sub f34_c [1, 1, 1, 1, 1, 1, 1, 0, 1, 0, 0, 1, 1, 0]) (sub f34_c [1, 1, 1, 1, 1, 1, 1, 0, 1, 0, 0, 1, 1, 1]) := by kernel_rfl
theorem f34_h1_1_1_1_1_1_1_0_1_0_0_1 : (sub f34_c [1, 1, 1, 1, 1, 1, 1, 0, 1, 0, 0, 1]) = .seq (sub f34_c [1, 1, 1, 1, 1, 1, 1, 0, 1, 0, 0, 1, 0]) (sub f34_c [1, 1, 1, 1, 1, 1, 1, 0, 1, 0, 0, 1, 1]) := by kernel_rfl
theorem f34_h1_1_1_1_1_1_1_0_1_0_0 : (sub f34_c [1, 1, 1, 1, 1, 1, 1, 0, 1, 0, 0]) = .seq (sub f34_c [1, 1, 1, 1, 1, 1, 1, 0, 1, 0, 0, 0]) (sub f34_c [1, 1, 1, 1, 1, 1, 1, 0, 1, 0, 0, 1]) := by kernel_rfl
theorem f34_h1_0 : (sub f34_c [1, 0]) = .seq (sub f34_c [1, 0, 0]) (sub f34_c [1, 0, 1]) := by kernel_rfl
theorem f34_h1 : (sub f34_c [1]) = .seq (sub f34_c [1, 0]) (sub f34_c [1, 1]) := by kernel_rfl
theorem f34_h : f34_c = .seq (sub f34_c [0]) (sub f34_c [1]) := by kernel_rfl
noncomputable def f34_F_r1 (k : Nat) (G_l0 : f34_S) (G_l3 : f34_S) (G_l6 : f34_S) : List (Fr (RDL f34_rs)) := .c (sub f34_c [1, 0, 1]) 0 :: .c (sub f34_c [1, 1, 0]) 0 :: .c (sub f34_c [1, 1, 1, 0, 0]) 0 :: .j (fun σ => f34_a k (.j (fun σ => G_l0 (cut f34_A.loops 0 σ)) :: .blk 0 :: .c (sub f34_c [1, 1, 1, 1, 0]) 0 :: .c (sub f34_c [1, 1, 1, 1, 1, 0, 0]) 0 :: .j (fun σ => f34_a k (.j (fun σ => G_l3 (cut f34_A.loops 3 σ)) :: .blk 3 :: .c (sub f34_c [1, 1, 1, 1, 1, 1, 0]) 0 :: .c (sub f34_c [1, 1, 1, 1, 1, 1, 1, 0, 0]) 0 :: .j (fun σ => f34_a k (.j (fun σ => G_l6 (cut f34_A.loops 6 σ)) :: .blk 6 :: .c (sub f34_c [1, 1, 1, 1, 1, 1, 1, 1]) 0 :: []) .nx σ) :: .c (sub f34_c [1, 1, 1, 1, 1, 1, 1, 1]) 0 :: []) .nx σ) :: .c (sub f34_c [1, 1, 1, 1, 1, 1, 0]) 0 :: .c (sub f34_c [1, 1, 1, 1, 1, 1, 1, 0, 0]) 0 :: .j (fun σ => f34_a k (.j (fun σ => G_l6 (cut f34_A.loops 6 σ)) :: .blk 6 :: .c (sub f34_c [1, 1, 1, 1, 1, 1, 1, 1]) 0 :: []) .nx σ) :: .c (sub f34_c [1, 1, 1, 1, 1, 1, 1, 1]) 0 :: []) .nx σ) :: .c (sub f34_c [1, 1, 1, 1, 0]) 0 :: .c (sub f34_c [1, 1, 1, 1, 1, 0, 0]) 0 :: .j (fun σ => f34_a k (.j (fun σ => G_l3 (cut f34_A.loops 3 σ)) :: .blk 3 :: .c (sub f34_c [1, 1, 1, 1, 1, 1, 0]) 0 :: .c (sub f34_c [1, 1, 1, 1, 1, 1, 1, 0, 0]) 0 :: .j (fun σ => f34_a k (.j (fun σ => G_l6 (cut f34_A.loops 6 σ)) :: .blk 6 :: .c (sub f34_c [1, 1, 1, 1, 1, 1, 1, 1]) 0 :: []) .nx σ) :: .c (sub f34_c [1, 1, 1, 1, 1, 1, 1, 1]) 0 :: []) .nx σ) :: .c (sub f34_c [1, 1, 1, 1, 1, 1, 0]) 0 :: .c (sub f34_c [1, 1, 1, 1, 1, 1, 1, 0, 0]) 0 :: .j (fun σ => f34_a k (.j (fun σ => G_l6 (cut f34_A.loops 6 σ)) :: .blk 6 :: .c (sub f34_c [1, 1, 1, 1, 1, 1, 1, 1]) 0 :: []) .nx σ) :: .c (sub f34_c [1, 1, 1, 1, 1, 1, 1, 1]) 0 :: []
theorem f34_f_r1 (k : Nat) : f34_a k (f34_Q_r1 k) = f34_a k (f34_F_r1 k (f34_C_l0 k k) (f34_C_l3 k k) (f34_C_l6 k k)) := (ap_cons _ (Eq.trans (ap_seq f34_h1_1) (ap_cons _ (Eq.trans (ap_seq f34_h1_1_1) (Eq.trans (ap_seq f34_h1_1_1_0) (ap_cons _ (Eq.trans (ap_block f34_h1_1_1_0_1) (Eq.trans (ap_j (Eq.trans (ap_loop (C := (f34_C_l0 k)) f34_h1_1_1_0_1_0 (fun _ _ => rfl)) (ap_cons _ (ap_cons _ (Eq.trans (ap_seq f34_h1_1_1_1) (ap_cons _ (Eq.trans (ap_seq f34_h1_1_1_1_1) (Eq.trans (ap_seq f34_h1_1_1_1_1_0) (ap_cons _ (Eq.trans (ap_block f34_h1_1_1_1_1_0_1) (Eq.trans (ap_j (Eq.trans (ap_loop (C := (f34_C_l3 k)) f34_h1_1_1_1_1_0_1_0 (fun _ _ => rfl)) (ap_cons _ (ap_cons _ (Eq.trans (ap_seq f34_h1_1_1_1_1_1) (ap_cons _ (Eq.trans (ap_seq f34_h1_1_1_1_1_1_1) (Eq.trans (ap_seq f34_h1_1_1_1_1_1_1_0) (ap_cons _ (Eq.trans (ap_block f34_h1_1_1_1_1_1_1_0_1) (Eq.trans (ap_j (Eq.trans (ap_loop (C := (f34_C_l6 k)) f34_h1_1_1_1_1_1_1_0_1_0 (fun _ _ => rfl)) (ap_cons _ (ap_cons _ (ap_cons _ rfl))))) (ap_cons _ (ap_cons _ rfl))))))))))))) (ap_cons _ (Eq.trans (ap_seq f34_h1_1_1_1_1_1) (ap_cons _ (Eq.trans (ap_seq f34_h1_1_1_1_1_1_1) (Eq.trans (ap_seq f34_h1_1_1_1_1_1_1_0) (ap_cons _ (Eq.trans (ap_block f34_h1_1_1_1_1_1_1_0_1) (Eq.trans (ap_j (Eq.trans (ap_loop (C := (f34_C_l6 k)) f34_h1_1_1_1_1_1_1_0_1_0 (fun _ _ => rfl)) (ap_cons _ (ap_cons _ (ap_cons _ rfl))))) (ap_cons _ (ap_cons _ rfl))))))))))))))))))))) (ap_cons _ (Eq.trans (ap_seq f34_h1_1_1_1) (ap_cons _ (Eq.trans (ap_seq f34_h1_1_1_1_1) (Eq.trans (ap_seq f34_h1_1_1_1_1_0) (ap_cons _ (Eq.trans (ap_block f34_h1_1_1_1_1_0_1) (Eq.trans (ap_j (Eq.trans (ap_loop (C := (f34_C_l3 k)) f34_h1_1_1_1_1_0_1_0 (fun _ _ => rfl)) (ap_cons _ (ap_cons _ (Eq.trans (ap_seq f34_h1_1_1_1_1_1) (ap_cons _ (Eq.trans (ap_seq f34_h1_1_1_1_1_1_1) (Eq.trans (ap_seq f34_h1_1_1_1_1_1_1_0) (ap_cons _ (Eq.trans (ap_block f34_h1_1_1_1_1_1_1_0_1) (Eq.trans (ap_j (Eq.trans (ap_loop (C := (f34_C_l6 k)) f34_h1_1_1_1_1_1_1_0_1_0 (fun _ _ => rfl)) (ap_cons _ (ap_cons _ (ap_cons _ rfl))))) (ap_cons _ (ap_cons _ rfl))))))))))))) (ap_cons _ (Eq.trans (ap_seq f34_h1_1_1_1_1_1) (ap_cons _ (Eq.trans (ap_seq f34_h1_1_1_1_1_1_1) (Eq.trans (ap_seq f34_h1_1_1_1_1_1_1_0) (ap_cons _ (Eq.trans (ap_block f34_h1_1_1_1_1_1_1_0_1) (Eq.trans (ap_j (Eq.trans (ap_loop (C := (f34_C_l6 k)) f34_h1_1_1_1_1_1_1_0_1_0 (fun _ _ => rfl)) (ap_cons _ (ap_cons _ (ap_cons _ rfl))))) (ap_cons _ (ap_cons _ rfl))))))))))))))))))))))))))
noncomputable def f34_F_l0 (k : Nat) (G_l0 : f34_S) (G_l3 : f34_S) (G_l6 : f34_S) : List (Fr (RDL f34_rs)) := .c (sub f34_c [1, 1, 1, 0, 1, 0, 0]) 0 :: .j (fun σ => G_l0 (cut f34_A.loops 0 σ)) :: .blk 0 :: .c (sub f34_c [1, 1, 1, 1, 0]) 0 :: .c (sub f34_c [1, 1, 1, 1, 1, 0, 0]) 0 :: .j (fun σ => f34_a k (.j (fun σ => G_l3 (cut f34_A.loops 3 σ)) :: .blk 3 :: .c (sub f34_c [1, 1, 1, 1, 1, 1, 0]) 0 :: .c (sub f34_c [1, 1, 1, 1, 1, 1, 1, 0, 0]) 0 :: .j (fun σ => f34_a k (.j (fun σ => G_l6 (cut f34_A.loops 6 σ)) :: .blk 6 :: .c (sub f34_c [1, 1, 1, 1, 1, 1, 1, 1]) 0 :: []) .nx σ) :: .c (sub f34_c [1, 1, 1, 1, 1, 1, 1, 1]) 0 :: []) .nx σ) :: .c (sub f34_c [1, 1, 1, 1, 1, 1, 0]) 0 :: .c (sub f34_c [1, 1, 1, 1, 1, 1, 1, 0, 0]) 0 :: .j (fun σ => f34_a k (.j (fun σ => G_l6 (cut f34_A.loops 6 σ)) :: .blk 6 :: .c (sub f34_c [1, 1, 1, 1, 1, 1, 1, 1]) 0 :: []) .nx σ) :: .c (sub f34_c [1, 1, 1, 1, 1, 1, 1, 1]) 0 :: []
theorem f34_f_l0 (k : Nat) (R_l0 : f34_S) : f34_a k (f34_Q_l0 k R_l0) = f34_a k (f34_F_l0 k R_l0 (f34_C_l3 k k) (f34_C_l6 k k)) := (ap_cons _ (ap_cons _ (ap_cons _ (Eq.trans (ap_seq f34_h1_1_1_1) (ap_cons _ (Eq.trans (ap_seq f34_h1_1_1_1_1) (Eq.trans (ap_seq f34_h1_1_1_1_1_0) (ap_cons _ (Eq.trans (ap_block f34_h1_1_1_1_1_0_1) (Eq.trans (ap_j (Eq.trans (ap_loop (C := (f34_C_l3 k)) f34_h1_1_1_1_1_0_1_0 (fun _ _ => rfl)) (ap_cons _ (ap_cons _ (Eq.trans (ap_seq f34_h1_1_1_1_1_1) (ap_cons _ (Eq.trans (ap_seq f34_h1_1_1_1_1_1_1) (Eq.trans (ap_seq f34_h1_1_1_1_1_1_1_0) (ap_cons _ (Eq.trans (ap_block f34_h1_1_1_1_1_1_1_0_1) (Eq.trans (ap_j (Eq.trans (ap_loop (C := (f34_C_l6 k)) f34_h1_1_1_1_1_1_1_0_1_0 (fun _ _ => rfl)) (ap_cons _ (ap_cons _ (ap_cons _ rfl))))) (ap_cons _ (ap_cons _ rfl))))))))))))) (ap_cons _ (Eq.trans (ap_seq f34_h1_1_1_1_1_1) (ap_cons _ (Eq.trans (ap_seq f34_h1_1_1_1_1_1_1) (Eq.trans (ap_seq f34_h1_1_1_1_1_1_1_0) (ap_cons _ (Eq.trans (ap_block f34_h1_1_1_1_1_1_1_0_1) (Eq.trans (ap_j (Eq.trans (ap_loop (C := (f34_C_l6 k)) f34_h1_1_1_1_1_1_1_0_1_0 (fun _ _ => rfl)) (ap_cons _ (ap_cons _ (ap_cons _ rfl))))) (ap_cons _ (ap_cons _ rfl))))))))))))))))))))
noncomputable def f34_F_c18 (k : Nat) (G_l3 : f34_S) (G_l6 : f34_S) : List (Fr (RDL f34_rs)) := .c (sub f34_c [1, 1, 1, 1, 1, 0, 1, 0, 0, 1, 1, 0, 0, 1, 0, 1]) 5 :: .blk 5 :: .blk 4 :: .c (sub f34_c [1, 1, 1, 1, 1, 0, 1, 0, 0, 1, 1, 1]) 3 :: .j (fun σ => G_l3 (cut f34_A.loops 3 σ)) :: .blk 3 :: .c (sub f34_c [1, 1, 1, 1, 1, 1, 0]) 0 :: .c (sub f34_c [1, 1, 1, 1, 1, 1, 1, 0, 0]) 0 :: .j (fun σ => f34_a k (.j (fun σ => G_l6 (cut f34_A.loops 6 σ)) :: .blk 6 :: .c (sub f34_c [1, 1, 1, 1, 1, 1, 1, 1]) 0 :: []) .nx σ) :: .c (sub f34_c [1, 1, 1, 1, 1, 1, 1, 1]) 0 :: []
theorem f34_f_c18 (k : Nat) (R_l3 : f34_S) : f34_a k (f34_Q_c18 k R_l3) = f34_a k (f34_F_c18 k R_l3 (f34_C_l6 k k)) := (ap_cons _ (ap_cons _ (ap_cons _ (ap_cons _ (ap_cons _ (ap_cons _ (Eq.trans (ap_seq f34_h1_1_1_1_1_1) (ap_cons _ (Eq.trans (ap_seq f34_h1_1_1_1_1_1_1) (Eq.trans (ap_seq f34_h1_1_1_1_1_1_1_0) (ap_cons _ (Eq.trans (ap_block f34_h1_1_1_1_1_1_1_0_1) (Eq.trans (ap_j (Eq.trans (ap_loop (C := (f34_C_l6 k)) f34_h1_1_1_1_1_1_1_0_1_0 (fun _ _ => rfl)) (ap_cons _ (ap_cons _ (ap_cons _ rfl))))) (ap_cons _ (ap_cons _ rfl)))))))))))))))
noncomputable def f34_F_l3 (k : Nat) (G_l3 : f34_S) (G_c18 : f34_S) (G_l6 : f34_S) : List (Fr (RDL f34_rs)) := .c (sub f34_c [1, 1, 1, 1, 1, 0, 1, 0, 0, 0]) 3 :: .c (sub f34_c [1, 1, 1, 1, 1, 0, 1, 0, 0, 1, 0]) 3 :: .j (fun σ => f34_a k (.c (sub f34_c [1, 1, 1, 1, 1, 0, 1, 0, 0, 1, 1, 0, 0, 0]) 4 :: .j (fun σ => f34_a k (.c (sub f34_c [1, 1, 1, 1, 1, 0, 1, 0, 0, 1, 1, 0, 0, 1, 0, 0, 0]) 5 :: .c (sub f34_c [1, 1, 1, 1, 1, 0, 1, 0, 0, 1, 1, 0, 0, 1, 0, 0, 1]) 5 :: .j G_c18 :: f34_F_c18 k G_l3 G_l6) .nx σ) :: .blk 4 :: .c (sub f34_c [1, 1, 1, 1, 1, 0, 1, 0, 0, 1, 1, 1]) 3 :: .j (fun σ => G_l3 (cut f34_A.loops 3 σ)) :: .blk 3 :: .c (sub f34_c [1, 1, 1, 1, 1, 1, 0]) 0 :: .c (sub f34_c [1, 1, 1, 1, 1, 1, 1, 0, 0]) 0 :: .j (fun σ => f34_a k (.j (fun σ => G_l6 (cut f34_A.loops 6 σ)) :: .blk 6 :: .c (sub f34_c [1, 1, 1, 1, 1, 1, 1, 1]) 0 :: []) .nx σ) :: .c (sub f34_c [1, 1, 1, 1, 1, 1, 1, 1]) 0 :: []) .nx σ) :: .c (sub f34_c [1, 1, 1, 1, 1, 0, 1, 0, 0, 1, 1, 1]) 3 :: .j (fun σ => G_l3 (cut f34_A.loops 3 σ)) :: .blk 3 :: .c (sub f34_c [1, 1, 1, 1, 1, 1, 0]) 0 :: .c (sub f34_c [1, 1, 1, 1, 1, 1, 1, 0, 0]) 0 :: .j (fun σ => f34_a k (.j (fun σ => G_l6 (cut f34_A.loops 6 σ)) :: .blk 6 :: .c (sub f34_c [1, 1, 1, 1, 1, 1, 1, 1]) 0 :: []) .nx σ) :: .c (sub f34_c [1, 1, 1, 1, 1, 1, 1, 1]) 0 :: []
theorem f34_f_l3 (k : Nat) (R_l3 : f34_S) : f34_a k (f34_Q_l3 k R_l3) = f34_a k (f34_F_l3 k R_l3 (f34_C_c18 k R_l3) (f34_C_l6 k k)) := (Eq.trans (ap_seq f34_h1_1_1_1_1_0_1_0_0) (ap_cons _ (Eq.trans (ap_seq f34_h1_1_1_1_1_0_1_0_0_1) (ap_cons _ (Eq.trans (ap_seq f34_h1_1_1_1_1_0_1_0_0_1_1) (Eq.trans (ap_block f34_h1_1_1_1_1_0_1_0_0_1_1_0) (Eq.trans (ap_j (Eq.trans (ap_seq f34_h1_1_1_1_1_0_1_0_0_1_1_0_0) (ap_cons _ (Eq.trans (ap_block f34_h1_1_1_1_1_0_1_0_0_1_1_0_0_1) (Eq.trans (ap_j (Eq.trans (ap_seq f34_h1_1_1_1_1_0_1_0_0_1_1_0_0_1_0) (Eq.trans (ap_seq f34_h1_1_1_1_1_0_1_0_0_1_1_0_0_1_0_0) (ap_cons _ (ap_cons _ (Eq.trans (ap_pass (C := (f34_C_c18 k R_l3)) (fun _ => rfl)) (ap_cons _ (f34_f_c18 k R_l3)))))))) (ap_cons _ (ap_cons _ (ap_cons _ (ap_cons _ (ap_cons _ (Eq.trans (ap_seq f34_h1_1_1_1_1_1) (ap_cons _ (Eq.trans (ap_seq f34_h1_1_1_1_1_1_1) (Eq.trans (ap_seq f34_h1_1_1_1_1_1_1_0) (ap_cons _ (Eq.trans (ap_block f34_h1_1_1_1_1_1_1_0_1) (Eq.trans (ap_j (Eq.trans (ap_loop (C := (f34_C_l6 k)) f34_h1_1_1_1_1_1_1_0_1_0 (fun _ _ => rfl)) (ap_cons _ (ap_cons _ (ap_cons _ rfl))))) (ap_cons _ (ap_cons _ rfl))))))))))))))))))) (ap_cons _ (ap_cons _ (ap_cons _ (ap_cons _ (Eq.trans (ap_seq f34_h1_1_1_1_1_1) (ap_cons _ (Eq.trans (ap_seq f34_h1_1_1_1_1_1_1) (Eq.trans (ap_seq f34_h1_1_1_1_1_1_1_0) (ap_cons _ (Eq.trans (ap_block f34_h1_1_1_1_1_1_1_0_1) (Eq.trans (ap_j (Eq.trans (ap_loop (C := (f34_C_l6 k)) f34_h1_1_1_1_1_1_1_0_1_0 (fun _ _ => rfl)) (ap_cons _ (ap_cons _ (ap_cons _ rfl))))) (ap_cons _ (ap_cons _ rfl))))))))))))))))))))
noncomputable def f34_F_c30 (k : Nat) (G_l6 : f34_S) : List (Fr (RDL f34_rs)) := .c (sub f34_c [1, 1, 1, 1, 1, 1, 1, 0, 1, 0, 0, 1, 1, 0, 0, 1, 0, 0, 1]) 8 :: .blk 8 :: .c (sub f34_c [1, 1, 1, 1, 1, 1, 1, 0, 1, 0, 0, 1, 1, 0, 0, 1, 1]) 7 :: .blk 7 :: .c (sub f34_c [1, 1, 1, 1, 1, 1, 1, 0, 1, 0, 0, 1, 1, 1]) 6 :: .j (fun σ => G_l6 (cut f34_A.loops 6 σ)) :: .blk 6 :: .c (sub f34_c [1, 1, 1, 1, 1, 1, 1, 1]) 0 :: []
theorem f34_f_c30 (k : Nat) (R_l6 : f34_S) : f34_a k (f34_Q_c30 k R_l6) = f34_a k (f34_F_c30 k R_l6) := (ap_cons _ (ap_cons _ (ap_cons _ (ap_cons _ (ap_cons _ (ap_cons _ (ap_cons _ (ap_cons _ rfl))))))))
noncomputable def f34_F_l6 (k : Nat) (G_l6 : f34_S) (G_c30 : f34_S) : List (Fr (RDL f34_rs)) := .c (sub f34_c [1, 1, 1, 1, 1, 1, 1, 0, 1, 0, 0, 0]) 6 :: .c (sub f34_c [1, 1, 1, 1, 1, 1, 1, 0, 1, 0, 0, 1, 0]) 6 :: .j (fun σ => f34_a k (.c (sub f34_c [1, 1, 1, 1, 1, 1, 1, 0, 1, 0, 0, 1, 1, 0, 0, 0]) 7 :: .j (fun σ => f34_a k (.c (sub f34_c [1, 1, 1, 1, 1, 1, 1, 0, 1, 0, 0, 1, 1, 0, 0, 1, 0, 0, 0, 0]) 8 :: .c (sub f34_c [1, 1, 1, 1, 1, 1, 1, 0, 1, 0, 0, 1, 1, 0, 0, 1, 0, 0, 0, 1]) 8 :: .j G_c30 :: f34_F_c30 k G_l6) .nx σ) :: .c (sub f34_c [1, 1, 1, 1, 1, 1, 1, 0, 1, 0, 0, 1, 1, 0, 0, 1, 1]) 7 :: .blk 7 :: .c (sub f34_c [1, 1, 1, 1, 1, 1, 1, 0, 1, 0, 0, 1, 1, 1]) 6 :: .j (fun σ => G_l6 (cut f34_A.loops 6 σ)) :: .blk 6 :: .c (sub f34_c [1, 1, 1, 1, 1, 1, 1, 1]) 0 :: []) .nx σ) :: .c (sub f34_c [1, 1, 1, 1, 1, 1, 1, 0, 1, 0, 0, 1, 1, 1]) 6 :: .j (fun σ => G_l6 (cut f34_A.loops 6 σ)) :: .blk 6 :: .c (sub f34_c [1, 1, 1, 1, 1, 1, 1, 1]) 0 :: []
theorem f34_f_l6 (k : Nat) (R_l6 : f34_S) : f34_a k (f34_Q_l6 k R_l6) = f34_a k (f34_F_l6 k R_l6 (f34_C_c30 k R_l6)) := (Eq.trans (ap_seq f34_h1_1_1_1_1_1_1_0_1_0_0) (ap_cons _ (Eq.trans (ap_seq f34_h1_1_1_1_1_1_1_0_1_0_0_1) (ap_cons _ (Eq.trans (ap_seq f34_h1_1_1_1_1_1_1_0_1_0_0_1_1) (Eq.trans (ap_block f34_h1_1_1_1_1_1_1_0_1_0_0_1_1_0) (Eq.trans (ap_j (Eq.trans (ap_seq f34_h1_1_1_1_1_1_1_0_1_0_0_1_1_0_0) (ap_cons _ (Eq.trans (ap_seq f34_h1_1_1_1_1_1_1_0_1_0_0_1_1_0_0_1) (Eq.trans (ap_block f34_h1_1_1_1_1_1_1_0_1_0_0_1_1_0_0_1_0) (Eq.trans (ap_j (Eq.trans (ap_seq f34_h1_1_1_1_1_1_1_0_1_0_0_1_1_0_0_1_0_0) (Eq.trans (ap_seq f34_h1_1_1_1_1_1_1_0_1_0_0_1_1_0_0_1_0_0_0) (ap_cons _ (ap_cons _ (Eq.trans (ap_pass (C := (f34_C_c30 k R_l6)) (fun _ => rfl)) (ap_cons _ (f34_f_c30 k R_l6)))))))) (ap_cons _ (ap_cons _ (ap_cons _ (ap_cons _ (ap_cons _ (ap_cons _ (ap_cons _ rfl))))))))))))) (ap_cons _ (ap_cons _ (ap_cons _ (ap_cons _ (ap_cons _ rfl))))))))))))
def f34_entry_B (k : Nat) (g_r1 : (List (Int × Int)) → (List (Int × (Int × (Int × Int)))) → (List (Int × Int)) → Bool → Option (Int × Unit)) (a0 : ((List (Int × Int)) × ((List (Int × (Int × (Int × Int)))) × (List (Int × Int))))) : Option (Int × Unit) := (if 200 < (a0.1.length : Int) then (g_r1 a0.1 a0.2.1 a0.2.2 true) else (if 600 < (a0.2.1.length : Int) then (g_r1 a0.1 a0.2.1 a0.2.2 true) else (g_r1 a0.1 a0.2.1 a0.2.2 (decide (600 < (a0.2.2.length : Int))))))
def f34_r1_B (k : Nat) (g_l0 : (List (Int × Int)) → (List (Int × (Int × (Int × Int)))) → (List (Int × Int)) → (List (Int × Int)) → Int → Int → Option (Int × Unit)) (y1_0 : (List (Int × Int))) (y1_1 : (List (Int × (Int × (Int × Int))))) (y1_2 : (List (Int × Int))) (x27 : Bool) : Option (Int × Unit) := (if x27 = true then some (2, ()) else (g_l0 y1_0 y1_1 y1_2 ([] : List (Int × Int)) (y1_0.length : Int) 0))
def f34_l0_B (k : Nat) (g_l0 : (List (Int × Int)) → (List (Int × (Int × (Int × Int)))) → (List (Int × Int)) → (List (Int × Int)) → Int → Int → Option (Int × Unit)) (g_l3 : (List (Int × Int)) → (List (Int × (Int × (Int × Int)))) → (List (Int × Int)) → Int → Int → Option (Int × Unit)) (y1_0 : (List (Int × Int))) (y1_1 : (List (Int × (Int × (Int × Int))))) (y1_2 : (List (Int × Int))) (y28 : (List (Int × Int))) (x31 : Int) (x32 : Int) : Option (Int × Unit) := (if x32 < x31 then (if 0 ≤ x32 then (if x32 < (y1_0.length : Int) then ((f71 k ((y1_0.getD (x32).toNat (0, 0)).1, (y1_0.getD (x32).toNat (0, 0)).2)).bind fun r1 => (if ¬ (r1.1 = true) then some (1, ()) else (if ((y1_0.getD (x32).toNat (0, 0)).1, (y1_0.getD (x32).toNat (0, 0)).2) ∈ y28 then some (5, ()) else (g_l0 y1_0 y1_1 y1_2 (y28 ++ [((y1_0.getD (x32).toNat (0, 0)).1, (y1_0.getD (x32).toNat (0, 0)).2)]) x31 (w64 (x32 + 1)))))) else none) else none) else (g_l3 y1_0 y1_1 y1_2 (y1_1.length : Int) 0))
def f34_l3_B (k : Nat) (g_c18 : (List (Int × Int)) → (List (Int × (Int × (Int × Int)))) → (List (Int × Int)) → Int → Int → Int → Int → Int → Int → Bool → Option (Int × Unit)) (g_l6 : (List (Int × Int)) → (List (Int × (Int × (Int × Int)))) → (List (Int × Int)) → (List (Int × Int)) → Int → Int → Option (Int × Unit)) (y1_0 : (List (Int × Int))) (y1_1 : (List (Int × (Int × (Int × Int))))) (y1_2 : (List (Int × Int))) (x49 : Int) (x50 : Int) : Option (Int × Unit) := (if x50 < x49 then (if 0 ≤ x50 then (if x50 < (y1_1.length : Int) then ((f72 k ((y1_1.getD (x50).toNat (0, (0, (0, 0)))).1) (y1_0.length : Int)).bind fun r1 => (if ¬ (r1.1 = true) then (g_c18 y1_0 y1_1 y1_2 ((y1_1.getD (x50).toNat (0, (0, (0, 0)))).1) (((y1_1.getD (x50).toNat (0, (0, (0, 0)))).2).1) ((((y1_1.getD (x50).toNat (0, (0, (0, 0)))).2).2).1) ((((y1_1.getD (x50).toNat (0, (0, (0, 0)))).2).2).2) x49 x50 (decide (¬ (r1.1 = true)))) else ((f72 k (((y1_1.getD (x50).toNat (0, (0, (0, 0)))).2).1) (y1_0.length : Int)).bind fun r2 => (if ¬ (r2.1 = true) then (g_c18 y1_0 y1_1 y1_2 ((y1_1.getD (x50).toNat (0, (0, (0, 0)))).1) (((y1_1.getD (x50).toNat (0, (0, (0, 0)))).2).1) ((((y1_1.getD (x50).toNat (0, (0, (0, 0)))).2).2).1) ((((y1_1.getD (x50).toNat (0, (0, (0, 0)))).2).2).2) x49 x50 (decide (¬ (r2.1 = true)))) else (if ((((y1_1.getD (x50).toNat (0, (0, (0, 0)))).2).2).1) < 0 then (g_c18 y1_0 y1_1 y1_2 ((y1_1.getD (x50).toNat (0, (0, (0, 0)))).1) (((y1_1.getD (x50).toNat (0, (0, (0, 0)))).2).1) ((((y1_1.getD (x50).toNat (0, (0, (0, 0)))).2).2).1) ((((y1_1.getD (x50).toNat (0, (0, (0, 0)))).2).2).2) x49 x50 (decide (((((y1_1.getD (x50).toNat (0, (0, (0, 0)))).2).2).1) < 0))) else (g_c18 y1_0 y1_1 y1_2 ((y1_1.getD (x50).toNat (0, (0, (0, 0)))).1) (((y1_1.getD (x50).toNat (0, (0, (0, 0)))).2).1) ((((y1_1.getD (x50).toNat (0, (0, (0, 0)))).2).2).1) ((((y1_1.getD (x50).toNat (0, (0, (0, 0)))).2).2).2) x49 x50 (decide (1099511627776 < ((((y1_1.getD (x50).toNat (0, (0, (0, 0)))).2).2).1))))))))) else none) else none) else (g_l6 y1_0 y1_1 y1_2 ([] : List (Int × Int)) (y1_2.length : Int) 0))
def f34_c18_B (k : Nat) (g_l3 : (List (Int × Int)) → (List (Int × (Int × (Int × Int)))) → (List (Int × Int)) → Int → Int → Option (Int × Unit)) (y1_0 : (List (Int × Int))) (y1_1 : (List (Int × (Int × (Int × Int))))) (y1_2 : (List (Int × Int))) (y8_0 : Int) (y8_1 : Int) (y8_2 : Int) (y8_3 : Int) (x49 : Int) (x50 : Int) (x54 : Bool) : Option (Int × Unit) := (if x54 = true then some (1, ()) else (if y8_0 = y8_1 then some (11, ()) else (g_l3 y1_0 y1_1 y1_2 x49 (w64 (x50 + 1)))))
def f34_l6_B (k : Nat) (g_c30 : (List (Int × Int)) → (List (Int × (Int × (Int × Int)))) → (List (Int × Int)) → Int → Int → (List (Int × Int)) → Int → Int → Bool → Option (Int × Unit)) (y1_0 : (List (Int × Int))) (y1_1 : (List (Int × (Int × (Int × Int))))) (y1_2 : (List (Int × Int))) (y84 : (List (Int × Int))) (x87 : Int) (x88 : Int) : Option (Int × Unit) := (if x88 < x87 then (if 0 ≤ x88 then (if x88 < (y1_2.length : Int) then ((f72 k ((y1_2.getD (x88).toNat (0, 0)).1) (y1_1.length : Int)).bind fun r1 => (if ¬ (r1.1 = true) then (g_c30 y1_0 y1_1 y1_2 ((y1_2.getD (x88).toNat (0, 0)).1) ((y1_2.getD (x88).toNat (0, 0)).2) y84 x87 x88 (decide (¬ (r1.1 = true)))) else ((f72 k ((y1_2.getD (x88).toNat (0, 0)).2) (y1_1.length : Int)).bind fun r2 => (g_c30 y1_0 y1_1 y1_2 ((y1_2.getD (x88).toNat (0, 0)).1) ((y1_2.getD (x88).toNat (0, 0)).2) y84 x87 x88 (decide (¬ (r2.1 = true))))))) else none) else none) else some (0, ()))
def f34_c30_B (k : Nat) (g_l6 : (List (Int × Int)) → (List (Int × (Int × (Int × Int)))) → (List (Int × Int)) → (List (Int × Int)) → Int → Int → Option (Int × Unit)) (y1_0 : (List (Int × Int))) (y1_1 : (List (Int × (Int × (Int × Int))))) (y1_2 : (List (Int × Int))) (y11_0 : Int) (y11_1 : Int) (y84 : (List (Int × Int))) (x87 : Int) (x88 : Int) (x92 : Bool) : Option (Int × Unit) := (if x92 = true then some (1, ()) else (if 0 ≤ y11_0 then (if y11_0 < (y1_1.length : Int) then (if 0 ≤ y11_1 then (if y11_1 < (y1_1.length : Int) then (if ¬ ((((y1_1.getD (y11_0).toNat (0, (0, (0, 0)))).2).1) = ((y1_1.getD (y11_1).toNat (0, (0, (0, 0)))).1)) then some (9, ()) else (if (y11_0, y11_1) ∈ y84 then some (5, ()) else (g_l6 y1_0 y1_1 y1_2 (y84 ++ [(y11_0, y11_1)]) x87 (w64 (x88 + 1))))) else none) else none) else none) else none))
theorem f34_c18_P (k : Nat) (G_l3 : f34_S) (G_l6 : f34_S) (y1_0 : (List (Int × Int))) (y1_1 : (List (Int × (Int × (Int × Int))))) (y1_2 : (List (Int × Int))) (y8_0 : Int) (y8_1 : Int) (y8_2 : Int) (y8_3 : Int) (x49 : Int) (x50 : Int) (x54 : Bool) : f34_a k (f34_F_c18 k G_l3 G_l6) .nx (f34_s_c18 y1_0 y1_1 y1_2 y8_0 y8_1 y8_2 y8_3 x49 x50 x54) = f34_c18_B k (fun y1_0 y1_1 y1_2 x49 x50 => G_l3 (f34_s_l3 y1_0 y1_1 y1_2 x49 x50)) y1_0 y1_1 y1_2 y8_0 y8_1 y8_2 y8_3 x49 x50 x54 := by kernel_rfl
def f34_c18 (k : Nat) (r_l3 : (List (Int × Int)) → (List (Int × (Int × (Int × Int)))) → (List (Int × Int)) → Int → Int → Option (Int × Unit)) (y1_0 : (List (Int × Int))) (y1_1 : (List (Int × (Int × (Int × Int))))) (y1_2 : (List (Int × Int))) (y8_0 : Int) (y8_1 : Int) (y8_2 : Int) (y8_3 : Int) (x49 : Int) (x50 : Int) (x54 : Bool) : Option (Int × Unit) := f34_c18_B k r_l3 y1_0 y1_1 y1_2 y8_0 y8_1 y8_2 y8_3 x49 x50 x54
theorem f34_c18_E (k : Nat) (R_l3 : f34_S) (r_l3 : (List (Int × Int)) → (List (Int × (Int × (Int × Int)))) → (List (Int × Int)) → Int → Int → Option (Int × Unit)) (h_l3 : ∀ (y1_0 : (List (Int × Int))) (y1_1 : (List (Int × (Int × (Int × Int))))) (y1_2 : (List (Int × Int))) (x49 : Int) (x50 : Int), R_l3 (f34_s_l3 y1_0 y1_1 y1_2 x49 x50) = r_l3 y1_0 y1_1 y1_2 x49 x50) (y1_0 : (List (Int × Int))) (y1_1 : (List (Int × (Int × (Int × Int))))) (y1_2 : (List (Int × Int))) (y8_0 : Int) (y8_1 : Int) (y8_2 : Int) (y8_3 : Int) (x49 : Int) (x50 : Int) (x54 : Bool) : f34_C_c18 k R_l3 (f34_s_c18 y1_0 y1_1 y1_2 y8_0 y8_1 y8_2 y8_3 x49 x50 x54) = f34_c18 k r_l3 y1_0 y1_1 y1_2 y8_0 y8_1 y8_2 y8_3 x49 x50 x54 := by
  refine Eq.trans (ap_at (f34_f_c18 k R_l3) _) ((f34_c18_P k R_l3 (f34_C_l6 k k) y1_0 y1_1 y1_2 y8_0 y8_1 y8_2 y8_3 x49 x50 x54).trans ?_)
  have e_l3 : (fun y1_0 y1_1 y1_2 x49 x50 => R_l3 (f34_s_l3 y1_0 y1_1 y1_2 x49 x50)) = r_l3 := funext fun y1_0 => funext fun y1_1 => funext fun y1_2 => funext fun x49 => funext fun x50 => h_l3 y1_0 y1_1 y1_2 x49 x50
  rw [e_l3]
  rfl
theorem f34_c30_P (k : Nat) (G_l6 : f34_S) (y1_0 : (List (Int × Int))) (y1_1 : (List (Int × (Int × (Int × Int))))) (y1_2 : (List (Int × Int))) (y11_0 : Int) (y11_1 : Int) (y84 : (List (Int × Int))) (x87 : Int) (x88 : Int) (x92 : Bool) : f34_a k (f34_F_c30 k G_l6) .nx (f34_s_c30 y1_0 y1_1 y1_2 y11_0 y11_1 y84 x87 x88 x92) = f34_c30_B k (fun y1_0 y1_1 y1_2 y84 x87 x88 => G_l6 (f34_s_l6 y1_0 y1_1 y1_2 y84 x87 x88)) y1_0 y1_1 y1_2 y11_0 y11_1 y84 x87 x88 x92 := by kernel_rfl
def f34_c30 (k : Nat) (r_l6 : (List (Int × Int)) → (List (Int × (Int × (Int × Int)))) → (List (Int × Int)) → (List (Int × Int)) → Int → Int → Option (Int × Unit)) (y1_0 : (List (Int × Int))) (y1_1 : (List (Int × (Int × (Int × Int))))) (y1_2 : (List (Int × Int))) (y11_0 : Int) (y11_1 : Int) (y84 : (List (Int × Int))) (x87 : Int) (x88 : Int) (x92 : Bool) : Option (Int × Unit) := f34_c30_B k r_l6 y1_0 y1_1 y1_2 y11_0 y11_1 y84 x87 x88 x92
theorem f34_c30_E (k : Nat) (R_l6 : f34_S) (r_l6 : (List (Int × Int)) → (List (Int × (Int × (Int × Int)))) → (List (Int × Int)) → (List (Int × Int)) → Int → Int → Option (Int × Unit)) (h_l6 : ∀ (y1_0 : (List (Int × Int))) (y1_1 : (List (Int × (Int × (Int × Int))))) (y1_2 : (List (Int × Int))) (y84 : (List (Int × Int))) (x87 : Int) (x88 : Int), R_l6 (f34_s_l6 y1_0 y1_1 y1_2 y84 x87 x88) = r_l6 y1_0 y1_1 y1_2 y84 x87 x88) (y1_0 : (List (Int × Int))) (y1_1 : (List (Int × (Int × (Int × Int))))) (y1_2 : (List (Int × Int))) (y11_0 : Int) (y11_1 : Int) (y84 : (List (Int × Int))) (x87 : Int) (x88 : Int) (x92 : Bool) : f34_C_c30 k R_l6 (f34_s_c30 y1_0 y1_1 y1_2 y11_0 y11_1 y84 x87 x88 x92) = f34_c30 k r_l6 y1_0 y1_1 y1_2 y11_0 y11_1 y84 x87 x88 x92 := by
  refine Eq.trans (ap_at (f34_f_c30 k R_l6) _) ((f34_c30_P k R_l6 y1_0 y1_1 y1_2 y11_0 y11_1 y84 x87 x88 x92).trans ?_)
  have e_l6 : (fun y1_0 y1_1 y1_2 y84 x87 x88 => R_l6 (f34_s_l6 y1_0 y1_1 y1_2 y84 x87 x88)) = r_l6 := funext fun y1_0 => funext fun y1_1 => funext fun y1_2 => funext fun y84 => funext fun x87 => funext fun x88 => h_l6 y1_0 y1_1 y1_2 y84 x87 x88
  rw [e_l6]
  rfl
theorem f34_l6_P (k : Nat) (G_l6 : f34_S) (G_c30 : f34_S) (y1_0 : (List (Int × Int))) (y1_1 : (List (Int × (Int × (Int × Int))))) (y1_2 : (List (Int × Int))) (y84 : (List (Int × Int))) (x87 : Int) (x88 : Int) : f34_a k (f34_F_l6 k G_l6 G_c30) .nx (f34_s_l6 y1_0 y1_1 y1_2 y84 x87 x88) = f34_l6_B k (fun y1_0 y1_1 y1_2 y11_0 y11_1 y84 x87 x88 x92 => G_c30 (f34_s_c30 y1_0 y1_1 y1_2 y11_0 y11_1 y84 x87 x88 x92)) y1_0 y1_1 y1_2 y84 x87 x88 := by kernel_rfl
def f34_l6 (k : Nat) : Nat → (List (Int × Int)) → (List (Int × (Int × (Int × Int)))) → (List (Int × Int)) → (List (Int × Int)) → Int → Int → Option (Int × Unit)
  | 0, _, _, _, _, _, _ => none
  | n + 1, y1_0, y1_1, y1_2, y84, x87, x88 => f34_l6_B k (f34_c30 k (fun y1_0 y1_1 y1_2 y84 x87 x88 => f34_l6 k n y1_0 y1_1 y1_2 y84 x87 x88)) y1_0 y1_1 y1_2 y84 x87 x88
theorem f34_l6_E (k : Nat) : ∀ (n : Nat) (y1_0 : (List (Int × Int))) (y1_1 : (List (Int × (Int × (Int × Int))))) (y1_2 : (List (Int × Int))) (y84 : (List (Int × Int))) (x87 : Int) (x88 : Int), f34_C_l6 k n (f34_s_l6 y1_0 y1_1 y1_2 y84 x87 x88) = f34_l6 k n y1_0 y1_1 y1_2 y84 x87 x88
  | 0, _, _, _, _, _, _ => rfl
  | n + 1, y1_0, y1_1, y1_2, y84, x87, x88 => by
    refine Eq.trans (show _ = f34_a k (f34_Q_l6 k (f34_C_l6 k n)) .nx (f34_s_l6 y1_0 y1_1 y1_2 y84 x87 x88) by kernel_rfl) (Eq.trans (ap_at (f34_f_l6 k (f34_C_l6 k n)) _) ((f34_l6_P k (f34_C_l6 k n) (f34_C_c30 k (f34_C_l6 k n)) y1_0 y1_1 y1_2 y84 x87 x88).trans ?_))
    have e_c30 : (fun y1_0 y1_1 y1_2 y11_0 y11_1 y84 x87 x88 x92 => (f34_C_c30 k (f34_C_l6 k n)) (f34_s_c30 y1_0 y1_1 y1_2 y11_0 y11_1 y84 x87 x88 x92)) = (f34_c30 k (fun y1_0 y1_1 y1_2 y84 x87 x88 => f34_l6 k n y1_0 y1_1 y1_2 y84 x87 x88)) := funext fun y1_0 => funext fun y1_1 => funext fun y1_2 => funext fun y11_0 => funext fun y11_1 => funext fun y84 => funext fun x87 => funext fun x88 => funext fun x92 => f34_c30_E k (f34_C_l6 k n) (fun y1_0 y1_1 y1_2 y84 x87 x88 => f34_l6 k n y1_0 y1_1 y1_2 y84 x87 x88) (fun y1_0 y1_1 y1_2 y84 x87 x88 => f34_l6_E k n y1_0 y1_1 y1_2 y84 x87 x88)  y1_0 y1_1 y1_2 y11_0 y11_1 y84 x87 x88 x92
    rw [e_c30]
    rfl
theorem f34_l3_P (k : Nat) (G_l3 : f34_S) (G_c18 : f34_S) (G_l6 : f34_S) (y1_0 : (List (Int × Int))) (y1_1 : (List (Int × (Int × (Int × Int))))) (y1_2 : (List (Int × Int))) (x49 : Int) (x50 : Int) : f34_a k (f34_F_l3 k G_l3 G_c18 G_l6) .nx (f34_s_l3 y1_0 y1_1 y1_2 x49 x50) = f34_l3_B k (fun y1_0 y1_1 y1_2 y8_0 y8_1 y8_2 y8_3 x49 x50 x54 => G_c18 (f34_s_c18 y1_0 y1_1 y1_2 y8_0 y8_1 y8_2 y8_3 x49 x50 x54)) (fun y1_0 y1_1 y1_2 y84 x87 x88 => G_l6 (f34_s_l6 y1_0 y1_1 y1_2 y84 x87 x88)) y1_0 y1_1 y1_2 x49 x50 := by kernel_rfl
def f34_l3 (k : Nat) : Nat → (List (Int × Int)) → (List (Int × (Int × (Int × Int)))) → (List (Int × Int)) → Int → Int → Option (Int × Unit)
  | 0, _, _, _, _, _ => none
  | n + 1, y1_0, y1_1, y1_2, x49, x50 => f34_l3_B k (f34_c18 k (fun y1_0 y1_1 y1_2 x49 x50 => f34_l3 k n y1_0 y1_1 y1_2 x49 x50)) (f34_l6 k k) y1_0 y1_1 y1_2 x49 x50
theorem f34_l3_E (k : Nat) : ∀ (n : Nat) (y1_0 : (List (Int × Int))) (y1_1 : (List (Int × (Int × (Int × Int))))) (y1_2 : (List (Int × Int))) (x49 : Int) (x50 : Int), f34_C_l3 k n (f34_s_l3 y1_0 y1_1 y1_2 x49 x50) = f34_l3 k n y1_0 y1_1 y1_2 x49 x50
  | 0, _, _, _, _, _ => rfl
  | n + 1, y1_0, y1_1, y1_2, x49, x50 => by
    refine Eq.trans (show _ = f34_a k (f34_Q_l3 k (f34_C_l3 k n)) .nx (f34_s_l3 y1_0 y1_1 y1_2 x49 x50) by kernel_rfl) (Eq.trans (ap_at (f34_f_l3 k (f34_C_l3 k n)) _) ((f34_l3_P k (f34_C_l3 k n) (f34_C_c18 k (f34_C_l3 k n)) (f34_C_l6 k k) y1_0 y1_1 y1_2 x49 x50).trans ?_))
    have e_c18 : (fun y1_0 y1_1 y1_2 y8_0 y8_1 y8_2 y8_3 x49 x50 x54 => (f34_C_c18 k (f34_C_l3 k n)) (f34_s_c18 y1_0 y1_1 y1_2 y8_0 y8_1 y8_2 y8_3 x49 x50 x54)) = (f34_c18 k (fun y1_0 y1_1 y1_2 x49 x50 => f34_l3 k n y1_0 y1_1 y1_2 x49 x50)) := funext fun y1_0 => funext fun y1_1 => funext fun y1_2 => funext fun y8_0 => funext fun y8_1 => funext fun y8_2 => funext fun y8_3 => funext fun x49 => funext fun x50 => funext fun x54 => f34_c18_E k (f34_C_l3 k n) (fun y1_0 y1_1 y1_2 x49 x50 => f34_l3 k n y1_0 y1_1 y1_2 x49 x50) (fun y1_0 y1_1 y1_2 x49 x50 => f34_l3_E k n y1_0 y1_1 y1_2 x49 x50)  y1_0 y1_1 y1_2 y8_0 y8_1 y8_2 y8_3 x49 x50 x54
    have e_l6 : (fun y1_0 y1_1 y1_2 y84 x87 x88 => (f34_C_l6 k k) (f34_s_l6 y1_0 y1_1 y1_2 y84 x87 x88)) = (f34_l6 k k) := funext fun y1_0 => funext fun y1_1 => funext fun y1_2 => funext fun y84 => funext fun x87 => funext fun x88 => f34_l6_E k  k y1_0 y1_1 y1_2 y84 x87 x88
    rw [e_c18, e_l6]
    rfl
theorem f34_l0_P (k : Nat) (G_l0 : f34_S) (G_l3 : f34_S) (G_l6 : f34_S) (y1_0 : (List (Int × Int))) (y1_1 : (List (Int × (Int × (Int × Int))))) (y1_2 : (List (Int × Int))) (y28 : (List (Int × Int))) (x31 : Int) (x32 : Int) : f34_a k (f34_F_l0 k G_l0 G_l3 G_l6) .nx (f34_s_l0 y1_0 y1_1 y1_2 y28 x31 x32) = f34_l0_B k (fun y1_0 y1_1 y1_2 y28 x31 x32 => G_l0 (f34_s_l0 y1_0 y1_1 y1_2 y28 x31 x32)) (fun y1_0 y1_1 y1_2 x49 x50 => G_l3 (f34_s_l3 y1_0 y1_1 y1_2 x49 x50)) y1_0 y1_1 y1_2 y28 x31 x32 := by kernel_rfl
def f34_l0 (k : Nat) : Nat → (List (Int × Int)) → (List (Int × (Int × (Int × Int)))) → (List (Int × Int)) → (List (Int × Int)) → Int → Int → Option (Int × Unit)
  | 0, _, _, _, _, _, _ => none
  | n + 1, y1_0, y1_1, y1_2, y28, x31, x32 => f34_l0_B k (fun y1_0 y1_1 y1_2 y28 x31 x32 => f34_l0 k n y1_0 y1_1 y1_2 y28 x31 x32) (f34_l3 k k) y1_0 y1_1 y1_2 y28 x31 x32
theorem f34_l0_E (k : Nat) : ∀ (n : Nat) (y1_0 : (List (Int × Int))) (y1_1 : (List (Int × (Int × (Int × Int))))) (y1_2 : (List (Int × Int))) (y28 : (List (Int × Int))) (x31 : Int) (x32 : Int), f34_C_l0 k n (f34_s_l0 y1_0 y1_1 y1_2 y28 x31 x32) = f34_l0 k n y1_0 y1_1 y1_2 y28 x31 x32
  | 0, _, _, _, _, _, _ => rfl
  | n + 1, y1_0, y1_1, y1_2, y28, x31, x32 => by
    refine Eq.trans (show _ = f34_a k (f34_Q_l0 k (f34_C_l0 k n)) .nx (f34_s_l0 y1_0 y1_1 y1_2 y28 x31 x32) by kernel_rfl) (Eq.trans (ap_at (f34_f_l0 k (f34_C_l0 k n)) _) ((f34_l0_P k (f34_C_l0 k n) (f34_C_l3 k k) (f34_C_l6 k k) y1_0 y1_1 y1_2 y28 x31 x32).trans ?_))
    have e_l0 : (fun y1_0 y1_1 y1_2 y28 x31 x32 => (f34_C_l0 k n) (f34_s_l0 y1_0 y1_1 y1_2 y28 x31 x32)) = (fun y1_0 y1_1 y1_2 y28 x31 x32 => f34_l0 k n y1_0 y1_1 y1_2 y28 x31 x32) := funext fun y1_0 => funext fun y1_1 => funext fun y1_2 => funext fun y28 => funext fun x31 => funext fun x32 => f34_l0_E k n y1_0 y1_1 y1_2 y28 x31 x32
    have e_l3 : (fun y1_0 y1_1 y1_2 x49 x50 => (f34_C_l3 k k) (f34_s_l3 y1_0 y1_1 y1_2 x49 x50)) = (f34_l3 k k) := funext fun y1_0 => funext fun y1_1 => funext fun y1_2 => funext fun x49 => funext fun x50 => f34_l3_E k  k y1_0 y1_1 y1_2 x49 x50
    rw [e_l0, e_l3]
    rfl
theorem f34_r1_P (k : Nat) (G_l0 : f34_S) (G_l3 : f34_S) (G_l6 : f34_S) (y1_0 : (List (Int × Int))) (y1_1 : (List (Int × (Int × (Int × Int))))) (y1_2 : (List (Int × Int))) (x27 : Bool) : f34_a k (f34_F_r1 k G_l0 G_l3 G_l6) .nx (f34_s_r1 y1_0 y1_1 y1_2 x27) = f34_r1_B k (fun y1_0 y1_1 y1_2 y28 x31 x32 => G_l0 (f34_s_l0 y1_0 y1_1 y1_2 y28 x31 x32)) y1_0 y1_1 y1_2 x27 := by kernel_rfl
def f34_r1 (k : Nat) (y1_0 : (List (Int × Int))) (y1_1 : (List (Int × (Int × (Int × Int))))) (y1_2 : (List (Int × Int))) (x27 : Bool) : Option (Int × Unit) := f34_r1_B k (f34_l0 k k) y1_0 y1_1 y1_2 x27
theorem f34_r1_E (k : Nat) (y1_0 : (List (Int × Int))) (y1_1 : (List (Int × (Int × (Int × Int))))) (y1_2 : (List (Int × Int))) (x27 : Bool) : f34_C_r1 k (f34_s_r1 y1_0 y1_1 y1_2 x27) = f34_r1 k y1_0 y1_1 y1_2 x27 := by
  refine Eq.trans (ap_at (f34_f_r1 k) _) ((f34_r1_P k (f34_C_l0 k k) (f34_C_l3 k k) (f34_C_l6 k k) y1_0 y1_1 y1_2 x27).trans ?_)
  have e_l0 : (fun y1_0 y1_1 y1_2 y28 x31 x32 => (f34_C_l0 k k) (f34_s_l0 y1_0 y1_1 y1_2 y28 x31 x32)) = (f34_l0 k k) := funext fun y1_0 => funext fun y1_1 => funext fun y1_2 => funext fun y28 => funext fun x31 => funext fun x32 => f34_l0_E k  k y1_0 y1_1 y1_2 y28 x31 x32
  rw [e_l0]
  rfl
theorem f34_entry_P (k : Nat) (G_r1 : f34_S) (G_l0 : f34_S) (G_l3 : f34_S) (G_l6 : f34_S) (xs : DL f34_sig) : f34_a k (.c (sub f34_c [0]) 0 :: .c (sub f34_c [1, 0, 0]) 0 :: .j G_r1 :: f34_F_r1 k G_l0 G_l3 G_l6) .nx (σ0 132 396 f34_sig xs) = f34_entry_B k (fun y1_0 y1_1 y1_2 x27 => G_r1 (f34_s_r1 y1_0 y1_1 y1_2 x27)) xs.1 := by kernel_rfl
theorem f34_f_entry (k : Nat) : f34_a k [.c f34_c 0] = f34_a k (.c (sub f34_c [0]) 0 :: .c (sub f34_c [1, 0, 0]) 0 :: .j (f34_C_r1 k) :: f34_F_r1 k (f34_C_l0 k k) (f34_C_l3 k k) (f34_C_l6 k k)) := (Eq.trans (ap_seq f34_h) (ap_cons _ (Eq.trans (ap_seq f34_h1) (Eq.trans (ap_seq f34_h1_0) (ap_cons _ (Eq.trans (ap_pass (C := (f34_C_r1 k)) (fun _ => rfl)) (ap_cons _ (f34_f_r1 k))))))))
def f34 (k : Nat) (a0 : ((List (Int × Int)) × ((List (Int × (Int × (Int × Int)))) × (List (Int × Int))))) : Option (Int × Unit) := f34_entry_B k (f34_r1 k) a0
theorem f34_eq (k : Nat) (xs : DL f34_sig) : den T f34_Y (f34_E k) f34_A k f34_c 0 (σ0 132 396 f34_sig xs) (Kfin T f34_rs f34_ts) = f34 k xs.1 := by
  refine Eq.trans den_ap (Eq.trans (ap_at (f34_f_entry k) _) ((f34_entry_P k (f34_C_r1 k) (f34_C_l0 k k) (f34_C_l3 k k) (f34_C_l6 k k) xs).trans ?_))
  have e_r1 : (fun y1_0 y1_1 y1_2 x27 => (f34_C_r1 k) (f34_s_r1 y1_0 y1_1 y1_2 x27)) = (f34_r1 k) := funext fun y1_0 => funext fun y1_1 => funext fun y1_2 => funext fun x27 => f34_r1_E k   y1_0 y1_1 y1_2 x27
  rw [e_r1]
  rfl
noncomputable def f34_con (k : Nat) : Con := ⟨f34_sig, f34_rs, fun xs => f34 k xs.1⟩
theorem f34_ok (k : Nat) : PureOK Try.prog 34 f34_sig f34_rs (fun xs => f34 k xs.1) :=
  (pure_of_den (k := k) (A := f34_A) (T := T) (Y := f34_Y) (E := f34_E k) (M := 396) (ts := f34_ts) T_ok ⟨f71_ok k, f72_ok k, trivial⟩ ⟨f71_ent, f72_ent, trivial⟩ mixed (f := 34) (fn := Try.f34) (c := f34_c) (by kernel_rfl) (by kernel_rfl) (by kernel_rfl) (by decide) (by kernel_rfl)).congr fun xs => (f34_eq k xs).symm
theorem f34_ent : Ent Try.prog 34 := fun args w => by kernel_rfl
/-! ### slices.Clone[[]terrier/api.Point,terrier/api.Point]: function 73 -/
noncomputable def f73_c : Code := Try.f73.body.getD .skip
abbrev f73_sig : List PT := [(false, (.sl true (.pair (.int .i64) (.int .i64))))]
abbrev f73_rs : List RT := [.new (.pair (.int .i64) (.int .i64))]
abbrev f73_ts : List RV := [.tmp 2]
abbrev f73_S := St → Option (RDL f73_rs)
def f73_Y : Tys := [(46, (.pair (.int .i64) (.int .i64)))]
noncomputable def f73_E (k : Nat) : Env := []
def f73_A : Ann := {}
noncomputable abbrev f73_a (k : Nat) (F : List (Fr (RDL f73_rs))) : Kont (RDL f73_rs) := ap T f73_Y (f73_E k) f73_A k (Kfin T f73_rs f73_ts) F
def f73_entry_B (k : Nat) (a0 : (Option (List (Int × Int)))) : Option ((List (Int × Int)) × Unit) := (if isNilO a0 = true then some ([], ()) else (if (([] : List (Int × Int)).length + (slL true a0).length) * 16 ≤ 140737488355328 then some ((([] : List (Int × Int)) ++ (slL true a0)), ()) else none))
theorem f73_entry_P (k : Nat) (xs : DL f73_sig) : f73_a k (.c f73_c 0 :: []) .nx (σ0 8 24 f73_sig xs) = f73_entry_B k  xs.1 := by kernel_rfl
theorem f73_f_entry (k : Nat) : f73_a k [.c f73_c 0] = f73_a k (.c f73_c 0 :: []) := (ap_cons _ rfl)
def f73 (k : Nat) (a0 : (Option (List (Int × Int)))) : Option ((List (Int × Int)) × Unit) := f73_entry_B k  a0
theorem f73_eq (k : Nat) (xs : DL f73_sig) : den T f73_Y (f73_E k) f73_A k f73_c 0 (σ0 8 24 f73_sig xs) (Kfin T f73_rs f73_ts) = f73 k xs.1 := by
  refine Eq.trans den_ap (Eq.trans (ap_at (f73_f_entry k) _) ((f73_entry_P k  xs).trans ?_))
  rfl
noncomputable def f73_con (k : Nat) : Con := ⟨f73_sig, f73_rs, fun xs => f73 k xs.1⟩
theorem f73_ok (k : Nat) : PureOK Try.prog 73 f73_sig f73_rs (fun xs => f73 k xs.1) :=
  (pure_of_den (k := k) (A := f73_A) (T := T) (Y := f73_Y) (E := f73_E k) (M := 24) (ts := f73_ts) T_ok trivial trivial mixed (f := 73) (fn := Try.f73) (c := f73_c) (by kernel_rfl) (by kernel_rfl) (by kernel_rfl) (by decide) (by kernel_rfl)).congr fun xs => (f73_eq k xs).symm
theorem f73_ent : Ent Try.prog 73 := fun args w => by kernel_rfl
def f73u (k : Nat) (a0 : List (Int × Int)) : Option (List (Int × Int) × Unit) := unnil1 (f73 k) a0
noncomputable def f73u_con (k : Nat) : Con := ⟨[(false, .sl false (.pair (.int .i64) (.int .i64)))], f73_rs, fun xs => f73u k xs.1⟩
theorem f73u_ok (k : Nat) : PureOK Try.prog 73 [(false, .sl false (.pair (.int .i64) (.int .i64)))] f73_rs (fun xs => f73u k xs.1) := (f73_ok k).unnil1
theorem f73u_ent : Ent Try.prog 73 := f73_ent
/-! ### terrier/net.Back: function 41 -/
noncomputable def f41_c : Code := Try.f41.body.getD .skip
abbrev f41_sig : List PT := [(true, (.pair (.sl false (.pair (.int .i64) (.int .i64))) (.pair (.sl false (.pair (.int .i64) (.pair (.int .i64) (.pair (.int .i64) (.int .i64))))) (.sl false (.pair (.int .i64) (.int .i64))))))]
abbrev f41_rs : List RT := [.d true (.pair (.sl false (.pair (.int .i64) (.int .i64))) (.pair (.sl false (.pair (.int .i64) (.pair (.int .i64) (.pair (.int .i64) (.int .i64))))) (.sl false (.pair (.int .i64) (.int .i64))))), .d false (.int .i64)]
abbrev f41_ts : List RV := [.cell 2 53, .tmp 3]
abbrev f41_S := St → Option (RDL f41_rs)
def f41_Y : Tys := [(55, (.pair (.int .i64) (.pair (.int .i64) (.pair (.int .i64) (.int .i64))))), (66, (.pair (.int .i64) (.int .i64)))]
noncomputable def f41_E (k : Nat) : Env := [(33, .c (f33_con k)), (73, .c (f73u_con k))]
def f41_A : Ann := { loops := [(0, { matb := [(5, 1, 39, (.pair (.int .i64) (.pair (.int .i64) (.pair (.int .i64) (.int .i64)))))], slots := [(1, .id), (2, .id), (5, .id), (21, .val false (.pair (.int .i64) (.pair (.int .i64) (.pair (.int .i64) (.int .i64))))), (22, .id), (23, .id)], keys := [(1, [.val false (.pair (.int .i64) (.int .i64)), .val false (.pair (.int .i64) (.pair (.int .i64) (.pair (.int .i64) (.int .i64)))), .val false (.pair (.int .i64) (.int .i64))]), (2, []), (5, []), (18, []), (39, [])] }), (2, { matb := [(5, 1, 39, (.pair (.int .i64) (.pair (.int .i64) (.pair (.int .i64) (.int .i64))))), (5, 2, 57, (.pair (.int .i64) (.int .i64)))], slots := [(2, .id), (5, .id), (43, .val false (.pair (.int .i64) (.int .i64))), (44, .id), (45, .id)], keys := [(2, []), (5, []), (18, []), (39, []), (57, [])] })] }
noncomputable abbrev f41_a (k : Nat) (F : List (Fr (RDL f41_rs))) : Kont (RDL f41_rs) := ap T f41_Y (f41_E k) f41_A k (Kfin T f41_rs f41_ts) F
def f41_s_l0 (y1_0 : (List (Int × Int))) (y1_1 : (List (Int × (Int × (Int × Int))))) (y1_2 : (List (Int × Int))) (y18 : (List (Int × Int))) (y39 : (List (Int × (Int × (Int × Int))))) (x22 : Int) (x23 : Int) : St := mkS 61 184 [(1, .cp (.one (.ptr 1 0))), (2, .cp (.one (.ptr 2 0))), (5, .cp (.one (.ptr 5 0))), (21, .cp (.one (.val false (.pair (.int .i64) (.pair (.int .i64) (.pair (.int .i64) (.int .i64)))) y1_1))), (22, .cp (.one (.int .i64 x22))), (23, .cp (.one (.int .i64 x23)))] [(1, .box [.val false (.pair (.int .i64) (.int .i64)) y1_0, .val false (.pair (.int .i64) (.pair (.int .i64) (.pair (.int .i64) (.int .i64)))) y1_1, .val false (.pair (.int .i64) (.int .i64)) y1_2]), (2, .box [.nil, .nil, .nil]), (5, .box [.own 18, .own 39, .nil]), (18, .vec (.pair (.int .i64) (.int .i64)) y18), (39, .vec (.pair (.int .i64) (.pair (.int .i64) (.pair (.int .i64) (.int .i64)))) y39)]
noncomputable def f41_Q_l0 (k : Nat) (R_l0 : f41_S) : List (Fr (RDL f41_rs)) := [.c (sub f41_c [1, 1, 1, 0, 1, 0, 0]) 0, .j (fun σ => R_l0 (cut f41_A.loops 0 σ)), .blk 0, .c (sub f41_c [1, 1, 1, 1]) 0]
noncomputable def f41_C_l0 (k : Nat) (n : Nat) (σ : St) : Option (RDL f41_rs) := loopK (fun σ K => den T f41_Y (f41_E k) f41_A k (sub f41_c [1, 1, 1, 0, 1, 0, 0]) 0 σ K) (cut f41_A.loops 0) (f41_a k [.blk 0, .c (sub f41_c [1, 1, 1, 1]) 0]) n σ
def f41_s_l2 (y18 : (List (Int × Int))) (y39 : (List (Int × (Int × (Int × Int))))) (y57 : (List (Int × Int))) (x43 : (List (Int × Int))) (x44 : Int) (x45 : Int) : St := mkS 61 184 [(2, .cp (.one (.ptr 2 0))), (5, .cp (.one (.ptr 5 0))), (43, .cp (.one (.val false (.pair (.int .i64) (.int .i64)) x43))), (44, .cp (.one (.int .i64 x44))), (45, .cp (.one (.int .i64 x45)))] [(2, .box [.nil, .nil, .nil]), (5, .box [.own 18, .own 39, .own 57]), (18, .vec (.pair (.int .i64) (.int .i64)) y18), (39, .vec (.pair (.int .i64) (.pair (.int .i64) (.pair (.int .i64) (.int .i64)))) y39), (57, .vec (.pair (.int .i64) (.int .i64)) y57)]
noncomputable def f41_Q_l2 (k : Nat) (R_l2 : f41_S) : List (Fr (RDL f41_rs)) := [.c (sub f41_c [1, 1, 1, 1, 0, 1, 0, 0]) 2, .j (fun σ => R_l2 (cut f41_A.loops 2 σ)), .blk 2, .c (sub f41_c [1, 1, 1, 1, 1]) 0]
noncomputable def f41_C_l2 (k : Nat) (n : Nat) (σ : St) : Option (RDL f41_rs) := loopK (fun σ K => den T f41_Y (f41_E k) f41_A k (sub f41_c [1, 1, 1, 1, 0, 1, 0, 0]) 2 σ K) (cut f41_A.loops 2) (f41_a k [.blk 2, .c (sub f41_c [1, 1, 1, 1, 1]) 0]) n σ
theorem f41_h1_1_1_1_0_1_0 : (sub f41_c [1, 1, 1, 1, 0, 1, 0]) = .loop (sub f41_c [1, 1, 1, 1, 0, 1, 0, 0]) := by kernel_rfl
theorem f41_h1_1_1_1_0_1 : (sub f41_c [1, 1, 1, 1, 0, 1]) = .block 2 (sub f41_c [1, 1, 1, 1, 0, 1, 0]) := by kernel_rfl
theorem f41_h1_1_1_1_0 : (sub f41_c [1, 1, 1, 1, 0]) = .seq (sub f41_c [1, 1, 1, 1, 0, 0]) (sub f41_c [1, 1, 1, 1, 0, 1]) := by kernel_rfl
theorem f41_h1_1_1_1 : (sub f41_c [1, 1, 1, 1]) = .seq (sub f41_c [1, 1, 1, 1, 0]) (sub f41_c [1, 1, 1, 1, 1]) := by kernel_rfl
theorem f41_h1_1_1_0_1_0 : (sub f41_c [1, 1, 1, 0, 1, 0]) = .loop (sub f41_c [1, 1, 1, 0, 1, 0, 0]) := by kernel_rfl
theorem f41_h1_1_1_0_1 : (sub f41_c [1, 1, 1, 0, 1]) = .block 0 (sub f41_c [1, 1, 1, 0, 1, 0]) := by kernel_rfl
theorem f41_h1_1_1_0 : (sub f41_c [1, 1, 1, 0]) = .seq (sub f41_c [1, 1, 1, 0, 0]) (sub f41_c [1, 1, 1, 0, 1]) := by kernel_rfl
theorem f41_h1_1_1 : (sub f41_c [1, 1, 1]) = .seq (sub f41_c [1, 1, 1, 0]) (sub f41_c [1, 1, 1, 1]) := by kernel_rfl
theorem f41_h1_1 : (sub f41_c [1, 1]) = .seq (sub f41_c [1, 1, 0]) (sub f41_c [1, 1, 1]) := by kernel_rfl
theorem f41_h1 : (sub f41_c [1]) = .seq (sub f41_c [1, 0]) (sub f41_c [1, 1]) := by kernel_rfl
theorem f41_h : f41_c = .seq (sub f41_c [0]) (sub f41_c [1]) := by kernel_rfl
noncomputable def f41_F_l0 (k : Nat) (G_l0 : f41_S) (G_l2 : f41_S) : List (Fr (RDL f41_rs)) := .c (sub f41_c [1, 1, 1, 0, 1, 0, 0]) 0 :: .j (fun σ => G_l0 (cut f41_A.loops 0 σ)) :: .blk 0 :: .c (sub f41_c [1, 1, 1, 1, 0, 0]) 0 :: .j (fun σ => f41_a k (.j (fun σ => G_l2 (cut f41_A.loops 2 σ)) :: .blk 2 :: .c (sub f41_c [1, 1, 1, 1, 1]) 0 :: []) .nx σ) :: .c (sub f41_c [1, 1, 1, 1, 1]) 0 :: []
theorem f41_f_l0 (k : Nat) (R_l0 : f41_S) : f41_a k (f41_Q_l0 k R_l0) = f41_a k (f41_F_l0 k R_l0 (f41_C_l2 k k)) := (ap_cons _ (ap_cons _ (ap_cons _ (Eq.trans (ap_seq f41_h1_1_1_1) (Eq.trans (ap_seq f41_h1_1_1_1_0) (ap_cons _ (Eq.trans (ap_block f41_h1_1_1_1_0_1) (Eq.trans (ap_j (Eq.trans (ap_loop (C := (f41_C_l2 k)) f41_h1_1_1_1_0_1_0 (fun _ _ => rfl)) (ap_cons _ (ap_cons _ (ap_cons _ rfl))))) (ap_cons _ (ap_cons _ rfl))))))))))
noncomputable def f41_F_l2 (k : Nat) (G_l2 : f41_S) : List (Fr (RDL f41_rs)) := .c (sub f41_c [1, 1, 1, 1, 0, 1, 0, 0]) 2 :: .j (fun σ => G_l2 (cut f41_A.loops 2 σ)) :: .blk 2 :: .c (sub f41_c [1, 1, 1, 1, 1]) 0 :: []
theorem f41_f_l2 (k : Nat) (R_l2 : f41_S) : f41_a k (f41_Q_l2 k R_l2) = f41_a k (f41_F_l2 k R_l2) := (ap_cons _ (ap_cons _ (ap_cons _ (ap_cons _ rfl))))
def f41_entry_B (k : Nat) (g_l0 : (List (Int × Int)) → (List (Int × (Int × (Int × Int)))) → (List (Int × Int)) → (List (Int × Int)) → (List (Int × (Int × (Int × Int)))) → Int → Int → Option (((List (Int × Int)) × ((List (Int × (Int × (Int × Int)))) × (List (Int × Int)))) × Int × Unit)) (a0 : ((List (Int × Int)) × ((List (Int × (Int × (Int × Int)))) × (List (Int × Int))))) : Option (((List (Int × Int)) × ((List (Int × (Int × (Int × Int)))) × (List (Int × Int)))) × Int × Unit) := ((f33 k (a0.1, (a0.2.1, a0.2.2))).bind fun r1 => (if ¬ (r1.1 = 0) then some (([], ([], [])), r1.1, ()) else ((f73u k a0.1).bind fun r2 => (g_l0 a0.1 a0.2.1 a0.2.2 r2.1 ([] : List (Int × (Int × (Int × Int)))) (a0.2.1.length : Int) 0))))
def f41_l0_B (k : Nat) (g_l0 : (List (Int × Int)) → (List (Int × (Int × (Int × Int)))) → (List (Int × Int)) → (List (Int × Int)) → (List (Int × (Int × (Int × Int)))) → Int → Int → Option (((List (Int × Int)) × ((List (Int × (Int × (Int × Int)))) × (List (Int × Int)))) × Int × Unit)) (g_l2 : (List (Int × Int)) → (List (Int × (Int × (Int × Int)))) → (List (Int × Int)) → (List (Int × Int)) → Int → Int → Option (((List (Int × Int)) × ((List (Int × (Int × (Int × Int)))) × (List (Int × Int)))) × Int × Unit)) (y1_0 : (List (Int × Int))) (y1_1 : (List (Int × (Int × (Int × Int))))) (y1_2 : (List (Int × Int))) (y18 : (List (Int × Int))) (y39 : (List (Int × (Int × (Int × Int))))) (x22 : Int) (x23 : Int) : Option (((List (Int × Int)) × ((List (Int × (Int × (Int × Int)))) × (List (Int × Int)))) × Int × Unit) := (if x23 < x22 then (if 0 ≤ x23 then (if x23 < (y1_1.length : Int) then (if (y39.length + 1) * 32 ≤ 140737488355328 then (g_l0 y1_0 y1_1 y1_2 y18 (y39 ++ [(((y1_1.getD (x23).toNat (0, (0, (0, 0)))).2).1, ((y1_1.getD (x23).toNat (0, (0, (0, 0)))).1, ((((y1_1.getD (x23).toNat (0, (0, (0, 0)))).2).2).1, (((y1_1.getD (x23).toNat (0, (0, (0, 0)))).2).2).2)))]) x22 (w64 (x23 + 1))) else none) else none) else none) else (g_l2 y18 y39 ([] : List (Int × Int)) y1_2 (y1_2.length : Int) 0))
def f41_l2_B (k : Nat) (g_l2 : (List (Int × Int)) → (List (Int × (Int × (Int × Int)))) → (List (Int × Int)) → (List (Int × Int)) → Int → Int → Option (((List (Int × Int)) × ((List (Int × (Int × (Int × Int)))) × (List (Int × Int)))) × Int × Unit)) (y18 : (List (Int × Int))) (y39 : (List (Int × (Int × (Int × Int))))) (y57 : (List (Int × Int))) (x43 : (List (Int × Int))) (x44 : Int) (x45 : Int) : Option (((List (Int × Int)) × ((List (Int × (Int × (Int × Int)))) × (List (Int × Int)))) × Int × Unit) := (if x45 < x44 then (if 0 ≤ x45 then (if x45 < (x43.length : Int) then (if (y57.length + 1) * 16 ≤ 140737488355328 then (g_l2 y18 y39 (y57 ++ [((x43.getD (x45).toNat (0, 0)).2, (x43.getD (x45).toNat (0, 0)).1)]) x43 x44 (w64 (x45 + 1))) else none) else none) else none) else some ((y18, (y39, y57)), 0, ()))
theorem f41_l2_P (k : Nat) (G_l2 : f41_S) (y18 : (List (Int × Int))) (y39 : (List (Int × (Int × (Int × Int))))) (y57 : (List (Int × Int))) (x43 : (List (Int × Int))) (x44 : Int) (x45 : Int) : f41_a k (f41_F_l2 k G_l2) .nx (f41_s_l2 y18 y39 y57 x43 x44 x45) = f41_l2_B k (fun y18 y39 y57 x43 x44 x45 => G_l2 (f41_s_l2 y18 y39 y57 x43 x44 x45)) y18 y39 y57 x43 x44 x45 := by kernel_rfl
def f41_l2 (k : Nat) : Nat → (List (Int × Int)) → (List (Int × (Int × (Int × Int)))) → (List (Int × Int)) → (List (Int × Int)) → Int → Int → Option (((List (Int × Int)) × ((List (Int × (Int × (Int × Int)))) × (List (Int × Int)))) × Int × Unit)
  | 0, _, _, _, _, _, _ => none
  | n + 1, y18, y39, y57, x43, x44, x45 => f41_l2_B k (fun y18 y39 y57 x43 x44 x45 => f41_l2 k n y18 y39 y57 x43 x44 x45) y18 y39 y57 x43 x44 x45
theorem f41_l2_E (k : Nat) : ∀ (n : Nat) (y18 : (List (Int × Int))) (y39 : (List (Int × (Int × (Int × Int))))) (y57 : (List (Int × Int))) (x43 : (List (Int × Int))) (x44 : Int) (x45 : Int), f41_C_l2 k n (f41_s_l2 y18 y39 y57 x43 x44 x45) = f41_l2 k n y18 y39 y57 x43 x44 x45
  | 0, _, _, _, _, _, _ => rfl
  | n + 1, y18, y39, y57, x43, x44, x45 => by
    refine Eq.trans (show _ = f41_a k (f41_Q_l2 k (f41_C_l2 k n)) .nx (f41_s_l2 y18 y39 y57 x43 x44 x45) by kernel_rfl) (Eq.trans (ap_at (f41_f_l2 k (f41_C_l2 k n)) _) ((f41_l2_P k (f41_C_l2 k n) y18 y39 y57 x43 x44 x45).trans ?_))
    have e_l2 : (fun y18 y39 y57 x43 x44 x45 => (f41_C_l2 k n) (f41_s_l2 y18 y39 y57 x43 x44 x45)) = (fun y18 y39 y57 x43 x44 x45 => f41_l2 k n y18 y39 y57 x43 x44 x45) := funext fun y18 => funext fun y39 => funext fun y57 => funext fun x43 => funext fun x44 => funext fun x45 => f41_l2_E k n y18 y39 y57 x43 x44 x45
    rw [e_l2]
    rfl
theorem f41_l0_P (k : Nat) (G_l0 : f41_S) (G_l2 : f41_S) (y1_0 : (List (Int × Int))) (y1_1 : (List (Int × (Int × (Int × Int))))) (y1_2 : (List (Int × Int))) (y18 : (List (Int × Int))) (y39 : (List (Int × (Int × (Int × Int))))) (x22 : Int) (x23 : Int) : f41_a k (f41_F_l0 k G_l0 G_l2) .nx (f41_s_l0 y1_0 y1_1 y1_2 y18 y39 x22 x23) = f41_l0_B k (fun y1_0 y1_1 y1_2 y18 y39 x22 x23 => G_l0 (f41_s_l0 y1_0 y1_1 y1_2 y18 y39 x22 x23)) (fun y18 y39 y57 x43 x44 x45 => G_l2 (f41_s_l2 y18 y39 y57 x43 x44 x45)) y1_0 y1_1 y1_2 y18 y39 x22 x23 := by kernel_rfl
def f41_l0 (k : Nat) : Nat → (List (Int × Int)) → (List (Int × (Int × (Int × Int)))) → (List (Int × Int)) → (List (Int × Int)) → (List (Int × (Int × (Int × Int)))) → Int → Int → Option (((List (Int × Int)) × ((List (Int × (Int × (Int × Int)))) × (List (Int × Int)))) × Int × Unit)
  | 0, _, _, _, _, _, _, _ => none
  | n + 1, y1_0, y1_1, y1_2, y18, y39, x22, x23 => f41_l0_B k (fun y1_0 y1_1 y1_2 y18 y39 x22 x23 => f41_l0 k n y1_0 y1_1 y1_2 y18 y39 x22 x23) (f41_l2 k k) y1_0 y1_1 y1_2 y18 y39 x22 x23
theorem f41_l0_E (k : Nat) : ∀ (n : Nat) (y1_0 : (List (Int × Int))) (y1_1 : (List (Int × (Int × (Int × Int))))) (y1_2 : (List (Int × Int))) (y18 : (List (Int × Int))) (y39 : (List (Int × (Int × (Int × Int))))) (x22 : Int) (x23 : Int), f41_C_l0 k n (f41_s_l0 y1_0 y1_1 y1_2 y18 y39 x22 x23) = f41_l0 k n y1_0 y1_1 y1_2 y18 y39 x22 x23
  | 0, _, _, _, _, _, _, _ => rfl
  | n + 1, y1_0, y1_1, y1_2, y18, y39, x22, x23 => by
    refine Eq.trans (show _ = f41_a k (f41_Q_l0 k (f41_C_l0 k n)) .nx (f41_s_l0 y1_0 y1_1 y1_2 y18 y39 x22 x23) by kernel_rfl) (Eq.trans (ap_at (f41_f_l0 k (f41_C_l0 k n)) _) ((f41_l0_P k (f41_C_l0 k n) (f41_C_l2 k k) y1_0 y1_1 y1_2 y18 y39 x22 x23).trans ?_))
    have e_l0 : (fun y1_0 y1_1 y1_2 y18 y39 x22 x23 => (f41_C_l0 k n) (f41_s_l0 y1_0 y1_1 y1_2 y18 y39 x22 x23)) = (fun y1_0 y1_1 y1_2 y18 y39 x22 x23 => f41_l0 k n y1_0 y1_1 y1_2 y18 y39 x22 x23) := funext fun y1_0 => funext fun y1_1 => funext fun y1_2 => funext fun y18 => funext fun y39 => funext fun x22 => funext fun x23 => f41_l0_E k n y1_0 y1_1 y1_2 y18 y39 x22 x23
    have e_l2 : (fun y18 y39 y57 x43 x44 x45 => (f41_C_l2 k k) (f41_s_l2 y18 y39 y57 x43 x44 x45)) = (f41_l2 k k) := funext fun y18 => funext fun y39 => funext fun y57 => funext fun x43 => funext fun x44 => funext fun x45 => f41_l2_E k  k y18 y39 y57 x43 x44 x45
    rw [e_l0, e_l2]
    rfl
theorem f41_entry_P (k : Nat) (G_l0 : f41_S) (G_l2 : f41_S) (xs : DL f41_sig) : f41_a k (.c (sub f41_c [0]) 0 :: .c (sub f41_c [1, 0]) 0 :: .c (sub f41_c [1, 1, 0]) 0 :: .c (sub f41_c [1, 1, 1, 0, 0]) 0 :: .j (fun σ => f41_a k (.j (fun σ => G_l0 (cut f41_A.loops 0 σ)) :: .blk 0 :: .c (sub f41_c [1, 1, 1, 1, 0, 0]) 0 :: .j (fun σ => f41_a k (.j (fun σ => G_l2 (cut f41_A.loops 2 σ)) :: .blk 2 :: .c (sub f41_c [1, 1, 1, 1, 1]) 0 :: []) .nx σ) :: .c (sub f41_c [1, 1, 1, 1, 1]) 0 :: []) .nx σ) :: .c (sub f41_c [1, 1, 1, 1, 0, 0]) 0 :: .j (fun σ => f41_a k (.j (fun σ => G_l2 (cut f41_A.loops 2 σ)) :: .blk 2 :: .c (sub f41_c [1, 1, 1, 1, 1]) 0 :: []) .nx σ) :: .c (sub f41_c [1, 1, 1, 1, 1]) 0 :: []) .nx (σ0 61 184 f41_sig xs) = f41_entry_B k (fun y1_0 y1_1 y1_2 y18 y39 x22 x23 => G_l0 (f41_s_l0 y1_0 y1_1 y1_2 y18 y39 x22 x23)) xs.1 := by kernel_rfl
theorem f41_f_entry (k : Nat) : f41_a k [.c f41_c 0] = f41_a k (.c (sub f41_c [0]) 0 :: .c (sub f41_c [1, 0]) 0 :: .c (sub f41_c [1, 1, 0]) 0 :: .c (sub f41_c [1, 1, 1, 0, 0]) 0 :: .j (fun σ => f41_a k (.j (fun σ => (f41_C_l0 k k) (cut f41_A.loops 0 σ)) :: .blk 0 :: .c (sub f41_c [1, 1, 1, 1, 0, 0]) 0 :: .j (fun σ => f41_a k (.j (fun σ => (f41_C_l2 k k) (cut f41_A.loops 2 σ)) :: .blk 2 :: .c (sub f41_c [1, 1, 1, 1, 1]) 0 :: []) .nx σ) :: .c (sub f41_c [1, 1, 1, 1, 1]) 0 :: []) .nx σ) :: .c (sub f41_c [1, 1, 1, 1, 0, 0]) 0 :: .j (fun σ => f41_a k (.j (fun σ => (f41_C_l2 k k) (cut f41_A.loops 2 σ)) :: .blk 2 :: .c (sub f41_c [1, 1, 1, 1, 1]) 0 :: []) .nx σ) :: .c (sub f41_c [1, 1, 1, 1, 1]) 0 :: []) := (Eq.trans (ap_seq f41_h) (ap_cons _ (Eq.trans (ap_seq f41_h1) (ap_cons _ (Eq.trans (ap_seq f41_h1_1) (ap_cons _ (Eq.trans (ap_seq f41_h1_1_1) (Eq.trans (ap_seq f41_h1_1_1_0) (ap_cons _ (Eq.trans (ap_block f41_h1_1_1_0_1) (Eq.trans (ap_j (Eq.trans (ap_loop (C := (f41_C_l0 k)) f41_h1_1_1_0_1_0 (fun _ _ => rfl)) (ap_cons _ (ap_cons _ (Eq.trans (ap_seq f41_h1_1_1_1) (Eq.trans (ap_seq f41_h1_1_1_1_0) (ap_cons _ (Eq.trans (ap_block f41_h1_1_1_1_0_1) (Eq.trans (ap_j (Eq.trans (ap_loop (C := (f41_C_l2 k)) f41_h1_1_1_1_0_1_0 (fun _ _ => rfl)) (ap_cons _ (ap_cons _ (ap_cons _ rfl))))) (ap_cons _ (ap_cons _ rfl))))))))))) (ap_cons _ (Eq.trans (ap_seq f41_h1_1_1_1) (Eq.trans (ap_seq f41_h1_1_1_1_0) (ap_cons _ (Eq.trans (ap_block f41_h1_1_1_1_0_1) (Eq.trans (ap_j (Eq.trans (ap_loop (C := (f41_C_l2 k)) f41_h1_1_1_1_0_1_0 (fun _ _ => rfl)) (ap_cons _ (ap_cons _ (ap_cons _ rfl))))) (ap_cons _ (ap_cons _ rfl)))))))))))))))))))
def f41 (k : Nat) (a0 : ((List (Int × Int)) × ((List (Int × (Int × (Int × Int)))) × (List (Int × Int))))) : Option (((List (Int × Int)) × ((List (Int × (Int × (Int × Int)))) × (List (Int × Int)))) × Int × Unit) := f41_entry_B k (f41_l0 k k) a0
theorem f41_eq (k : Nat) (xs : DL f41_sig) : den T f41_Y (f41_E k) f41_A k f41_c 0 (σ0 61 184 f41_sig xs) (Kfin T f41_rs f41_ts) = f41 k xs.1 := by
  refine Eq.trans den_ap (Eq.trans (ap_at (f41_f_entry k) _) ((f41_entry_P k (f41_C_l0 k k) (f41_C_l2 k k) xs).trans ?_))
  have e_l0 : (fun y1_0 y1_1 y1_2 y18 y39 x22 x23 => (f41_C_l0 k k) (f41_s_l0 y1_0 y1_1 y1_2 y18 y39 x22 x23)) = (f41_l0 k k) := funext fun y1_0 => funext fun y1_1 => funext fun y1_2 => funext fun y18 => funext fun y39 => funext fun x22 => funext fun x23 => f41_l0_E k  k y1_0 y1_1 y1_2 y18 y39 x22 x23
  rw [e_l0]
  rfl
noncomputable def f41_con (k : Nat) : Con := ⟨f41_sig, f41_rs, fun xs => f41 k xs.1⟩
theorem f41_ok (k : Nat) : PureOK Try.prog 41 f41_sig f41_rs (fun xs => f41 k xs.1) :=
  (pure_of_den (k := k) (A := f41_A) (T := T) (Y := f41_Y) (E := f41_E k) (M := 184) (ts := f41_ts) T_ok ⟨f33_ok k, f73u_ok k, trivial⟩ ⟨f33_ent, f73u_ent, trivial⟩ mixed (f := 41) (fn := Try.f41) (c := f41_c) (by kernel_rfl) (by kernel_rfl) (by kernel_rfl) (by decide) (by kernel_rfl)).congr fun xs => (f41_eq k xs).symm
theorem f41_ent : Ent Try.prog 41 := fun args w => by kernel_rfl
/-! ### terrier/terrref4.clamp: function 74 -/
noncomputable def f74_c : Code := Try.f74.body.getD .skip
abbrev f74_sig : List PT := [(false, (.int .i64))]
abbrev f74_rs : List RT := [.d false (.int .i64)]
abbrev f74_ts : List RV := [.tmp 2]
abbrev f74_S := St → Option (RDL f74_rs)
def f74_Y : Tys := []
noncomputable def f74_E (k : Nat) : Env := []
def f74_A : Ann := {}
noncomputable abbrev f74_a (k : Nat) (F : List (Fr (RDL f74_rs))) : Kont (RDL f74_rs) := ap T f74_Y (f74_E k) f74_A k (Kfin T f74_rs f74_ts) F
def f74_entry_B (k : Nat) (a0 : Int) : Option (Int × Unit) := some ((mx2 true (-1048576) (mx2 false a0 1048576)), ())
theorem f74_entry_P (k : Nat) (xs : DL f74_sig) : f74_a k (.c f74_c 0 :: []) .nx (σ0 6 18 f74_sig xs) = f74_entry_B k  xs.1 := by kernel_rfl
theorem f74_f_entry (k : Nat) : f74_a k [.c f74_c 0] = f74_a k (.c f74_c 0 :: []) := (ap_cons _ rfl)
def f74 (k : Nat) (a0 : Int) : Option (Int × Unit) := f74_entry_B k  a0
theorem f74_eq (k : Nat) (xs : DL f74_sig) : den T f74_Y (f74_E k) f74_A k f74_c 0 (σ0 6 18 f74_sig xs) (Kfin T f74_rs f74_ts) = f74 k xs.1 := by
  refine Eq.trans den_ap (Eq.trans (ap_at (f74_f_entry k) _) ((f74_entry_P k  xs).trans ?_))
  rfl
noncomputable def f74_con (k : Nat) : Con := ⟨f74_sig, f74_rs, fun xs => f74 k xs.1⟩
theorem f74_ok (k : Nat) : PureOK Try.prog 74 f74_sig f74_rs (fun xs => f74 k xs.1) :=
  (pure_of_den (k := k) (A := f74_A) (T := T) (Y := f74_Y) (E := f74_E k) (M := 18) (ts := f74_ts) T_ok trivial trivial mixed (f := 74) (fn := Try.f74) (c := f74_c) (by kernel_rfl) (by kernel_rfl) (by kernel_rfl) (by decide) (by kernel_rfl)).congr fun xs => (f74_eq k xs).symm
theorem f74_ent : Ent Try.prog 74 := fun args w => by kernel_rfl
/-! ### terrier/terrref4.LongOf: function 42 -/
noncomputable def f42_c : Code := Try.f42.body.getD .skip
abbrev f42_sig : List PT := [(true, (.pair (.int .i64) (.int .i64))), (true, (.pair (.int .i64) (.int .i64))), (false, (.int .i64))]
abbrev f42_rs : List RT := [.d false (.int .i64)]
abbrev f42_ts : List RV := [.tmp 6]
abbrev f42_S := St → Option (RDL f42_rs)
def f42_Y : Tys := []
noncomputable def f42_E (k : Nat) : Env := [(74, .c (f74_con k))]
def f42_A : Ann := { regs := [(1, { slots := [(2, .id), (3, .id), (4, .id), (17, .bool)], keys := [(3, []), (4, [])] })], conds := [(2, { slots := [(2, .id), (3, .id), (4, .id)], keys := [(3, []), (4, [])] }), (9, { slots := [(2, .id), (7, .id), (8, .id), (9, .id), (10, .id)] }), (12, { slots := [(11, .id)] })], loops := [(0, { slots := [(2, .id), (7, .id), (8, .id), (9, .id), (10, .id)] })] }
noncomputable abbrev f42_a (k : Nat) (F : List (Fr (RDL f42_rs))) : Kont (RDL f42_rs) := ap T f42_Y (f42_E k) f42_A k (Kfin T f42_rs f42_ts) F
def f42_s_r1 (y3_0 : Int) (y3_1 : Int) (y4_0 : Int) (y4_1 : Int) (x17 : Bool) (x2 : Int) : St := mkS 67 202 [(2, .cp (.one (.int .i64 x2))), (3, .cp (.one (.ptr 3 0))), (4, .cp (.one (.ptr 4 0))), (17, .cp (.one (.prop (x17 = true) inferInstance)))] [(3, .box [.int .i64 y3_0, .int .i64 y3_1]), (4, .box [.int .i64 y4_0, .int .i64 y4_1])]
noncomputable def f42_Q_r1 (k : Nat) : List (Fr (RDL f42_rs)) := [.c (sub f42_c [1, 0, 1]) 0, .c (sub f42_c [1, 1]) 0]
noncomputable def f42_C_r1 (k : Nat) : f42_S := fun σ => f42_a k (f42_Q_r1 k) .nx σ
def f42_s_c2 (y3_0 : Int) (y3_1 : Int) (y4_0 : Int) (y4_1 : Int) (x2 : Int) : St := mkS 67 202 [(2, .cp (.one (.int .i64 x2))), (3, .cp (.one (.ptr 3 0))), (4, .cp (.one (.ptr 4 0)))] [(3, .box [.int .i64 y3_0, .int .i64 y3_1]), (4, .box [.int .i64 y4_0, .int .i64 y4_1])]
noncomputable def f42_Q_c2 (k : Nat) : List (Fr (RDL f42_rs)) := [.c (sub f42_c [1, 1]) 0]
noncomputable def f42_C_c2 (k : Nat) : f42_S := fun σ => f42_a k (f42_Q_c2 k) .nx σ
def f42_s_l0 (x10 : Int) (x2 : Int) (x7 : Int) (x8 : Int) (x9 : Int) : St := mkS 67 202 [(2, .cp (.one (.int .i64 x2))), (7, .cp (.one (.int .i64 x7))), (8, .cp (.one (.int .i64 x8))), (9, .cp (.one (.int .i64 x9))), (10, .cp (.one (.int .i64 x10)))] []
noncomputable def f42_Q_l0 (k : Nat) (R_l0 : f42_S) : List (Fr (RDL f42_rs)) := [.c (sub f42_c [1, 1, 1, 1, 0, 1, 0, 0]) 0, .j (fun σ => R_l0 (cut f42_A.loops 0 σ)), .blk 0, .c (sub f42_c [1, 1, 1, 1, 1]) 0]
noncomputable def f42_C_l0 (k : Nat) (n : Nat) (σ : St) : Option (RDL f42_rs) := loopK (fun σ K => den T f42_Y (f42_E k) f42_A k (sub f42_c [1, 1, 1, 1, 0, 1, 0, 0]) 0 σ K) (cut f42_A.loops 0) (f42_a k [.blk 0, .c (sub f42_c [1, 1, 1, 1, 1]) 0]) n σ
def f42_s_c9 (x10 : Int) (x2 : Int) (x7 : Int) (x8 : Int) (x9 : Int) : St := mkS 67 202 [(2, .cp (.one (.int .i64 x2))), (7, .cp (.one (.int .i64 x7))), (8, .cp (.one (.int .i64 x8))), (9, .cp (.one (.int .i64 x9))), (10, .cp (.one (.int .i64 x10)))] []
noncomputable def f42_Q_c9 (k : Nat) (R_l0 : f42_S) : List (Fr (RDL f42_rs)) := [.blk 1, .c (sub f42_c [1, 1, 1, 1, 0, 1, 0, 0, 1, 1]) 0, .j (fun σ => R_l0 (cut f42_A.loops 0 σ)), .blk 0, .c (sub f42_c [1, 1, 1, 1, 1]) 0]
noncomputable def f42_C_c9 (k : Nat) (R_l0 : f42_S) : f42_S := fun σ => f42_a k (f42_Q_c9 k R_l0) .nx σ
def f42_s_c12 (x11 : Int) : St := mkS 67 202 [(11, .cp (.one (.int .i64 x11)))] []
noncomputable def f42_Q_c12 (k : Nat) : List (Fr (RDL f42_rs)) := [.c (sub f42_c [1, 1, 1, 1, 1, 1, 1]) 0]
noncomputable def f42_C_c12 (k : Nat) : f42_S := fun σ => f42_a k (f42_Q_c12 k) .nx σ
theorem f42_h1_1_1_1_1_1_0 : (sub f42_c [1, 1, 1, 1, 1, 1, 0]) = .seq (sub f42_c [1, 1, 1, 1, 1, 1, 0, 0]) (sub f42_c [1, 1, 1, 1, 1, 1, 0, 1]) := by kernel_rfl
theorem f42_h1_1_1_1_1_1 : (sub f42_c [1, 1, 1, 1, 1, 1]) = .seq (sub f42_c [1, 1, 1, 1, 1, 1, 0]) (sub f42_c [1, 1, 1, 1, 1, 1, 1]) := by kernel_rfl
theorem f42_h1_1_1_1_1 : (sub f42_c [1, 1, 1, 1, 1]) = .seq (sub f42_c [1, 1, 1, 1, 1, 0]) (sub f42_c [1, 1, 1, 1, 1, 1]) := by kernel_rfl
theorem f42_h1_1_1_1_0_1_0 : (sub f42_c [1, 1, 1, 1, 0, 1, 0]) = .loop (sub f42_c [1, 1, 1, 1, 0, 1, 0, 0]) := by kernel_rfl
theorem f42_h1_1_1_1_0_1 : (sub f42_c [1, 1, 1, 1, 0, 1]) = .block 0 (sub f42_c [1, 1, 1, 1, 0, 1, 0]) := by kernel_rfl
theorem f42_h1_1_1_1_0 : (sub f42_c [1, 1, 1, 1, 0]) = .seq (sub f42_c [1, 1, 1, 1, 0, 0]) (sub f42_c [1, 1, 1, 1, 0, 1]) := by kernel_rfl
theorem f42_h1_1_1_1 : (sub f42_c [1, 1, 1, 1]) = .seq (sub f42_c [1, 1, 1, 1, 0]) (sub f42_c [1, 1, 1, 1, 1]) := by kernel_rfl
theorem f42_h1_1_1 : (sub f42_c [1, 1, 1]) = .seq (sub f42_c [1, 1, 1, 0]) (sub f42_c [1, 1, 1, 1]) := by kernel_rfl
theorem f42_h1_1 : (sub f42_c [1, 1]) = .seq (sub f42_c [1, 1, 0]) (sub f42_c [1, 1, 1]) := by kernel_rfl
theorem f42_h1_1_1_1_0_1_0_0_1_0_0 : (sub f42_c [1, 1, 1, 1, 0, 1, 0, 0, 1, 0, 0]) = .seq (sub f42_c [1, 1, 1, 1, 0, 1, 0, 0, 1, 0, 0, 0]) (sub f42_c [1, 1, 1, 1, 0, 1, 0, 0, 1, 0, 0, 1]) := by kernel_rfl
theorem f42_h1_1_1_1_0_1_0_0_1_0 : (sub f42_c [1, 1, 1, 1, 0, 1, 0, 0, 1, 0]) = .block 1 (sub f42_c [1, 1, 1, 1, 0, 1, 0, 0, 1, 0, 0]) := by kernel_rfl
theorem f42_h1_1_1_1_0_1_0_0_1 : (sub f42_c [1, 1, 1, 1, 0, 1, 0, 0, 1]) = .seq (sub f42_c [1, 1, 1, 1, 0, 1, 0, 0, 1, 0]) (sub f42_c [1, 1, 1, 1, 0, 1, 0, 0, 1, 1]) := by kernel_rfl
theorem f42_h1_1_1_1_0_1_0_0 : (sub f42_c [1, 1, 1, 1, 0, 1, 0, 0]) = .seq (sub f42_c [1, 1, 1, 1, 0, 1, 0, 0, 0]) (sub f42_c [1, 1, 1, 1, 0, 1, 0, 0, 1]) := by kernel_rfl
theorem f42_h1_0 : (sub f42_c [1, 0]) = .seq (sub f42_c [1, 0, 0]) (sub f42_c [1, 0, 1]) := by kernel_rfl
theorem f42_h1 : (sub f42_c [1]) = .seq (sub f42_c [1, 0]) (sub f42_c [1, 1]) := by kernel_rfl
theorem f42_h : f42_c = .seq (sub f42_c [0]) (sub f42_c [1]) := by kernel_rfl
noncomputable def f42_F_c12 (k : Nat) : List (Fr (RDL f42_rs)) := .c (sub f42_c [1, 1, 1, 1, 1, 1, 1]) 0 :: []
theorem f42_f_c12 (k : Nat) : f42_a k (f42_Q_c12 k) = f42_a k (f42_F_c12 k) := (ap_cons _ rfl)
noncomputable def f42_F_c2 (k : Nat) (G_l0 : f42_S) (G_c12 : f42_S) : List (Fr (RDL f42_rs)) := .c (sub f42_c [1, 1, 0]) 0 :: .c (sub f42_c [1, 1, 1, 0]) 0 :: .c (sub f42_c [1, 1, 1, 1, 0, 0]) 0 :: .j (fun σ => f42_a k (.j (fun σ => G_l0 (cut f42_A.loops 0 σ)) :: .blk 0 :: .c (sub f42_c [1, 1, 1, 1, 1, 0]) 0 :: .c (sub f42_c [1, 1, 1, 1, 1, 1, 0, 0]) 0 :: .c (sub f42_c [1, 1, 1, 1, 1, 1, 0, 1]) 0 :: .j G_c12 :: f42_F_c12 k) .nx σ) :: .c (sub f42_c [1, 1, 1, 1, 1, 0]) 0 :: .c (sub f42_c [1, 1, 1, 1, 1, 1, 0, 0]) 0 :: .c (sub f42_c [1, 1, 1, 1, 1, 1, 0, 1]) 0 :: .j G_c12 :: f42_F_c12 k
theorem f42_f_c2 (k : Nat) : f42_a k (f42_Q_c2 k) = f42_a k (f42_F_c2 k (f42_C_l0 k k) (f42_C_c12 k)) := (Eq.trans (ap_seq f42_h1_1) (ap_cons _ (Eq.trans (ap_seq f42_h1_1_1) (ap_cons _ (Eq.trans (ap_seq f42_h1_1_1_1) (Eq.trans (ap_seq f42_h1_1_1_1_0) (ap_cons _ (Eq.trans (ap_block f42_h1_1_1_1_0_1) (Eq.trans (ap_j (Eq.trans (ap_loop (C := (f42_C_l0 k)) f42_h1_1_1_1_0_1_0 (fun _ _ => rfl)) (ap_cons _ (ap_cons _ (Eq.trans (ap_seq f42_h1_1_1_1_1) (ap_cons _ (Eq.trans (ap_seq f42_h1_1_1_1_1_1) (Eq.trans (ap_seq f42_h1_1_1_1_1_1_0) (ap_cons _ (ap_cons _ (Eq.trans (ap_pass (C := (f42_C_c12 k)) (fun _ => rfl)) (ap_cons _ (f42_f_c12 k))))))))))))) (ap_cons _ (Eq.trans (ap_seq f42_h1_1_1_1_1) (ap_cons _ (Eq.trans (ap_seq f42_h1_1_1_1_1_1) (Eq.trans (ap_seq f42_h1_1_1_1_1_1_0) (ap_cons _ (ap_cons _ (Eq.trans (ap_pass (C := (f42_C_c12 k)) (fun _ => rfl)) (ap_cons _ (f42_f_c12 k)))))))))))))))))))
noncomputable def f42_F_r1 (k : Nat) (G_c2 : f42_S) (G_l0 : f42_S) (G_c12 : f42_S) : List (Fr (RDL f42_rs)) := .c (sub f42_c [1, 0, 1]) 0 :: .j G_c2 :: f42_F_c2 k G_l0 G_c12
theorem f42_f_r1 (k : Nat) : f42_a k (f42_Q_r1 k) = f42_a k (f42_F_r1 k (f42_C_c2 k) (f42_C_l0 k k) (f42_C_c12 k)) := (ap_cons _ (Eq.trans (ap_pass (C := (f42_C_c2 k)) (fun _ => rfl)) (ap_cons _ (f42_f_c2 k))))
noncomputable def f42_F_c9 (k : Nat) (G_l0 : f42_S) (G_c12 : f42_S) : List (Fr (RDL f42_rs)) := .blk 1 :: .c (sub f42_c [1, 1, 1, 1, 0, 1, 0, 0, 1, 1]) 0 :: .j (fun σ => G_l0 (cut f42_A.loops 0 σ)) :: .blk 0 :: .c (sub f42_c [1, 1, 1, 1, 1, 0]) 0 :: .c (sub f42_c [1, 1, 1, 1, 1, 1, 0, 0]) 0 :: .c (sub f42_c [1, 1, 1, 1, 1, 1, 0, 1]) 0 :: .j G_c12 :: f42_F_c12 k
theorem f42_f_c9 (k : Nat) (R_l0 : f42_S) : f42_a k (f42_Q_c9 k R_l0) = f42_a k (f42_F_c9 k R_l0 (f42_C_c12 k)) := (ap_cons _ (ap_cons _ (ap_cons _ (ap_cons _ (Eq.trans (ap_seq f42_h1_1_1_1_1) (ap_cons _ (Eq.trans (ap_seq f42_h1_1_1_1_1_1) (Eq.trans (ap_seq f42_h1_1_1_1_1_1_0) (ap_cons _ (ap_cons _ (Eq.trans (ap_pass (C := (f42_C_c12 k)) (fun _ => rfl)) (ap_cons _ (f42_f_c12 k)))))))))))))
noncomputable def f42_F_l0 (k : Nat) (G_l0 : f42_S) (G_c9 : f42_S) (G_c12 : f42_S) : List (Fr (RDL f42_rs)) := .c (sub f42_c [1, 1, 1, 1, 0, 1, 0, 0, 0]) 0 :: .j (fun σ => f42_a k (.c (sub f42_c [1, 1, 1, 1, 0, 1, 0, 0, 1, 0, 0, 0]) 1 :: .c (sub f42_c [1, 1, 1, 1, 0, 1, 0, 0, 1, 0, 0, 1]) 1 :: .j G_c9 :: f42_F_c9 k G_l0 G_c12) .nx σ) :: .c (sub f42_c [1, 1, 1, 1, 0, 1, 0, 0, 1, 1]) 0 :: .j (fun σ => G_l0 (cut f42_A.loops 0 σ)) :: .blk 0 :: .c (sub f42_c [1, 1, 1, 1, 1, 0]) 0 :: .c (sub f42_c [1, 1, 1, 1, 1, 1, 0, 0]) 0 :: .c (sub f42_c [1, 1, 1, 1, 1, 1, 0, 1]) 0 :: .j G_c12 :: f42_F_c12 k
theorem f42_f_l0 (k : Nat) (R_l0 : f42_S) : f42_a k (f42_Q_l0 k R_l0) = f42_a k (f42_F_l0 k R_l0 (f42_C_c9 k R_l0) (f42_C_c12 k)) := (Eq.trans (ap_seq f42_h1_1_1_1_0_1_0_0) (ap_cons _ (Eq.trans (ap_seq f42_h1_1_1_1_0_1_0_0_1) (Eq.trans (ap_block f42_h1_1_1_1_0_1_0_0_1_0) (Eq.trans (ap_j (Eq.trans (ap_seq f42_h1_1_1_1_0_1_0_0_1_0_0) (ap_cons _ (ap_cons _ (Eq.trans (ap_pass (C := (f42_C_c9 k R_l0)) (fun _ => rfl)) (ap_cons _ (f42_f_c9 k R_l0))))))) (ap_cons _ (ap_cons _ (ap_cons _ (ap_cons _ (Eq.trans (ap_seq f42_h1_1_1_1_1) (ap_cons _ (Eq.trans (ap_seq f42_h1_1_1_1_1_1) (Eq.trans (ap_seq f42_h1_1_1_1_1_1_0) (ap_cons _ (ap_cons _ (Eq.trans (ap_pass (C := (f42_C_c12 k)) (fun _ => rfl)) (ap_cons _ (f42_f_c12 k))))))))))))))))))
def f42_entry_B (k : Nat) (g_r1 : Int → Int → Int → Int → Bool → Int → Option (Int × Unit)) (a0 : (Int × Int)) (a1 : (Int × Int)) (a2 : Int) : Option (Int × Unit) := (if a2 < 1 then (g_r1 a0.1 a0.2 a1.1 a1.2 true a2) else (g_r1 a0.1 a0.2 a1.1 a1.2 (decide (1000 < a2)) a2))
def f42_r1_B (k : Nat) (g_c2 : Int → Int → Int → Int → Int → Option (Int × Unit)) (y3_0 : Int) (y3_1 : Int) (y4_0 : Int) (y4_1 : Int) (x17 : Bool) (x2 : Int) : Option (Int × Unit) := (if x17 = true then (g_c2 y3_0 y3_1 y4_0 y4_1 100) else (g_c2 y3_0 y3_1 y4_0 y4_1 x2))
def f42_c2_B (k : Nat) (g_l0 : Int → Int → Int → Int → Int → Option (Int × Unit)) (y3_0 : Int) (y3_1 : Int) (y4_0 : Int) (y4_1 : Int) (x2 : Int) : Option (Int × Unit) := ((f74 k y3_0).bind fun r1 => ((f74 k y4_0).bind fun r2 => ((f74 k y3_1).bind fun r3 => ((f74 k y4_1).bind fun r4 => (g_l0 4194304 x2 (w64 (r1.1 - r2.1)) (w64 (r3.1 - r4.1)) 0)))))
def f42_l0_B (k : Nat) (g_c9 : Int → Int → Int → Int → Int → Option (Int × Unit)) (g_c12 : Int → Option (Int × Unit)) (x10 : Int) (x2 : Int) (x7 : Int) (x8 : Int) (x9 : Int) : Option (Int × Unit) := (if 0 < x10 then (if (w64 ((w64 (x9 + x10)) * (w64 (x9 + x10)))) ≤ (w64 ((w64 (x7 * x7)) + (w64 (x8 * x8)))) then (g_c9 x10 x2 x7 x8 (w64 (x9 + x10))) else (g_c9 x10 x2 x7 x8 x9)) else (if ¬ x2 = 0 then (if (w64 ((w64 ((w64 (x9 * 100)).tdiv x2)) * x2)) < (w64 (x9 * 100)) then (g_c12 (w64 ((w64 ((w64 (x9 * 100)).tdiv x2)) + 1))) else (g_c12 (w64 ((w64 (x9 * 100)).tdiv x2)))) else none))
def f42_c9_B (k : Nat) (g_l0 : Int → Int → Int → Int → Int → Option (Int × Unit)) (x10 : Int) (x2 : Int) (x7 : Int) (x8 : Int) (x9 : Int) : Option (Int × Unit) := (g_l0 (w64 (x10.tdiv 2)) x2 x7 x8 x9)
def f42_c12_B (k : Nat) (x11 : Int) : Option (Int × Unit) := some (x11, ())
theorem f42_c9_P (k : Nat) (G_l0 : f42_S) (G_c12 : f42_S) (x10 : Int) (x2 : Int) (x7 : Int) (x8 : Int) (x9 : Int) : f42_a k (f42_F_c9 k G_l0 G_c12) .nx (f42_s_c9 x10 x2 x7 x8 x9) = f42_c9_B k (fun x10 x2 x7 x8 x9 => G_l0 (f42_s_l0 x10 x2 x7 x8 x9)) x10 x2 x7 x8 x9 := by kernel_rfl
def f42_c9 (k : Nat) (r_l0 : Int → Int → Int → Int → Int → Option (Int × Unit)) (x10 : Int) (x2 : Int) (x7 : Int) (x8 : Int) (x9 : Int) : Option (Int × Unit) := f42_c9_B k r_l0 x10 x2 x7 x8 x9
theorem f42_c9_E (k : Nat) (R_l0 : f42_S) (r_l0 : Int → Int → Int → Int → Int → Option (Int × Unit)) (h_l0 : ∀ (x10 : Int) (x2 : Int) (x7 : Int) (x8 : Int) (x9 : Int), R_l0 (f42_s_l0 x10 x2 x7 x8 x9) = r_l0 x10 x2 x7 x8 x9) (x10 : Int) (x2 : Int) (x7 : Int) (x8 : Int) (x9 : Int) : f42_C_c9 k R_l0 (f42_s_c9 x10 x2 x7 x8 x9) = f42_c9 k r_l0 x10 x2 x7 x8 x9 := by
  refine Eq.trans (ap_at (f42_f_c9 k R_l0) _) ((f42_c9_P k R_l0 (f42_C_c12 k) x10 x2 x7 x8 x9).trans ?_)
  have e_l0 : (fun x10 x2 x7 x8 x9 => R_l0 (f42_s_l0 x10 x2 x7 x8 x9)) = r_l0 := funext fun x10 => funext fun x2 => funext fun x7 => funext fun x8 => funext fun x9 => h_l0 x10 x2 x7 x8 x9
  rw [e_l0]
  rfl
theorem f42_c12_P (k : Nat) (x11 : Int) : f42_a k (f42_F_c12 k) .nx (f42_s_c12 x11) = f42_c12_B k  x11 := by kernel_rfl
def f42_c12 (k : Nat) (x11 : Int) : Option (Int × Unit) := f42_c12_B k  x11
theorem f42_c12_E (k : Nat) (x11 : Int) : f42_C_c12 k (f42_s_c12 x11) = f42_c12 k x11 := by
  refine Eq.trans (ap_at (f42_f_c12 k) _) ((f42_c12_P k  x11).trans ?_)
  rfl
theorem f42_l0_P (k : Nat) (G_l0 : f42_S) (G_c9 : f42_S) (G_c12 : f42_S) (x10 : Int) (x2 : Int) (x7 : Int) (x8 : Int) (x9 : Int) : f42_a k (f42_F_l0 k G_l0 G_c9 G_c12) .nx (f42_s_l0 x10 x2 x7 x8 x9) = f42_l0_B k (fun x10 x2 x7 x8 x9 => G_c9 (f42_s_c9 x10 x2 x7 x8 x9)) (fun x11 => G_c12 (f42_s_c12 x11)) x10 x2 x7 x8 x9 := by kernel_rfl
def f42_l0 (k : Nat) : Nat → Int → Int → Int → Int → Int → Option (Int × Unit)
  | 0, _, _, _, _, _ => none
  | n + 1, x10, x2, x7, x8, x9 => f42_l0_B k (f42_c9 k (fun x10 x2 x7 x8 x9 => f42_l0 k n x10 x2 x7 x8 x9)) (f42_c12 k) x10 x2 x7 x8 x9
theorem f42_l0_E (k : Nat) : ∀ (n : Nat) (x10 : Int) (x2 : Int) (x7 : Int) (x8 : Int) (x9 : Int), f42_C_l0 k n (f42_s_l0 x10 x2 x7 x8 x9) = f42_l0 k n x10 x2 x7 x8 x9
  | 0, _, _, _, _, _ => rfl
  | n + 1, x10, x2, x7, x8, x9 => by
    refine Eq.trans (show _ = f42_a k (f42_Q_l0 k (f42_C_l0 k n)) .nx (f42_s_l0 x10 x2 x7 x8 x9) by kernel_rfl) (Eq.trans (ap_at (f42_f_l0 k (f42_C_l0 k n)) _) ((f42_l0_P k (f42_C_l0 k n) (f42_C_c9 k (f42_C_l0 k n)) (f42_C_c12 k) x10 x2 x7 x8 x9).trans ?_))
    have e_c9 : (fun x10 x2 x7 x8 x9 => (f42_C_c9 k (f42_C_l0 k n)) (f42_s_c9 x10 x2 x7 x8 x9)) = (f42_c9 k (fun x10 x2 x7 x8 x9 => f42_l0 k n x10 x2 x7 x8 x9)) := funext fun x10 => funext fun x2 => funext fun x7 => funext fun x8 => funext fun x9 => f42_c9_E k (f42_C_l0 k n) (fun x10 x2 x7 x8 x9 => f42_l0 k n x10 x2 x7 x8 x9) (fun x10 x2 x7 x8 x9 => f42_l0_E k n x10 x2 x7 x8 x9)  x10 x2 x7 x8 x9
    have e_c12 : (fun x11 => (f42_C_c12 k) (f42_s_c12 x11)) = (f42_c12 k) := funext fun x11 => f42_c12_E k   x11
    rw [e_c9, e_c12]
    rfl
theorem f42_c2_P (k : Nat) (G_l0 : f42_S) (G_c12 : f42_S) (y3_0 : Int) (y3_1 : Int) (y4_0 : Int) (y4_1 : Int) (x2 : Int) : f42_a k (f42_F_c2 k G_l0 G_c12) .nx (f42_s_c2 y3_0 y3_1 y4_0 y4_1 x2) = f42_c2_B k (fun x10 x2 x7 x8 x9 => G_l0 (f42_s_l0 x10 x2 x7 x8 x9)) y3_0 y3_1 y4_0 y4_1 x2 := by kernel_rfl
def f42_c2 (k : Nat) (y3_0 : Int) (y3_1 : Int) (y4_0 : Int) (y4_1 : Int) (x2 : Int) : Option (Int × Unit) := f42_c2_B k (f42_l0 k k) y3_0 y3_1 y4_0 y4_1 x2
theorem f42_c2_E (k : Nat) (y3_0 : Int) (y3_1 : Int) (y4_0 : Int) (y4_1 : Int) (x2 : Int) : f42_C_c2 k (f42_s_c2 y3_0 y3_1 y4_0 y4_1 x2) = f42_c2 k y3_0 y3_1 y4_0 y4_1 x2 := by
  refine Eq.trans (ap_at (f42_f_c2 k) _) ((f42_c2_P k (f42_C_l0 k k) (f42_C_c12 k) y3_0 y3_1 y4_0 y4_1 x2).trans ?_)
  have e_l0 : (fun x10 x2 x7 x8 x9 => (f42_C_l0 k k) (f42_s_l0 x10 x2 x7 x8 x9)) = (f42_l0 k k) := funext fun x10 => funext fun x2 => funext fun x7 => funext fun x8 => funext fun x9 => f42_l0_E k  k x10 x2 x7 x8 x9
  rw [e_l0]
  rfl
theorem f42_r1_P (k : Nat) (G_c2 : f42_S) (G_l0 : f42_S) (G_c12 : f42_S) (y3_0 : Int) (y3_1 : Int) (y4_0 : Int) (y4_1 : Int) (x17 : Bool) (x2 : Int) : f42_a k (f42_F_r1 k G_c2 G_l0 G_c12) .nx (f42_s_r1 y3_0 y3_1 y4_0 y4_1 x17 x2) = f42_r1_B k (fun y3_0 y3_1 y4_0 y4_1 x2 => G_c2 (f42_s_c2 y3_0 y3_1 y4_0 y4_1 x2)) y3_0 y3_1 y4_0 y4_1 x17 x2 := by kernel_rfl
def f42_r1 (k : Nat) (y3_0 : Int) (y3_1 : Int) (y4_0 : Int) (y4_1 : Int) (x17 : Bool) (x2 : Int) : Option (Int × Unit) := f42_r1_B k (f42_c2 k) y3_0 y3_1 y4_0 y4_1 x17 x2
theorem f42_r1_E (k : Nat) (y3_0 : Int) (y3_1 : Int) (y4_0 : Int) (y4_1 : Int) (x17 : Bool) (x2 : Int) : f42_C_r1 k (f42_s_r1 y3_0 y3_1 y4_0 y4_1 x17 x2) = f42_r1 k y3_0 y3_1 y4_0 y4_1 x17 x2 := by
  refine Eq.trans (ap_at (f42_f_r1 k) _) ((f42_r1_P k (f42_C_c2 k) (f42_C_l0 k k) (f42_C_c12 k) y3_0 y3_1 y4_0 y4_1 x17 x2).trans ?_)
  have e_c2 : (fun y3_0 y3_1 y4_0 y4_1 x2 => (f42_C_c2 k) (f42_s_c2 y3_0 y3_1 y4_0 y4_1 x2)) = (f42_c2 k) := funext fun y3_0 => funext fun y3_1 => funext fun y4_0 => funext fun y4_1 => funext fun x2 => f42_c2_E k   y3_0 y3_1 y4_0 y4_1 x2
  rw [e_c2]
  rfl
theorem f42_entry_P (k : Nat) (G_r1 : f42_S) (G_c2 : f42_S) (G_l0 : f42_S) (G_c12 : f42_S) (xs : DL f42_sig) : f42_a k (.c (sub f42_c [0]) 0 :: .c (sub f42_c [1, 0, 0]) 0 :: .j G_r1 :: f42_F_r1 k G_c2 G_l0 G_c12) .nx (σ0 67 202 f42_sig xs) = f42_entry_B k (fun y3_0 y3_1 y4_0 y4_1 x17 x2 => G_r1 (f42_s_r1 y3_0 y3_1 y4_0 y4_1 x17 x2)) xs.1 xs.2.1 xs.2.2.1 := by kernel_rfl
theorem f42_f_entry (k : Nat) : f42_a k [.c f42_c 0] = f42_a k (.c (sub f42_c [0]) 0 :: .c (sub f42_c [1, 0, 0]) 0 :: .j (f42_C_r1 k) :: f42_F_r1 k (f42_C_c2 k) (f42_C_l0 k k) (f42_C_c12 k)) := (Eq.trans (ap_seq f42_h) (ap_cons _ (Eq.trans (ap_seq f42_h1) (Eq.trans (ap_seq f42_h1_0) (ap_cons _ (Eq.trans (ap_pass (C := (f42_C_r1 k)) (fun _ => rfl)) (ap_cons _ (f42_f_r1 k))))))))
def f42 (k : Nat) (a0 : (Int × Int)) (a1 : (Int × Int)) (a2 : Int) : Option (Int × Unit) := f42_entry_B k (f42_r1 k) a0 a1 a2
theorem f42_eq (k : Nat) (xs : DL f42_sig) : den T f42_Y (f42_E k) f42_A k f42_c 0 (σ0 67 202 f42_sig xs) (Kfin T f42_rs f42_ts) = f42 k xs.1 xs.2.1 xs.2.2.1 := by
  refine Eq.trans den_ap (Eq.trans (ap_at (f42_f_entry k) _) ((f42_entry_P k (f42_C_r1 k) (f42_C_c2 k) (f42_C_l0 k k) (f42_C_c12 k) xs).trans ?_))
  have e_r1 : (fun y3_0 y3_1 y4_0 y4_1 x17 x2 => (f42_C_r1 k) (f42_s_r1 y3_0 y3_1 y4_0 y4_1 x17 x2)) = (f42_r1 k) := funext fun y3_0 => funext fun y3_1 => funext fun y4_0 => funext fun y4_1 => funext fun x17 => funext fun x2 => f42_r1_E k   y3_0 y3_1 y4_0 y4_1 x17 x2
  rw [e_r1]
  rfl
noncomputable def f42_con (k : Nat) : Con := ⟨f42_sig, f42_rs, fun xs => f42 k xs.1 xs.2.1 xs.2.2.1⟩
theorem f42_ok (k : Nat) : PureOK Try.prog 42 f42_sig f42_rs (fun xs => f42 k xs.1 xs.2.1 xs.2.2.1) :=
  (pure_of_den (k := k) (A := f42_A) (T := T) (Y := f42_Y) (E := f42_E k) (M := 202) (ts := f42_ts) T_ok ⟨f74_ok k, trivial⟩ ⟨f74_ent, trivial⟩ mixed (f := 42) (fn := Try.f42) (c := f42_c) (by kernel_rfl) (by kernel_rfl) (by kernel_rfl) (by decide) (by kernel_rfl)).congr fun xs => (f42_eq k xs).symm
theorem f42_ent : Ent Try.prog 42 := fun args w => by kernel_rfl
/-! ### terrier/terrref4.TurnOK: function 39 -/
noncomputable def f39_c : Code := Try.f39.body.getD .skip
abbrev f39_sig : List PT := [(true, (.pair (.sl false (.pair (.int .i64) (.int .i64))) (.pair (.sl false (.pair (.int .i64) (.pair (.int .i64) (.pair (.int .i64) (.int .i64))))) (.sl false (.pair (.int .i64) (.int .i64)))))), (false, (.int .i64)), (false, (.int .i64))]
abbrev f39_rs : List RT := [.d false .bool]
abbrev f39_ts : List RV := [.tmp 6]
abbrev f39_S := St → Option (RDL f39_rs)
def f39_Y : Tys := []
noncomputable def f39_E (k : Nat) : Env := []
def f39_A : Ann := { regs := [(1, { slots := [(1, .id), (2, .id), (3, .id), (43, .bool)], keys := [(3, [.val false (.pair (.int .i64) (.int .i64)), .val false (.pair (.int .i64) (.pair (.int .i64) (.pair (.int .i64) (.int .i64)))), .val false (.pair (.int .i64) (.int .i64))])] }), (6, { slots := [(1, .id), (2, .id), (45, .val false (.pair (.int .i64) (.int .i64))), (46, .id), (47, .id), (60, .bool)] })], loops := [(0, { slots := [(1, .id), (2, .id), (45, .val false (.pair (.int .i64) (.int .i64))), (46, .id), (47, .id)] })] }
noncomputable abbrev f39_a (k : Nat) (F : List (Fr (RDL f39_rs))) : Kont (RDL f39_rs) := ap T f39_Y (f39_E k) f39_A k (Kfin T f39_rs f39_ts) F
def f39_s_r1 (y3_0 : (List (Int × Int))) (y3_1 : (List (Int × (Int × (Int × Int))))) (y3_2 : (List (Int × Int))) (x1 : Int) (x2 : Int) (x43 : Bool) : St := mkS 62 186 [(1, .cp (.one (.int .i64 x1))), (2, .cp (.one (.int .i64 x2))), (3, .cp (.one (.ptr 3 0))), (43, .cp (.one (.prop (x43 = true) inferInstance)))] [(3, .box [.val false (.pair (.int .i64) (.int .i64)) y3_0, .val false (.pair (.int .i64) (.pair (.int .i64) (.pair (.int .i64) (.int .i64)))) y3_1, .val false (.pair (.int .i64) (.int .i64)) y3_2])]
noncomputable def f39_Q_r1 (k : Nat) : List (Fr (RDL f39_rs)) := [.c (sub f39_c [1, 0, 1]) 0, .c (sub f39_c [1, 1]) 0]
noncomputable def f39_C_r1 (k : Nat) : f39_S := fun σ => f39_a k (f39_Q_r1 k) .nx σ
def f39_s_l0 (x1 : Int) (x2 : Int) (x45 : (List (Int × Int))) (x46 : Int) (x47 : Int) : St := mkS 62 186 [(1, .cp (.one (.int .i64 x1))), (2, .cp (.one (.int .i64 x2))), (45, .cp (.one (.val false (.pair (.int .i64) (.int .i64)) x45))), (46, .cp (.one (.int .i64 x46))), (47, .cp (.one (.int .i64 x47)))] []
noncomputable def f39_Q_l0 (k : Nat) (R_l0 : f39_S) : List (Fr (RDL f39_rs)) := [.c (sub f39_c [1, 1, 0, 1, 0, 0]) 0, .j (fun σ => R_l0 (cut f39_A.loops 0 σ)), .blk 0, .c (sub f39_c [1, 1, 1]) 0]
noncomputable def f39_C_l0 (k : Nat) (n : Nat) (σ : St) : Option (RDL f39_rs) := loopK (fun σ K => den T f39_Y (f39_E k) f39_A k (sub f39_c [1, 1, 0, 1, 0, 0]) 0 σ K) (cut f39_A.loops 0) (f39_a k [.blk 0, .c (sub f39_c [1, 1, 1]) 0]) n σ
def f39_s_r6 (x1 : Int) (x2 : Int) (x45 : (List (Int × Int))) (x46 : Int) (x47 : Int) (x60 : Bool) : St := mkS 62 186 [(1, .cp (.one (.int .i64 x1))), (2, .cp (.one (.int .i64 x2))), (45, .cp (.one (.val false (.pair (.int .i64) (.int .i64)) x45))), (46, .cp (.one (.int .i64 x46))), (47, .cp (.one (.int .i64 x47))), (60, .cp (.one (.prop (x60 = true) inferInstance)))] []
noncomputable def f39_Q_r6 (k : Nat) (R_l0 : f39_S) : List (Fr (RDL f39_rs)) := [.c (sub f39_c [1, 1, 0, 1, 0, 0, 1, 1, 0, 0, 1, 1]) 1, .blk 1, .c (sub f39_c [1, 1, 0, 1, 0, 0, 1, 1, 1]) 0, .j (fun σ => R_l0 (cut f39_A.loops 0 σ)), .blk 0, .c (sub f39_c [1, 1, 1]) 0]
noncomputable def f39_C_r6 (k : Nat) (R_l0 : f39_S) : f39_S := fun σ => f39_a k (f39_Q_r6 k R_l0) .nx σ
theorem f39_h1_1_0_1_0 : (sub f39_c [1, 1, 0, 1, 0]) = .loop (sub f39_c [1, 1, 0, 1, 0, 0]) := by kernel_rfl
theorem f39_h1_1_0_1 : (sub f39_c [1, 1, 0, 1]) = .block 0 (sub f39_c [1, 1, 0, 1, 0]) := by kernel_rfl
theorem f39_h1_1_0 : (sub f39_c [1, 1, 0]) = .seq (sub f39_c [1, 1, 0, 0]) (sub f39_c [1, 1, 0, 1]) := by kernel_rfl
theorem f39_h1_1 : (sub f39_c [1, 1]) = .seq (sub f39_c [1, 1, 0]) (sub f39_c [1, 1, 1]) := by kernel_rfl
theorem f39_h1_1_0_1_0_0_1_1_0_0_1 : (sub f39_c [1, 1, 0, 1, 0, 0, 1, 1, 0, 0, 1]) = .seq (sub f39_c [1, 1, 0, 1, 0, 0, 1, 1, 0, 0, 1, 0]) (sub f39_c [1, 1, 0, 1, 0, 0, 1, 1, 0, 0, 1, 1]) := by kernel_rfl
theorem f39_h1_1_0_1_0_0_1_1_0_0 : (sub f39_c [1, 1, 0, 1, 0, 0, 1, 1, 0, 0]) = .seq (sub f39_c [1, 1, 0, 1, 0, 0, 1, 1, 0, 0, 0]) (sub f39_c [1, 1, 0, 1, 0, 0, 1, 1, 0, 0, 1]) := by kernel_rfl
theorem f39_h1_1_0_1_0_0_1_1_0 : (sub f39_c [1, 1, 0, 1, 0, 0, 1, 1, 0]) = .block 1 (sub f39_c [1, 1, 0, 1, 0, 0, 1, 1, 0, 0]) := by kernel_rfl
theorem f39_h1_1_0_1_0_0_1_1 : (sub f39_c [1, 1, 0, 1, 0, 0, 1, 1]) = .seq (sub f39_c [1, 1, 0, 1, 0, 0, 1, 1, 0]) (sub f39_c [1, 1, 0, 1, 0, 0, 1, 1, 1]) := by kernel_rfl
theorem f39_h1_1_0_1_0_0_1 : (sub f39_c [1, 1, 0, 1, 0, 0, 1]) = .seq (sub f39_c [1, 1, 0, 1, 0, 0, 1, 0]) (sub f39_c [1, 1, 0, 1, 0, 0, 1, 1]) := by kernel_rfl
theorem f39_h1_1_0_1_0_0 : (sub f39_c [1, 1, 0, 1, 0, 0]) = .seq (sub f39_c [1, 1, 0, 1, 0, 0, 0]) (sub f39_c [1, 1, 0, 1, 0, 0, 1]) := by kernel_rfl
theorem f39_h1_0 : (sub f39_c [1, 0]) = .seq (sub f39_c [1, 0, 0]) (sub f39_c [1, 0, 1]) := by kernel_rfl
theorem f39_h1 : (sub f39_c [1]) = .seq (sub f39_c [1, 0]) (sub f39_c [1, 1]) := by kernel_rfl
theorem f39_h : f39_c = .seq (sub f39_c [0]) (sub f39_c [1]) := by kernel_rfl
noncomputable def f39_F_r1 (k : Nat) (G_l0 : f39_S) : List (Fr (RDL f39_rs)) := .c (sub f39_c [1, 0, 1]) 0 :: .c (sub f39_c [1, 1, 0, 0]) 0 :: .j (fun σ => f39_a k (.j (fun σ => G_l0 (cut f39_A.loops 0 σ)) :: .blk 0 :: .c (sub f39_c [1, 1, 1]) 0 :: []) .nx σ) :: .c (sub f39_c [1, 1, 1]) 0 :: []
theorem f39_f_r1 (k : Nat) : f39_a k (f39_Q_r1 k) = f39_a k (f39_F_r1 k (f39_C_l0 k k)) := (ap_cons _ (Eq.trans (ap_seq f39_h1_1) (Eq.trans (ap_seq f39_h1_1_0) (ap_cons _ (Eq.trans (ap_block f39_h1_1_0_1) (Eq.trans (ap_j (Eq.trans (ap_loop (C := (f39_C_l0 k)) f39_h1_1_0_1_0 (fun _ _ => rfl)) (ap_cons _ (ap_cons _ (ap_cons _ rfl))))) (ap_cons _ (ap_cons _ rfl))))))))
noncomputable def f39_F_r6 (k : Nat) (G_l0 : f39_S) : List (Fr (RDL f39_rs)) := .c (sub f39_c [1, 1, 0, 1, 0, 0, 1, 1, 0, 0, 1, 1]) 1 :: .blk 1 :: .c (sub f39_c [1, 1, 0, 1, 0, 0, 1, 1, 1]) 0 :: .j (fun σ => G_l0 (cut f39_A.loops 0 σ)) :: .blk 0 :: .c (sub f39_c [1, 1, 1]) 0 :: []
theorem f39_f_r6 (k : Nat) (R_l0 : f39_S) : f39_a k (f39_Q_r6 k R_l0) = f39_a k (f39_F_r6 k R_l0) := (ap_cons _ (ap_cons _ (ap_cons _ (ap_cons _ (ap_cons _ (ap_cons _ rfl))))))
noncomputable def f39_F_l0 (k : Nat) (G_l0 : f39_S) (G_r6 : f39_S) : List (Fr (RDL f39_rs)) := .c (sub f39_c [1, 1, 0, 1, 0, 0, 0]) 0 :: .c (sub f39_c [1, 1, 0, 1, 0, 0, 1, 0]) 0 :: .j (fun σ => f39_a k (.c (sub f39_c [1, 1, 0, 1, 0, 0, 1, 1, 0, 0, 0]) 1 :: .c (sub f39_c [1, 1, 0, 1, 0, 0, 1, 1, 0, 0, 1, 0]) 1 :: .j G_r6 :: f39_F_r6 k G_l0) .nx σ) :: .c (sub f39_c [1, 1, 0, 1, 0, 0, 1, 1, 1]) 0 :: .j (fun σ => G_l0 (cut f39_A.loops 0 σ)) :: .blk 0 :: .c (sub f39_c [1, 1, 1]) 0 :: []
theorem f39_f_l0 (k : Nat) (R_l0 : f39_S) : f39_a k (f39_Q_l0 k R_l0) = f39_a k (f39_F_l0 k R_l0 (f39_C_r6 k R_l0)) := (Eq.trans (ap_seq f39_h1_1_0_1_0_0) (ap_cons _ (Eq.trans (ap_seq f39_h1_1_0_1_0_0_1) (ap_cons _ (Eq.trans (ap_seq f39_h1_1_0_1_0_0_1_1) (Eq.trans (ap_block f39_h1_1_0_1_0_0_1_1_0) (Eq.trans (ap_j (Eq.trans (ap_seq f39_h1_1_0_1_0_0_1_1_0_0) (ap_cons _ (Eq.trans (ap_seq f39_h1_1_0_1_0_0_1_1_0_0_1) (ap_cons _ (Eq.trans (ap_pass (C := (f39_C_r6 k R_l0)) (fun _ => rfl)) (ap_cons _ (f39_f_r6 k R_l0)))))))) (ap_cons _ (ap_cons _ (ap_cons _ (ap_cons _ (ap_cons _ rfl))))))))))))
def f39_entry_B (k : Nat) (g_r1 : (List (Int × Int)) → (List (Int × (Int × (Int × Int)))) → (List (Int × Int)) → Int → Int → Bool → Option (Bool × Unit)) (a0 : ((List (Int × Int)) × ((List (Int × (Int × (Int × Int)))) × (List (Int × Int))))) (a1 : Int) (a2 : Int) : Option (Bool × Unit) := (if a1 < 0 then (g_r1 a0.1 a0.2.1 a0.2.2 a1 a2 true) else (if a2 < 0 then (g_r1 a0.1 a0.2.1 a0.2.2 a1 a2 true) else (if (a0.2.1.length : Int) ≤ a1 then (g_r1 a0.1 a0.2.1 a0.2.2 a1 a2 true) else (if (a0.2.1.length : Int) ≤ a2 then (g_r1 a0.1 a0.2.1 a0.2.2 a1 a2 true) else (if 0 ≤ a1 then (if a1 < (a0.2.1.length : Int) then (if 0 ≤ a2 then (if a2 < (a0.2.1.length : Int) then (g_r1 a0.1 a0.2.1 a0.2.2 a1 a2 (decide (¬ ((((a0.2.1.getD (a1).toNat (0, (0, (0, 0)))).2).1) = ((a0.2.1.getD (a2).toNat (0, (0, (0, 0)))).1))))) else none) else none) else none) else none)))))
def f39_r1_B (k : Nat) (g_l0 : Int → Int → (List (Int × Int)) → Int → Int → Option (Bool × Unit)) (y3_0 : (List (Int × Int))) (y3_1 : (List (Int × (Int × (Int × Int))))) (y3_2 : (List (Int × Int))) (x1 : Int) (x2 : Int) (x43 : Bool) : Option (Bool × Unit) := (if x43 = true then some (false, ()) else (g_l0 x1 x2 y3_2 (y3_2.length : Int) 0))
def f39_l0_B (k : Nat) (g_r6 : Int → Int → (List (Int × Int)) → Int → Int → Bool → Option (Bool × Unit)) (x1 : Int) (x2 : Int) (x45 : (List (Int × Int))) (x46 : Int) (x47 : Int) : Option (Bool × Unit) := (if x47 < x46 then (if 0 ≤ x47 then (if x47 < (x45.length : Int) then (if ((x45.getD (x47).toNat (0, 0)).1) = x1 then (g_r6 x1 x2 x45 x46 x47 (decide (((x45.getD (x47).toNat (0, 0)).2) = x2))) else (g_r6 x1 x2 x45 x46 x47 false)) else none) else none) else some (true, ()))
def f39_r6_B (k : Nat) (g_l0 : Int → Int → (List (Int × Int)) → Int → Int → Option (Bool × Unit)) (x1 : Int) (x2 : Int) (x45 : (List (Int × Int))) (x46 : Int) (x47 : Int) (x60 : Bool) : Option (Bool × Unit) := (if x60 = true then some (false, ()) else (g_l0 x1 x2 x45 x46 (w64 (x47 + 1))))
theorem f39_r6_P (k : Nat) (G_l0 : f39_S) (x1 : Int) (x2 : Int) (x45 : (List (Int × Int))) (x46 : Int) (x47 : Int) (x60 : Bool) : f39_a k (f39_F_r6 k G_l0) .nx (f39_s_r6 x1 x2 x45 x46 x47 x60) = f39_r6_B k (fun x1 x2 x45 x46 x47 => G_l0 (f39_s_l0 x1 x2 x45 x46 x47)) x1 x2 x45 x46 x47 x60 := by kernel_rfl
def f39_r6 (k : Nat) (r_l0 : Int → Int → (List (Int × Int)) → Int → Int → Option (Bool × Unit)) (x1 : Int) (x2 : Int) (x45 : (List (Int × Int))) (x46 : Int) (x47 : Int) (x60 : Bool) : Option (Bool × Unit) := f39_r6_B k r_l0 x1 x2 x45 x46 x47 x60
theorem f39_r6_E (k : Nat) (R_l0 : f39_S) (r_l0 : Int → Int → (List (Int × Int)) → Int → Int → Option (Bool × Unit)) (h_l0 : ∀ (x1 : Int) (x2 : Int) (x45 : (List (Int × Int))) (x46 : Int) (x47 : Int), R_l0 (f39_s_l0 x1 x2 x45 x46 x47) = r_l0 x1 x2 x45 x46 x47) (x1 : Int) (x2 : Int) (x45 : (List (Int × Int))) (x46 : Int) (x47 : Int) (x60 : Bool) : f39_C_r6 k R_l0 (f39_s_r6 x1 x2 x45 x46 x47 x60) = f39_r6 k r_l0 x1 x2 x45 x46 x47 x60 := by
  refine Eq.trans (ap_at (f39_f_r6 k R_l0) _) ((f39_r6_P k R_l0 x1 x2 x45 x46 x47 x60).trans ?_)
  have e_l0 : (fun x1 x2 x45 x46 x47 => R_l0 (f39_s_l0 x1 x2 x45 x46 x47)) = r_l0 := funext fun x1 => funext fun x2 => funext fun x45 => funext fun x46 => funext fun x47 => h_l0 x1 x2 x45 x46 x47
  rw [e_l0]
  rfl
theorem f39_l0_P (k : Nat) (G_l0 : f39_S) (G_r6 : f39_S) (x1 : Int) (x2 : Int) (x45 : (List (Int × Int))) (x46 : Int) (x47 : Int) : f39_a k (f39_F_l0 k G_l0 G_r6) .nx (f39_s_l0 x1 x2 x45 x46 x47) = f39_l0_B k (fun x1 x2 x45 x46 x47 x60 => G_r6 (f39_s_r6 x1 x2 x45 x46 x47 x60)) x1 x2 x45 x46 x47 := by kernel_rfl
def f39_l0 (k : Nat) : Nat → Int → Int → (List (Int × Int)) → Int → Int → Option (Bool × Unit)
  | 0, _, _, _, _, _ => none
  | n + 1, x1, x2, x45, x46, x47 => f39_l0_B k (f39_r6 k (fun x1 x2 x45 x46 x47 => f39_l0 k n x1 x2 x45 x46 x47)) x1 x2 x45 x46 x47
theorem f39_l0_E (k : Nat) : ∀ (n : Nat) (x1 : Int) (x2 : Int) (x45 : (List (Int × Int))) (x46 : Int) (x47 : Int), f39_C_l0 k n (f39_s_l0 x1 x2 x45 x46 x47) = f39_l0 k n x1 x2 x45 x46 x47
  | 0, _, _, _, _, _ => rfl
  | n + 1, x1, x2, x45, x46, x47 => by
    refine Eq.trans (show _ = f39_a k (f39_Q_l0 k (f39_C_l0 k n)) .nx (f39_s_l0 x1 x2 x45 x46 x47) by kernel_rfl) (Eq.trans (ap_at (f39_f_l0 k (f39_C_l0 k n)) _) ((f39_l0_P k (f39_C_l0 k n) (f39_C_r6 k (f39_C_l0 k n)) x1 x2 x45 x46 x47).trans ?_))
    have e_r6 : (fun x1 x2 x45 x46 x47 x60 => (f39_C_r6 k (f39_C_l0 k n)) (f39_s_r6 x1 x2 x45 x46 x47 x60)) = (f39_r6 k (fun x1 x2 x45 x46 x47 => f39_l0 k n x1 x2 x45 x46 x47)) := funext fun x1 => funext fun x2 => funext fun x45 => funext fun x46 => funext fun x47 => funext fun x60 => f39_r6_E k (f39_C_l0 k n) (fun x1 x2 x45 x46 x47 => f39_l0 k n x1 x2 x45 x46 x47) (fun x1 x2 x45 x46 x47 => f39_l0_E k n x1 x2 x45 x46 x47)  x1 x2 x45 x46 x47 x60
    rw [e_r6]
    rfl
theorem f39_r1_P (k : Nat) (G_l0 : f39_S) (y3_0 : (List (Int × Int))) (y3_1 : (List (Int × (Int × (Int × Int))))) (y3_2 : (List (Int × Int))) (x1 : Int) (x2 : Int) (x43 : Bool) : f39_a k (f39_F_r1 k G_l0) .nx (f39_s_r1 y3_0 y3_1 y3_2 x1 x2 x43) = f39_r1_B k (fun x1 x2 x45 x46 x47 => G_l0 (f39_s_l0 x1 x2 x45 x46 x47)) y3_0 y3_1 y3_2 x1 x2 x43 := by kernel_rfl
def f39_r1 (k : Nat) (y3_0 : (List (Int × Int))) (y3_1 : (List (Int × (Int × (Int × Int))))) (y3_2 : (List (Int × Int))) (x1 : Int) (x2 : Int) (x43 : Bool) : Option (Bool × Unit) := f39_r1_B k (f39_l0 k k) y3_0 y3_1 y3_2 x1 x2 x43
theorem f39_r1_E (k : Nat) (y3_0 : (List (Int × Int))) (y3_1 : (List (Int × (Int × (Int × Int))))) (y3_2 : (List (Int × Int))) (x1 : Int) (x2 : Int) (x43 : Bool) : f39_C_r1 k (f39_s_r1 y3_0 y3_1 y3_2 x1 x2 x43) = f39_r1 k y3_0 y3_1 y3_2 x1 x2 x43 := by
  refine Eq.trans (ap_at (f39_f_r1 k) _) ((f39_r1_P k (f39_C_l0 k k) y3_0 y3_1 y3_2 x1 x2 x43).trans ?_)
  have e_l0 : (fun x1 x2 x45 x46 x47 => (f39_C_l0 k k) (f39_s_l0 x1 x2 x45 x46 x47)) = (f39_l0 k k) := funext fun x1 => funext fun x2 => funext fun x45 => funext fun x46 => funext fun x47 => f39_l0_E k  k x1 x2 x45 x46 x47
  rw [e_l0]
  rfl
theorem f39_entry_P (k : Nat) (G_r1 : f39_S) (G_l0 : f39_S) (xs : DL f39_sig) : f39_a k (.c (sub f39_c [0]) 0 :: .c (sub f39_c [1, 0, 0]) 0 :: .j G_r1 :: f39_F_r1 k G_l0) .nx (σ0 62 186 f39_sig xs) = f39_entry_B k (fun y3_0 y3_1 y3_2 x1 x2 x43 => G_r1 (f39_s_r1 y3_0 y3_1 y3_2 x1 x2 x43)) xs.1 xs.2.1 xs.2.2.1 := by kernel_rfl
theorem f39_f_entry (k : Nat) : f39_a k [.c f39_c 0] = f39_a k (.c (sub f39_c [0]) 0 :: .c (sub f39_c [1, 0, 0]) 0 :: .j (f39_C_r1 k) :: f39_F_r1 k (f39_C_l0 k k)) := (Eq.trans (ap_seq f39_h) (ap_cons _ (Eq.trans (ap_seq f39_h1) (Eq.trans (ap_seq f39_h1_0) (ap_cons _ (Eq.trans (ap_pass (C := (f39_C_r1 k)) (fun _ => rfl)) (ap_cons _ (f39_f_r1 k))))))))
def f39 (k : Nat) (a0 : ((List (Int × Int)) × ((List (Int × (Int × (Int × Int)))) × (List (Int × Int))))) (a1 : Int) (a2 : Int) : Option (Bool × Unit) := f39_entry_B k (f39_r1 k) a0 a1 a2
theorem f39_eq (k : Nat) (xs : DL f39_sig) : den T f39_Y (f39_E k) f39_A k f39_c 0 (σ0 62 186 f39_sig xs) (Kfin T f39_rs f39_ts) = f39 k xs.1 xs.2.1 xs.2.2.1 := by
  refine Eq.trans den_ap (Eq.trans (ap_at (f39_f_entry k) _) ((f39_entry_P k (f39_C_r1 k) (f39_C_l0 k k) xs).trans ?_))
  have e_r1 : (fun y3_0 y3_1 y3_2 x1 x2 x43 => (f39_C_r1 k) (f39_s_r1 y3_0 y3_1 y3_2 x1 x2 x43)) = (f39_r1 k) := funext fun y3_0 => funext fun y3_1 => funext fun y3_2 => funext fun x1 => funext fun x2 => funext fun x43 => f39_r1_E k   y3_0 y3_1 y3_2 x1 x2 x43
  rw [e_r1]
  rfl
noncomputable def f39_con (k : Nat) : Con := ⟨f39_sig, f39_rs, fun xs => f39 k xs.1 xs.2.1 xs.2.2.1⟩
theorem f39_ok (k : Nat) : PureOK Try.prog 39 f39_sig f39_rs (fun xs => f39 k xs.1 xs.2.1 xs.2.2.1) :=
  (pure_of_den (k := k) (A := f39_A) (T := T) (Y := f39_Y) (E := f39_E k) (M := 186) (ts := f39_ts) T_ok trivial trivial mixed (f := 39) (fn := Try.f39) (c := f39_c) (by kernel_rfl) (by kernel_rfl) (by kernel_rfl) (by decide) (by kernel_rfl)).congr fun xs => (f39_eq k xs).symm
theorem f39_ent : Ent Try.prog 39 := fun args w => by kernel_rfl
end Go.Proofs.Ythjejgaekoopnaa.Rw
