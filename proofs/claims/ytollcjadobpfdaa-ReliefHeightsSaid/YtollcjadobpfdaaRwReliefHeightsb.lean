/- What the functions that the law ReliefHeights reaches come to, part 2. No condition. -/
import Derived.Test.YtollcjadobpfdaaRwReliefHeightsa
namespace Go.Proofs.Ytollcjadobpfdaa.Rw
open Go.Rx Go.Proofs
set_option linter.unusedVariables false
set_option maxRecDepth 100000
/-! ### terrier/terrlaw4.ReliefHeights: function 3 -/
noncomputable def f3_c : Code := Try.f3.body.getD .skip
noncomputable abbrev f3_p (n : Nat) : Code := sb f3_c n
abbrev f3_sig : List PT := [(true, Tq8), (false, Tq1), (true, Tq0)]
abbrev f3_rs : List RT := [.d false .bool]
abbrev f3_ts : List RV := [.tmp 6]
abbrev f3_S := St → Option (RDL f3_rs)
abbrev f3_L := List (Fr (RDL f3_rs))
noncomputable def f3_Y : Tys := []
noncomputable def f3_E (k : Nat) : Env := [(10, .c (f10_con k)), (11, .c (f11_con k)), (12, .c (f12_con k)), (13, .c (f13_con k)), (14, .c (f14_con k)), (15, .c (f15_con k)), (16, .c (f16_con k))]
noncomputable def f3_A : Ann := { regs := [(3, { slots := [(1, .val false (.int .i64)), (3, .id), (5, .id), (7, .id), (8, .id), (9, .id), (38, .bool)], keys := [(3, [.val false Tq0, .val false Tq4]), (5, []), (8, [])] }), (5, { slots := [(1, .val false (.int .i64)), (3, .id), (5, .id), (7, .id), (8, .id), (9, .id), (45, .bool)], keys := [(3, [.val false Tq0, .val false Tq4]), (5, []), (8, [])] }), (10, { slots := [(1, .val false (.int .i64)), (3, .id), (5, .id), (7, .id), (8, .id), (9, .id), (10, .id), (59, .bool)], keys := [(3, [.val false Tq0, .val false Tq4]), (5, []), (8, [])] }), (13, { slots := [(6, .bool)] }), (20, { slots := [(6, .bool)] })], conds := [(6, { slots := [(1, .val false (.int .i64)), (3, .id), (5, .id), (7, .id), (8, .id), (9, .id)], keys := [(3, [.val false Tq0, .val false Tq4]), (5, []), (8, [])] }), (9, { slots := [(1, .val false (.int .i64)), (3, .id), (5, .id), (7, .id), (8, .id), (9, .id), (10, .id)], keys := [(3, [.val false Tq0, .val false Tq4]), (5, []), (8, [])] }), (13, { slots := [(1, .val false (.int .i64)), (3, .id), (5, .id), (8, .id), (9, .id), (10, .id)], keys := [(3, [.val false Tq0, .val false Tq4]), (5, []), (8, [])] })] }
noncomputable abbrev f3_a (k : Nat) (F : f3_L) : Kont (RDL f3_rs) := ap T f3_Y (f3_E k) f3_A k (Kfin T f3_rs f3_ts) F
noncomputable def f3_s_r3 (y3_0 : (List (Int × Int))) (y3_1 : (List (Int × (Int × Int)))) (y5_0 : Int) (y5_1 : Int) (y8_0 : Int) (y8_1 : Int) (x1 : (List Int)) (x38 : Bool) (x7 : Int) (x9 : Int) : St := mkS 210 640 [(1, aV (.int .i64) x1), (3, aP 3), (5, aP 5), (7, aI x7), (8, aP 8), (9, aI x9), (38, aB x38)] [(3, .box [cV Tq0 y3_0, cV Tq4 y3_1]), (5, .box [cI y5_0, cI y5_1]), (8, .box [cI y8_0, cI y8_1])]
abbrev f3_t_r3 := (List (Int × Int)) → (List (Int × (Int × Int))) → Int → Int → Int → Int → (List Int) → Bool → Int → Int → Option (Bool × Unit)
noncomputable abbrev f3_o_r3 (R : f3_S) : f3_t_r3 := (fun y3_0 y3_1 y5_0 y5_1 y8_0 y8_1 x1 x38 x7 x9 => R (f3_s_r3 y3_0 y3_1 y5_0 y5_1 y8_0 y8_1 x1 x38 x7 x9))
noncomputable def f3_Q_r3 (k : Nat) : f3_L := [.c (f3_p 61) 0, .c (f3_p 31) 0]
noncomputable def f3_C_r3 (k : Nat) : f3_S := fun σ => f3_a k (f3_Q_r3 k) .nx σ
noncomputable def f3_s_r5 (y3_0 : (List (Int × Int))) (y3_1 : (List (Int × (Int × Int)))) (y5_0 : Int) (y5_1 : Int) (y8_0 : Int) (y8_1 : Int) (x1 : (List Int)) (x45 : Bool) (x7 : Int) (x9 : Int) : St := mkS 210 640 [(1, aV (.int .i64) x1), (3, aP 3), (5, aP 5), (7, aI x7), (8, aP 8), (9, aI x9), (45, aB x45)] [(3, .box [cV Tq0 y3_0, cV Tq4 y3_1]), (5, .box [cI y5_0, cI y5_1]), (8, .box [cI y8_0, cI y8_1])]
abbrev f3_t_r5 := (List (Int × Int)) → (List (Int × (Int × Int))) → Int → Int → Int → Int → (List Int) → Bool → Int → Int → Option (Bool × Unit)
noncomputable abbrev f3_o_r5 (R : f3_S) : f3_t_r5 := (fun y3_0 y3_1 y5_0 y5_1 y8_0 y8_1 x1 x45 x7 x9 => R (f3_s_r5 y3_0 y3_1 y5_0 y5_1 y8_0 y8_1 x1 x45 x7 x9))
noncomputable def f3_Q_r5 (k : Nat) : f3_L := [.c (f3_p 125) 0, .c (f3_p 63) 0]
noncomputable def f3_C_r5 (k : Nat) : f3_S := fun σ => f3_a k (f3_Q_r5 k) .nx σ
noncomputable def f3_s_c6 (y3_0 : (List (Int × Int))) (y3_1 : (List (Int × (Int × Int)))) (y5_0 : Int) (y5_1 : Int) (y8_0 : Int) (y8_1 : Int) (x1 : (List Int)) (x7 : Int) (x9 : Int) : St := mkS 210 640 [(1, aV (.int .i64) x1), (3, aP 3), (5, aP 5), (7, aI x7), (8, aP 8), (9, aI x9)] [(3, .box [cV Tq0 y3_0, cV Tq4 y3_1]), (5, .box [cI y5_0, cI y5_1]), (8, .box [cI y8_0, cI y8_1])]
abbrev f3_t_c6 := (List (Int × Int)) → (List (Int × (Int × Int))) → Int → Int → Int → Int → (List Int) → Int → Int → Option (Bool × Unit)
noncomputable abbrev f3_o_c6 (R : f3_S) : f3_t_c6 := (fun y3_0 y3_1 y5_0 y5_1 y8_0 y8_1 x1 x7 x9 => R (f3_s_c6 y3_0 y3_1 y5_0 y5_1 y8_0 y8_1 x1 x7 x9))
noncomputable def f3_Q_c6 (k : Nat) : f3_L := [.c (f3_p 63) 0]
noncomputable def f3_C_c6 (k : Nat) : f3_S := fun σ => f3_a k (f3_Q_c6 k) .nx σ
noncomputable def f3_s_r10 (y3_0 : (List (Int × Int))) (y3_1 : (List (Int × (Int × Int)))) (y5_0 : Int) (y5_1 : Int) (y8_0 : Int) (y8_1 : Int) (x1 : (List Int)) (x10 : Int) (x59 : Bool) (x7 : Int) (x9 : Int) : St := mkS 210 640 [(1, aV (.int .i64) x1), (3, aP 3), (5, aP 5), (7, aI x7), (8, aP 8), (9, aI x9), (10, aI x10), (59, aB x59)] [(3, .box [cV Tq0 y3_0, cV Tq4 y3_1]), (5, .box [cI y5_0, cI y5_1]), (8, .box [cI y8_0, cI y8_1])]
abbrev f3_t_r10 := (List (Int × Int)) → (List (Int × (Int × Int))) → Int → Int → Int → Int → (List Int) → Int → Bool → Int → Int → Option (Bool × Unit)
noncomputable abbrev f3_o_r10 (R : f3_S) : f3_t_r10 := (fun y3_0 y3_1 y5_0 y5_1 y8_0 y8_1 x1 x10 x59 x7 x9 => R (f3_s_r10 y3_0 y3_1 y5_0 y5_1 y8_0 y8_1 x1 x10 x59 x7 x9))
noncomputable def f3_Q_r10 (k : Nat) : f3_L := [.c (f3_p 4075) 0, .cond 9, .c (f3_p 255) 0]
noncomputable def f3_C_r10 (k : Nat) : f3_S := fun σ => f3_a k (f3_Q_r10 k) .nx σ
noncomputable def f3_s_c9 (y3_0 : (List (Int × Int))) (y3_1 : (List (Int × (Int × Int)))) (y5_0 : Int) (y5_1 : Int) (y8_0 : Int) (y8_1 : Int) (x1 : (List Int)) (x10 : Int) (x7 : Int) (x9 : Int) : St := mkS 210 640 [(1, aV (.int .i64) x1), (3, aP 3), (5, aP 5), (7, aI x7), (8, aP 8), (9, aI x9), (10, aI x10)] [(3, .box [cV Tq0 y3_0, cV Tq4 y3_1]), (5, .box [cI y5_0, cI y5_1]), (8, .box [cI y8_0, cI y8_1])]
abbrev f3_t_c9 := (List (Int × Int)) → (List (Int × (Int × Int))) → Int → Int → Int → Int → (List Int) → Int → Int → Int → Option (Bool × Unit)
noncomputable abbrev f3_o_c9 (R : f3_S) : f3_t_c9 := (fun y3_0 y3_1 y5_0 y5_1 y8_0 y8_1 x1 x10 x7 x9 => R (f3_s_c9 y3_0 y3_1 y5_0 y5_1 y8_0 y8_1 x1 x10 x7 x9))
noncomputable def f3_Q_c9 (k : Nat) : f3_L := [.c (f3_p 255) 0]
noncomputable def f3_C_c9 (k : Nat) : f3_S := fun σ => f3_a k (f3_Q_c9 k) .nx σ
noncomputable def f3_s_r13 (x6 : Bool) : St := mkS 210 640 [(6, aB x6)] []
abbrev f3_t_r13 := Bool → Option (Bool × Unit)
noncomputable abbrev f3_o_r13 (R : f3_S) : f3_t_r13 := (fun x6 => R (f3_s_r13 x6))
noncomputable def f3_Q_r13 (k : Nat) : f3_L := [.c (f3_p 4085) 0, .cond 13, .c (f3_p 511) 0]
noncomputable def f3_C_r13 (k : Nat) : f3_S := fun σ => f3_a k (f3_Q_r13 k) .nx σ
noncomputable def f3_s_c13 (y3_0 : (List (Int × Int))) (y3_1 : (List (Int × (Int × Int)))) (y5_0 : Int) (y5_1 : Int) (y8_0 : Int) (y8_1 : Int) (x1 : (List Int)) (x10 : Int) (x9 : Int) : St := mkS 210 640 [(1, aV (.int .i64) x1), (3, aP 3), (5, aP 5), (8, aP 8), (9, aI x9), (10, aI x10)] [(3, .box [cV Tq0 y3_0, cV Tq4 y3_1]), (5, .box [cI y5_0, cI y5_1]), (8, .box [cI y8_0, cI y8_1])]
abbrev f3_t_c13 := (List (Int × Int)) → (List (Int × (Int × Int))) → Int → Int → Int → Int → (List Int) → Int → Int → Option (Bool × Unit)
noncomputable abbrev f3_o_c13 (R : f3_S) : f3_t_c13 := (fun y3_0 y3_1 y5_0 y5_1 y8_0 y8_1 x1 x10 x9 => R (f3_s_c13 y3_0 y3_1 y5_0 y5_1 y8_0 y8_1 x1 x10 x9))
noncomputable def f3_Q_c13 (k : Nat) : f3_L := [.c (f3_p 511) 0]
noncomputable def f3_C_c13 (k : Nat) : f3_S := fun σ => f3_a k (f3_Q_c13 k) .nx σ
noncomputable def f3_s_r20 (x6 : Bool) : St := mkS 210 640 [(6, aB x6)] []
abbrev f3_t_r20 := Bool → Option (Bool × Unit)
noncomputable abbrev f3_o_r20 (R : f3_S) : f3_t_r20 := (fun x6 => R (f3_s_r20 x6))
noncomputable def f3_Q_r20 (k : Nat) : f3_L := [.c (f3_p 65535) 0]
noncomputable def f3_C_r20 (k : Nat) : f3_S := fun σ => f3_a k (f3_Q_r20 k) .nx σ
noncomputable def f3_F_r20 (k : Nat) : f3_L := .c (f3_p 65535) 0 :: []
theorem f3_f_r20 (k : Nat) : f3_a k (f3_Q_r20 k) = f3_a k (f3_F_r20 k) := (ap_cons _ rfl)
noncomputable def f3_F_c13 (k : Nat) (G_r20 : f3_S) : f3_L := .c (f3_p 1022) 0 :: .c (f3_p 2046) 0 :: .c (f3_p 4094) 0 :: .c (f3_p 8190) 0 :: .c (f3_p 16382) 0 :: .c (f3_p 32766) 0 :: .c (f3_p 65534) 0 :: .j G_r20 :: f3_F_r20 k
theorem f3_f_c13 (k : Nat) : f3_a k (f3_Q_c13 k) = f3_a k (f3_F_c13 k (f3_C_r20 k)) := (Eq.trans ap_sq (ap_cons _ (Eq.trans ap_sq (ap_cons _ (Eq.trans ap_sq (ap_cons _ (Eq.trans ap_sq (ap_cons _ (Eq.trans ap_sq (ap_cons _ (Eq.trans ap_sq (ap_cons _ (Eq.trans ap_sq (ap_cons _ (Eq.trans (ap_pass (C := (f3_C_r20 k)) (fun _ => rfl)) (ap_cons _ (f3_f_r20 k)))))))))))))))))
noncomputable def f3_F_r13 (k : Nat) (G_c13 G_r20 : f3_S) : f3_L := .c (f3_p 4085) 0 :: .j (fun σ => G_c13 (cut f3_A.conds 13 σ)) :: f3_F_c13 k G_r20
theorem f3_f_r13 (k : Nat) : f3_a k (f3_Q_r13 k) = f3_a k (f3_F_r13 k (f3_C_c13 k) (f3_C_r20 k)) := (ap_cons _ (Eq.trans (ap_condj (C := (f3_C_c13 k)) (fun _ => rfl)) (ap_cons _ (f3_f_c13 k))))
noncomputable def f3_F_c9 (k : Nat) (G_r13 G_c13 G_r20 : f3_S) : f3_L := .c (f3_p 1020) 0 :: .i (.tmp 61) (fun σ => f3_a k (.c (f3_p 4084) 0 :: .j G_r13 :: f3_F_r13 k G_c13 G_r20) .nx σ) (fun σ => f3_a k (.c (f3_p 2043) 0 :: .j (fun σ => G_c13 (cut f3_A.conds 13 σ)) :: f3_F_c13 k G_r20) .nx σ) :: f3_F_c13 k G_r20
theorem f3_f_c9 (k : Nat) : f3_a k (f3_Q_c9 k) = f3_a k (f3_F_c9 k (f3_C_r13 k) (f3_C_c13 k) (f3_C_r20 k)) := (Eq.trans ap_sq (Eq.trans ap_sq (ap_cons _ (Eq.trans (ap_cn (.tmp 61) 13) (Eq.trans (ap_i (Eq.trans ap_sq (ap_cons _ (Eq.trans (ap_pass (C := (f3_C_r13 k)) (fun _ => rfl)) (ap_cons _ (f3_f_r13 k))))) (ap_cons _ (Eq.trans (ap_condj (C := (f3_C_c13 k)) (fun _ => rfl)) (ap_cons _ (f3_f_c13 k))))) (ap_cons _ (f3_f_c13 k)))))))
noncomputable def f3_F_r10 (k : Nat) (G_c9 G_r13 G_c13 G_r20 : f3_S) : f3_L := .c (f3_p 4075) 0 :: .j (fun σ => G_c9 (cut f3_A.conds 9 σ)) :: f3_F_c9 k G_r13 G_c13 G_r20
theorem f3_f_r10 (k : Nat) : f3_a k (f3_Q_r10 k) = f3_a k (f3_F_r10 k (f3_C_c9 k) (f3_C_r13 k) (f3_C_c13 k) (f3_C_r20 k)) := (ap_cons _ (Eq.trans (ap_condj (C := (f3_C_c9 k)) (fun _ => rfl)) (ap_cons _ (f3_f_c9 k))))
noncomputable def f3_F_c6 (k : Nat) (G_r10 G_c9 G_r13 G_c13 G_r20 : f3_S) : f3_L := .c (f3_p 126) 0 :: .c (f3_p 508) 0 :: .i (.tmp 47) (fun σ => f3_a k (.c (f3_p 2036) 0 :: .c (f3_p 4074) 0 :: .j G_r10 :: f3_F_r10 k G_c9 G_r13 G_c13 G_r20) .nx σ) (fun σ => f3_a k (.c (f3_p 1019) 0 :: .j (fun σ => G_c9 (cut f3_A.conds 9 σ)) :: f3_F_c9 k G_r13 G_c13 G_r20) .nx σ) :: f3_F_c9 k G_r13 G_c13 G_r20
theorem f3_f_c6 (k : Nat) : f3_a k (f3_Q_c6 k) = f3_a k (f3_F_c6 k (f3_C_r10 k) (f3_C_c9 k) (f3_C_r13 k) (f3_C_c13 k) (f3_C_r20 k)) := (Eq.trans ap_sq (ap_cons _ (Eq.trans ap_sq (Eq.trans ap_sq (ap_cons _ (Eq.trans (ap_cn (.tmp 47) 9) (Eq.trans (ap_i (Eq.trans ap_sq (ap_cons _ (Eq.trans ap_sq (ap_cons _ (Eq.trans (ap_pass (C := (f3_C_r10 k)) (fun _ => rfl)) (ap_cons _ (f3_f_r10 k))))))) (ap_cons _ (Eq.trans (ap_condj (C := (f3_C_c9 k)) (fun _ => rfl)) (ap_cons _ (f3_f_c9 k))))) (ap_cons _ (f3_f_c9 k)))))))))
noncomputable def f3_F_r5 (k : Nat) (G_c6 G_r10 G_c9 G_r13 G_c13 G_r20 : f3_S) : f3_L := .c (f3_p 125) 0 :: .j G_c6 :: f3_F_c6 k G_r10 G_c9 G_r13 G_c13 G_r20
theorem f3_f_r5 (k : Nat) : f3_a k (f3_Q_r5 k) = f3_a k (f3_F_r5 k (f3_C_c6 k) (f3_C_r10 k) (f3_C_c9 k) (f3_C_r13 k) (f3_C_c13 k) (f3_C_r20 k)) := (ap_cons _ (Eq.trans (ap_pass (C := (f3_C_c6 k)) (fun _ => rfl)) (ap_cons _ (f3_f_c6 k))))
noncomputable def f3_F_r3 (k : Nat) (G_r5 G_c6 G_r10 G_c9 G_r13 G_c13 G_r20 : f3_S) : f3_L := .c (f3_p 61) 0 :: .c (f3_p 124) 0 :: .j G_r5 :: f3_F_r5 k G_c6 G_r10 G_c9 G_r13 G_c13 G_r20
theorem f3_f_r3 (k : Nat) : f3_a k (f3_Q_r3 k) = f3_a k (f3_F_r3 k (f3_C_r5 k) (f3_C_c6 k) (f3_C_r10 k) (f3_C_c9 k) (f3_C_r13 k) (f3_C_c13 k) (f3_C_r20 k)) := (ap_cons _ (Eq.trans ap_sq (Eq.trans ap_sq (ap_cons _ (Eq.trans (ap_pass (C := (f3_C_r5 k)) (fun _ => rfl)) (ap_cons _ (f3_f_r5 k)))))))
noncomputable def f3_entry_B (k : Nat) (g_r3 : f3_t_r3) (a0 : Td9) (a1 : (List Int)) (a2 : (Int × Int)) : Option (Bool × Unit) := ((f10 k (a0.1, a0.2) a1).bind fun r1 => ((f11 k (a0.1, a0.2) a1 (a2.1, a2.2)).bind fun r2 => ((f12 k ).bind fun r3 => (if ¬ (r3.1 = true) then (g_r3 a0.1 a0.2 a2.1 a2.2 r2.1.1 r2.1.2 a1 true r1.1 r2.2.1) else ((f13 k (a0.1, a0.2) a1).bind fun r4 => (g_r3 a0.1 a0.2 a2.1 a2.2 r2.1.1 r2.1.2 a1 (decide (¬ (r4.1 = r1.1))) r1.1 r2.2.1))))))
noncomputable def f3_r3_B (k : Nat) (g_r5 : f3_t_r5) (y3_0 : (List (Int × Int))) (y3_1 : (List (Int × (Int × Int)))) (y5_0 : Int) (y5_1 : Int) (y8_0 : Int) (y8_1 : Int) (x1 : (List Int)) (x38 : Bool) (x7 : Int) (x9 : Int) : Option (Bool × Unit) := (if x38 = true then some (false, ()) else (if x7 = 0 then ((f14 k (y5_0, y5_1)).bind fun r1 => (g_r5 y3_0 y3_1 y5_0 y5_1 y8_0 y8_1 x1 (decide (¬ (r1.1 = true))) x7 x9)) else (g_r5 y3_0 y3_1 y5_0 y5_1 y8_0 y8_1 x1 false x7 x9)))
noncomputable def f3_r5_B (k : Nat) (g_c6 : f3_t_c6) (y3_0 : (List (Int × Int))) (y3_1 : (List (Int × (Int × Int)))) (y5_0 : Int) (y5_1 : Int) (y8_0 : Int) (y8_1 : Int) (x1 : (List Int)) (x45 : Bool) (x7 : Int) (x9 : Int) : Option (Bool × Unit) := (if x45 = true then (g_c6 y3_0 y3_1 y5_0 y5_1 y8_0 y8_1 x1 1 x9) else (g_c6 y3_0 y3_1 y5_0 y5_1 y8_0 y8_1 x1 x7 x9))
noncomputable def f3_c6_B (k : Nat) (g_r10 : f3_t_r10) (g_c9 : f3_t_c9) (y3_0 : (List (Int × Int))) (y3_1 : (List (Int × (Int × Int)))) (y5_0 : Int) (y5_1 : Int) (y8_0 : Int) (y8_1 : Int) (x1 : (List Int)) (x7 : Int) (x9 : Int) : Option (Bool × Unit) := (if x7 = 0 then ((f15 k (y3_0, y3_1) (y5_0, y5_1)).bind fun r1 => (if r1.1 < 0 then (g_r10 y3_0 y3_1 y5_0 y5_1 y8_0 y8_1 x1 r1.1 true x7 x9) else (g_r10 y3_0 y3_1 y5_0 y5_1 y8_0 y8_1 x1 r1.1 (decide ((y3_1.length : Int) ≤ r1.1)) x7 x9))) else (g_c9 y3_0 y3_1 y5_0 y5_1 y8_0 y8_1 x1 (-1) x7 x9))
noncomputable def f3_r10_B (k : Nat) (g_c9 : f3_t_c9) (y3_0 : (List (Int × Int))) (y3_1 : (List (Int × (Int × Int)))) (y5_0 : Int) (y5_1 : Int) (y8_0 : Int) (y8_1 : Int) (x1 : (List Int)) (x10 : Int) (x59 : Bool) (x7 : Int) (x9 : Int) : Option (Bool × Unit) := (if x59 = true then (g_c9 y3_0 y3_1 y5_0 y5_1 y8_0 y8_1 x1 x10 4 x9) else (g_c9 y3_0 y3_1 y5_0 y5_1 y8_0 y8_1 x1 x10 x7 x9))
noncomputable def f3_c9_B (k : Nat) (g_r13 : f3_t_r13) (g_c13 : f3_t_c13) (y3_0 : (List (Int × Int))) (y3_1 : (List (Int × (Int × Int)))) (y5_0 : Int) (y5_1 : Int) (y8_0 : Int) (y8_1 : Int) (x1 : (List Int)) (x10 : Int) (x7 : Int) (x9 : Int) : Option (Bool × Unit) := (if ¬ (x7 = 0) then (if x9 = x7 then (g_r13 (decide ((y8_0 = 0) ∧ (y8_1 = 0)))) else (g_r13 false)) else (g_c13 y3_0 y3_1 y5_0 y5_1 y8_0 y8_1 x1 x10 x9))
noncomputable def f3_r13_B (k : Nat) (x6 : Bool) : Option (Bool × Unit) := some (decide (x6 = true), ())
noncomputable def f3_c13_B (k : Nat) (g_r20 : f3_t_r20) (y3_0 : (List (Int × Int))) (y3_1 : (List (Int × (Int × Int)))) (y5_0 : Int) (y5_1 : Int) (y8_0 : Int) (y8_1 : Int) (x1 : (List Int)) (x10 : Int) (x9 : Int) : Option (Bool × Unit) := (if 0 ≤ x10 then (if x10 < (y3_1.length : Int) then (if 0 ≤ ((y3_1.getD (x10).toNat (0, (0, 0))).1) then (if ((y3_1.getD (x10).toNat (0, (0, 0))).1) < (y3_0.length : Int) then (if 0 ≤ (((y3_1.getD (x10).toNat (0, (0, 0))).2).1) then (if (((y3_1.getD (x10).toNat (0, (0, 0))).2).1) < (y3_0.length : Int) then (if 0 ≤ (((y3_1.getD (x10).toNat (0, (0, 0))).2).2) then (if (((y3_1.getD (x10).toNat (0, (0, 0))).2).2) < (y3_0.length : Int) then (if 0 ≤ ((y3_1.getD (x10).toNat (0, (0, 0))).1) then (if ((y3_1.getD (x10).toNat (0, (0, 0))).1) < (x1.length : Int) then (if 0 ≤ (((y3_1.getD (x10).toNat (0, (0, 0))).2).1) then (if (((y3_1.getD (x10).toNat (0, (0, 0))).2).1) < (x1.length : Int) then (if 0 ≤ ((y3_1.getD (x10).toNat (0, (0, 0))).1) then (if ((y3_1.getD (x10).toNat (0, (0, 0))).1) < (x1.length : Int) then (if 0 ≤ (((y3_1.getD (x10).toNat (0, (0, 0))).2).2) then (if (((y3_1.getD (x10).toNat (0, (0, 0))).2).2) < (x1.length : Int) then (if 0 ≤ ((y3_1.getD (x10).toNat (0, (0, 0))).1) then (if ((y3_1.getD (x10).toNat (0, (0, 0))).1) < (x1.length : Int) then ((f16 k (w64 ((w64 ((w64 ((x1.getD ((y3_1.getD (x10).toNat (0, (0, 0))).1).toNat 0) * (w64 ((w64 ((w64 (((y3_0.getD (((y3_1.getD (x10).toNat (0, (0, 0))).2).1).toNat (0, 0)).1) - ((y3_0.getD ((y3_1.getD (x10).toNat (0, (0, 0))).1).toNat (0, 0)).1))) * (w64 (((y3_0.getD (((y3_1.getD (x10).toNat (0, (0, 0))).2).2).toNat (0, 0)).2) - ((y3_0.getD ((y3_1.getD (x10).toNat (0, (0, 0))).1).toNat (0, 0)).2))))) - (w64 ((w64 (((y3_0.getD (((y3_1.getD (x10).toNat (0, (0, 0))).2).2).toNat (0, 0)).1) - ((y3_0.getD ((y3_1.getD (x10).toNat (0, (0, 0))).1).toNat (0, 0)).1))) * (w64 (((y3_0.getD (((y3_1.getD (x10).toNat (0, (0, 0))).2).1).toNat (0, 0)).2) - ((y3_0.getD ((y3_1.getD (x10).toNat (0, (0, 0))).1).toNat (0, 0)).2))))))))) + (w64 ((w64 ((x1.getD (((y3_1.getD (x10).toNat (0, (0, 0))).2).1).toNat 0) - (x1.getD ((y3_1.getD (x10).toNat (0, (0, 0))).1).toNat 0))) * (w64 ((w64 ((w64 (y5_0 - ((y3_0.getD ((y3_1.getD (x10).toNat (0, (0, 0))).1).toNat (0, 0)).1))) * (w64 (((y3_0.getD (((y3_1.getD (x10).toNat (0, (0, 0))).2).2).toNat (0, 0)).2) - ((y3_0.getD ((y3_1.getD (x10).toNat (0, (0, 0))).1).toNat (0, 0)).2))))) - (w64 ((w64 (((y3_0.getD (((y3_1.getD (x10).toNat (0, (0, 0))).2).2).toNat (0, 0)).1) - ((y3_0.getD ((y3_1.getD (x10).toNat (0, (0, 0))).1).toNat (0, 0)).1))) * (w64 (y5_1 - ((y3_0.getD ((y3_1.getD (x10).toNat (0, (0, 0))).1).toNat (0, 0)).2))))))))))) + (w64 ((w64 ((x1.getD (((y3_1.getD (x10).toNat (0, (0, 0))).2).2).toNat 0) - (x1.getD ((y3_1.getD (x10).toNat (0, (0, 0))).1).toNat 0))) * (w64 ((w64 ((w64 (((y3_0.getD (((y3_1.getD (x10).toNat (0, (0, 0))).2).1).toNat (0, 0)).1) - ((y3_0.getD ((y3_1.getD (x10).toNat (0, (0, 0))).1).toNat (0, 0)).1))) * (w64 (y5_1 - ((y3_0.getD ((y3_1.getD (x10).toNat (0, (0, 0))).1).toNat (0, 0)).2))))) - (w64 ((w64 (y5_0 - ((y3_0.getD ((y3_1.getD (x10).toNat (0, (0, 0))).1).toNat (0, 0)).1))) * (w64 (((y3_0.getD (((y3_1.getD (x10).toNat (0, (0, 0))).2).1).toNat (0, 0)).2) - ((y3_0.getD ((y3_1.getD (x10).toNat (0, (0, 0))).1).toNat (0, 0)).2))))))))))) (w64 ((w64 ((w64 (((y3_0.getD (((y3_1.getD (x10).toNat (0, (0, 0))).2).1).toNat (0, 0)).1) - ((y3_0.getD ((y3_1.getD (x10).toNat (0, (0, 0))).1).toNat (0, 0)).1))) * (w64 (((y3_0.getD (((y3_1.getD (x10).toNat (0, (0, 0))).2).2).toNat (0, 0)).2) - ((y3_0.getD ((y3_1.getD (x10).toNat (0, (0, 0))).1).toNat (0, 0)).2))))) - (w64 ((w64 (((y3_0.getD (((y3_1.getD (x10).toNat (0, (0, 0))).2).2).toNat (0, 0)).1) - ((y3_0.getD ((y3_1.getD (x10).toNat (0, (0, 0))).1).toNat (0, 0)).1))) * (w64 (((y3_0.getD (((y3_1.getD (x10).toNat (0, (0, 0))).2).1).toNat (0, 0)).2) - ((y3_0.getD ((y3_1.getD (x10).toNat (0, (0, 0))).1).toNat (0, 0)).2)))))))).bind fun r1 => (if x9 = r1.2.1 then (g_r20 (decide ((y8_0 = r1.1.1) ∧ (y8_1 = r1.1.2)))) else (g_r20 false))) else none) else none) else none) else none) else none) else none) else none) else none) else none) else none) else none) else none) else none) else none) else none) else none) else none) else none)
noncomputable def f3_r20_B (k : Nat) (x6 : Bool) : Option (Bool × Unit) := some (decide (x6 = true), ())
theorem f3_r13_P (k : Nat) (G_c13 G_r20 : f3_S) : f3_o_r13 (fun σ => f3_a k (f3_F_r13 k G_c13 G_r20) .nx σ) = f3_r13_B k := by kernel_rfl
noncomputable def f3_r13 (k : Nat) : f3_t_r13 := f3_r13_B k
theorem f3_r13_E (k : Nat) : f3_o_r13 (f3_C_r13 k) = f3_r13 k :=
  Eq.trans (congrArg f3_o_r13 (ap_fn (f3_f_r13 k))) ((f3_r13_P k (f3_C_c13 k) (f3_C_r20 k)).trans (by rfl))
theorem f3_r20_P (k : Nat) : f3_o_r20 (fun σ => f3_a k (f3_F_r20 k) .nx σ) = f3_r20_B k := by kernel_rfl
noncomputable def f3_r20 (k : Nat) : f3_t_r20 := f3_r20_B k
theorem f3_r20_E (k : Nat) : f3_o_r20 (f3_C_r20 k) = f3_r20 k :=
  Eq.trans (congrArg f3_o_r20 (ap_fn (f3_f_r20 k))) ((f3_r20_P k).trans (by rfl))
theorem f3_c13_P (k : Nat) (G_r20 : f3_S) : f3_o_c13 (fun σ => f3_a k (f3_F_c13 k G_r20) .nx σ) = f3_c13_B k (f3_o_r20 G_r20) := by kernel_rfl
noncomputable def f3_c13 (k : Nat) : f3_t_c13 := f3_c13_B k (f3_r20 k)
theorem f3_c13_E (k : Nat) : f3_o_c13 (f3_C_c13 k) = f3_c13 k :=
  Eq.trans (congrArg f3_o_c13 (ap_fn (f3_f_c13 k))) ((f3_c13_P k (f3_C_r20 k)).trans (by rw [f3_r20_E k] <;> rfl))
theorem f3_c9_P (k : Nat) (G_r13 G_c13 G_r20 : f3_S) : f3_o_c9 (fun σ => f3_a k (f3_F_c9 k G_r13 G_c13 G_r20) .nx σ) = f3_c9_B k (f3_o_r13 G_r13) (f3_o_c13 G_c13) := by kernel_rfl
noncomputable def f3_c9 (k : Nat) : f3_t_c9 := f3_c9_B k (f3_r13 k) (f3_c13 k)
theorem f3_c9_E (k : Nat) : f3_o_c9 (f3_C_c9 k) = f3_c9 k :=
  Eq.trans (congrArg f3_o_c9 (ap_fn (f3_f_c9 k))) ((f3_c9_P k (f3_C_r13 k) (f3_C_c13 k) (f3_C_r20 k)).trans (by rw [f3_r13_E k, f3_c13_E k] <;> rfl))
theorem f3_r10_P (k : Nat) (G_c9 G_r13 G_c13 G_r20 : f3_S) : f3_o_r10 (fun σ => f3_a k (f3_F_r10 k G_c9 G_r13 G_c13 G_r20) .nx σ) = f3_r10_B k (f3_o_c9 G_c9) := by kernel_rfl
noncomputable def f3_r10 (k : Nat) : f3_t_r10 := f3_r10_B k (f3_c9 k)
theorem f3_r10_E (k : Nat) : f3_o_r10 (f3_C_r10 k) = f3_r10 k :=
  Eq.trans (congrArg f3_o_r10 (ap_fn (f3_f_r10 k))) ((f3_r10_P k (f3_C_c9 k) (f3_C_r13 k) (f3_C_c13 k) (f3_C_r20 k)).trans (by rw [f3_c9_E k] <;> rfl))
theorem f3_c6_P (k : Nat) (G_r10 G_c9 G_r13 G_c13 G_r20 : f3_S) : f3_o_c6 (fun σ => f3_a k (f3_F_c6 k G_r10 G_c9 G_r13 G_c13 G_r20) .nx σ) = f3_c6_B k (f3_o_r10 G_r10) (f3_o_c9 G_c9) := by kernel_rfl
noncomputable def f3_c6 (k : Nat) : f3_t_c6 := f3_c6_B k (f3_r10 k) (f3_c9 k)
theorem f3_c6_E (k : Nat) : f3_o_c6 (f3_C_c6 k) = f3_c6 k :=
  Eq.trans (congrArg f3_o_c6 (ap_fn (f3_f_c6 k))) ((f3_c6_P k (f3_C_r10 k) (f3_C_c9 k) (f3_C_r13 k) (f3_C_c13 k) (f3_C_r20 k)).trans (by rw [f3_r10_E k, f3_c9_E k] <;> rfl))
theorem f3_r5_P (k : Nat) (G_c6 G_r10 G_c9 G_r13 G_c13 G_r20 : f3_S) : f3_o_r5 (fun σ => f3_a k (f3_F_r5 k G_c6 G_r10 G_c9 G_r13 G_c13 G_r20) .nx σ) = f3_r5_B k (f3_o_c6 G_c6) := by kernel_rfl
noncomputable def f3_r5 (k : Nat) : f3_t_r5 := f3_r5_B k (f3_c6 k)
theorem f3_r5_E (k : Nat) : f3_o_r5 (f3_C_r5 k) = f3_r5 k :=
  Eq.trans (congrArg f3_o_r5 (ap_fn (f3_f_r5 k))) ((f3_r5_P k (f3_C_c6 k) (f3_C_r10 k) (f3_C_c9 k) (f3_C_r13 k) (f3_C_c13 k) (f3_C_r20 k)).trans (by rw [f3_c6_E k] <;> rfl))
theorem f3_r3_P (k : Nat) (G_r5 G_c6 G_r10 G_c9 G_r13 G_c13 G_r20 : f3_S) : f3_o_r3 (fun σ => f3_a k (f3_F_r3 k G_r5 G_c6 G_r10 G_c9 G_r13 G_c13 G_r20) .nx σ) = f3_r3_B k (f3_o_r5 G_r5) := by kernel_rfl
noncomputable def f3_r3 (k : Nat) : f3_t_r3 := f3_r3_B k (f3_r5 k)
theorem f3_r3_E (k : Nat) : f3_o_r3 (f3_C_r3 k) = f3_r3 k :=
  Eq.trans (congrArg f3_o_r3 (ap_fn (f3_f_r3 k))) ((f3_r3_P k (f3_C_r5 k) (f3_C_c6 k) (f3_C_r10 k) (f3_C_c9 k) (f3_C_r13 k) (f3_C_c13 k) (f3_C_r20 k)).trans (by rw [f3_r5_E k] <;> rfl))
theorem f3_entry_P (k : Nat) (G_r3 G_r5 G_c6 G_r10 G_c9 G_r13 G_c13 G_r20 : f3_S) (xs : DL f3_sig) : f3_a k (.c (f3_p 2) 0 :: .c (f3_p 6) 0 :: .c (f3_p 14) 0 :: .c (f3_p 60) 0 :: .j G_r3 :: f3_F_r3 k G_r5 G_c6 G_r10 G_c9 G_r13 G_c13 G_r20) .nx (σ0 210 640 f3_sig xs) = f3_entry_B k (f3_o_r3 G_r3) xs.1 xs.2.1 xs.2.2.1 := by kernel_rfl
noncomputable def f3 (k : Nat) (a0 : Td9) (a1 : (List Int)) (a2 : (Int × Int)) : Option (Bool × Unit) := f3_entry_B k (f3_r3 k) a0 a1 a2
theorem f3_fe (k : Nat) : f3_a k [.c (f3_p 1) 0] = f3_a k (.c (f3_p 2) 0 :: .c (f3_p 6) 0 :: .c (f3_p 14) 0 :: .c (f3_p 60) 0 :: .j (f3_C_r3 k) :: f3_F_r3 k (f3_C_r5 k) (f3_C_c6 k) (f3_C_r10 k) (f3_C_c9 k) (f3_C_r13 k) (f3_C_c13 k) (f3_C_r20 k)) := (Eq.trans ap_sq (ap_cons _ (Eq.trans ap_sq (ap_cons _ (Eq.trans ap_sq (ap_cons _ (Eq.trans ap_sq (Eq.trans ap_sq (ap_cons _ (Eq.trans (ap_pass (C := (f3_C_r3 k)) (fun _ => rfl)) (ap_cons _ (f3_f_r3 k))))))))))))
theorem f3_eq (k : Nat) (xs : DL f3_sig) : den T f3_Y (f3_E k) f3_A k f3_c 0 (σ0 210 640 f3_sig xs) (Kfin T f3_rs f3_ts) = f3 k xs.1 xs.2.1 xs.2.2.1 :=
  Eq.trans (Eq.trans den_sb (ap_at (f3_fe k) _)) ((f3_entry_P k (f3_C_r3 k) (f3_C_r5 k) (f3_C_c6 k) (f3_C_r10 k) (f3_C_c9 k) (f3_C_r13 k) (f3_C_c13 k) (f3_C_r20 k) xs).trans (by rw [f3_r3_E k] <;> rfl))
noncomputable def f3_con (k : Nat) : Con := ⟨f3_sig, f3_rs, fun xs => f3 k xs.1 xs.2.1 xs.2.2.1⟩
theorem f3_ok (k : Nat) : PureOK Try.prog 3 f3_sig f3_rs (fun xs => f3 k xs.1 xs.2.1 xs.2.2.1) :=
  (pure_of_den (k := k) (A := f3_A) (T := T) (Y := f3_Y) (E := f3_E k) (M := 640) (ts := f3_ts) T_ok ⟨f10_ok k, f11_ok k, f12_ok k, f13_ok k, f14_ok k, f15_ok k, f16_ok k, trivial⟩ ⟨f10_ent, f11_ent, f12_ent, f13_ent, f14_ent, f15_ent, f16_ent, trivial⟩ mixed (f := 3) (fn := Try.f3) (c := f3_c) (by kernel_rfl) (by kernel_rfl) (by kernel_rfl) (by decide) (by kernel_rfl)).congr fun xs => (f3_eq k xs).symm
theorem f3_ent : Ent Try.prog 3 := fun args w => by kernel_rfl
noncomputable def Pure_ReliefHeights : Prop := ∀ xs : DL f3_sig, wfs f3_sig xs → ∃ k, f3 k xs.1 xs.2.1 xs.2.2.1 = some (true, ())
end Go.Proofs.Ytollcjadobpfdaa.Rw
