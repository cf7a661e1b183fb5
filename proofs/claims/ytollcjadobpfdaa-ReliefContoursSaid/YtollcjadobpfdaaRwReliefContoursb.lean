/- What the functions that the law ReliefContours reaches come to, part 2. No condition. -/
import Derived.Test.YtollcjadobpfdaaRwReliefContoursa
namespace Go.Proofs.Ytollcjadobpfdaa.Rw
open Go.Rx Go.Proofs
set_option linter.unusedVariables false
set_option maxRecDepth 100000
noncomputable section
def f46_c : Code := Try.f46.body.getD .skip
abbrev f46_p (n : Nat) : Code := sb f46_c n
abbrev f46_sig : List PT := [(true, Tq5)]
abbrev f46_rs : List RT := [.d false (.int .i64)]
abbrev f46_ts : List RV := [.tmp 2]
abbrev f46_S := St → Option (RDL f46_rs)
abbrev f46_L := List (Fr (RDL f46_rs))
def f46_Y : Tys := [(38, Tq3)]
def f46_E (k : Nat) : Env := [(14, .c (f14_con k)), (41, .c (f41_con k)), (64, .c (f64_con k)), (81, .c (f81_con k)), (82, .c (f82_con k))]
def f46_A : Ann := { regs := [(2, { slots := [(1, .id), (3, .val false Tq1), (21, .bool)], keys := [(1, [.val false Tq1, .val false Tq3])] }), (21, { slots := [(1, .id), (3, .val false Tq1), (7, .id), (8, .id), (50, .val false Tq3), (51, .id), (52, .id), (57, .id), (58, .id), (68, .bool)], keys := [(1, [.val false Tq1, .val false Tq3]), (8, [])] }), (24, { fbs := [(8, Tq3)], slots := [(1, .id), (3, .val false Tq1), (8, .id), (50, .val false Tq3), (51, .id), (52, .id), (92, .bool)], keys := [(1, [.val false Tq1, .val false Tq3]), (8, [])] })], loops := [(0, { slots := [(1, .id), (3, .val false Tq1), (22, .val false Tq1), (23, .id), (24, .id)], keys := [(1, [.val false Tq1, .val false Tq3])] }), (2, { slots := [(1, .id), (3, .val false Tq1), (6, .id)], keys := [(1, [.val false Tq1, .val false Tq3])] }), (4, { slots := [(1, .id), (3, .val false Tq1), (50, .val false Tq3), (51, .id), (52, .id)], keys := [(1, [.val false Tq1, .val false Tq3])] }), (6, { slots := [(1, .id), (3, .val false Tq1), (7, .id), (8, .id), (50, .val false Tq3), (51, .id), (52, .id), (57, .id), (58, .id)], keys := [(1, [.val false Tq1, .val false Tq3]), (8, [])] })] }
abbrev f46_a (k : Nat) (F : f46_L) : Kont (RDL f46_rs) := ap T f46_Y (f46_E k) f46_A k (Kfin T f46_rs f46_ts) F
def f46_s_r2 (y1_0 : (List (Int × Int))) (y1_1 : (List (Int × (Int × Int)))) (x21 : Bool) : St := mkS 117 352 [(1, aP 1), (3, aV Tq1 y1_0), (21, aB x21)] [(1, .box [cV Tq1 y1_0, cV Tq3 y1_1])]
abbrev f46_t_r2 := (List (Int × Int)) → (List (Int × (Int × Int))) → Bool → Option (Int × Unit)
abbrev f46_o_r2 (R : f46_S) : f46_t_r2 := (fun y1_0 y1_1 x21 => R (f46_s_r2 y1_0 y1_1 x21))
def f46_Q_r2 (k : Nat) : f46_L := [.c (f46_p 29) 0, .c (f46_p 15) 0]
def f46_C_r2 (k : Nat) : f46_S := fun σ => f46_a k (f46_Q_r2 k) .nx σ
def f46_s_l0 (y1_0 : (List (Int × Int))) (y1_1 : (List (Int × (Int × Int)))) (x23 x24 : Int) : St := mkS 117 352 [(1, aP 1), (3, aV Tq1 y1_0), (22, aV Tq1 y1_0), (23, aI x23), (24, aI x24)] [(1, .box [cV Tq1 y1_0, cV Tq3 y1_1])]
abbrev f46_t_l0 := (List (Int × Int)) → (List (Int × (Int × Int))) → Int → Int → Option (Int × Unit)
abbrev f46_o_l0 (R : f46_S) : f46_t_l0 := (fun y1_0 y1_1 x23 x24 => R (f46_s_l0 y1_0 y1_1 x23 x24))
def f46_Q_l0 (k : Nat) (R_l0 : f46_S) : f46_L := [.c (f46_p 244) 0, .j (fun σ => R_l0 (cut f46_A.loops 0 σ)), .blk 0, .c (f46_p 31) 0]
def f46_C_l0 (k n : Nat) (σ : St) : Option (RDL f46_rs) := loopK (fun σ K => den T f46_Y (f46_E k) f46_A k (f46_p 244) 0 σ K) (cut f46_A.loops 0) (f46_a k [.blk 0, .c (f46_p 31) 0]) n σ
def f46_s_l2 (y1_0 : (List (Int × Int))) (y1_1 : (List (Int × (Int × Int)))) (x6 : Int) : St := mkS 117 352 [(1, aP 1), (3, aV Tq1 y1_0), (6, aI x6)] [(1, .box [cV Tq1 y1_0, cV Tq3 y1_1])]
abbrev f46_t_l2 := (List (Int × Int)) → (List (Int × (Int × Int))) → Int → Option (Int × Unit)
abbrev f46_o_l2 (R : f46_S) : f46_t_l2 := (fun y1_0 y1_1 x6 => R (f46_s_l2 y1_0 y1_1 x6))
def f46_Q_l2 (k : Nat) (R_l2 : f46_S) : f46_L := [.c (f46_p 500) 2, .j (fun σ => R_l2 (cut f46_A.loops 2 σ)), .blk 2, .c (f46_p 63) 0]
def f46_C_l2 (k n : Nat) (σ : St) : Option (RDL f46_rs) := loopK (fun σ K => den T f46_Y (f46_E k) f46_A k (f46_p 500) 2 σ K) (cut f46_A.loops 2) (f46_a k [.blk 2, .c (f46_p 63) 0]) n σ
def f46_s_l4 (y1_0 : (List (Int × Int))) (y1_1 : (List (Int × (Int × Int)))) (x51 x52 : Int) : St := mkS 117 352 [(1, aP 1), (3, aV Tq1 y1_0), (50, aV Tq3 y1_1), (51, aI x51), (52, aI x52)] [(1, .box [cV Tq1 y1_0, cV Tq3 y1_1])]
abbrev f46_t_l4 := (List (Int × Int)) → (List (Int × (Int × Int))) → Int → Int → Option (Int × Unit)
abbrev f46_o_l4 (R : f46_S) : f46_t_l4 := (fun y1_0 y1_1 x51 x52 => R (f46_s_l4 y1_0 y1_1 x51 x52))
def f46_Q_l4 (k : Nat) (R_l4 : f46_S) : f46_L := [.c (f46_p 1012) 4, .j (fun σ => R_l4 (cut f46_A.loops 4 σ)), .blk 4, .c (f46_p 127) 0]
def f46_C_l4 (k n : Nat) (σ : St) : Option (RDL f46_rs) := loopK (fun σ K => den T f46_Y (f46_E k) f46_A k (f46_p 1012) 4 σ K) (cut f46_A.loops 4) (f46_a k [.blk 4, .c (f46_p 127) 0]) n σ
def f46_s_l6 (y1_0 : (List (Int × Int))) (y1_1 : (List (Int × (Int × Int)))) (y8_0 y8_1 y8_2 x51 x52 x58 : Int) : St := mkS 117 352 [(1, aP 1), (3, aV Tq1 y1_0), (7, aI x52), (8, aP 8), (50, aV Tq3 y1_1), (51, aI x51), (52, aI x52), (57, .cp (.agg [cI y8_0, cI y8_1, cI y8_2])), (58, aI x58)] [(1, .box [cV Tq1 y1_0, cV Tq3 y1_1]), (8, .box [cI y8_0, cI y8_1, cI y8_2])]
abbrev f46_t_l6 := (List (Int × Int)) → (List (Int × (Int × Int))) → Int → Int → Int → Int → Int → Int → Option (Int × Unit)
abbrev f46_o_l6 (R : f46_S) : f46_t_l6 := (fun y1_0 y1_1 y8_0 y8_1 y8_2 x51 x52 x58 => R (f46_s_l6 y1_0 y1_1 y8_0 y8_1 y8_2 x51 x52 x58))
def f46_Q_l6 (k : Nat) (R_l4 R_l6 : f46_S) : f46_L := [.c (f46_p 518548) 6, .j (fun σ => R_l6 (cut f46_A.loops 6 σ)), .blk 6, .c (f46_p 64819) 5, .blk 5, .c (f46_p 8103) 4, .j (fun σ => R_l4 (cut f46_A.loops 4 σ)), .blk 4, .c (f46_p 127) 0]
def f46_C_l6 (k : Nat) (R_l4 : f46_S) (n : Nat) (σ : St) : Option (RDL f46_rs) := loopK (fun σ K => den T f46_Y (f46_E k) f46_A k (f46_p 518548) 6 σ K) (cut f46_A.loops 6) (f46_a k [.blk 6, .c (f46_p 64819) 5, .blk 5, .c (f46_p 8103) 4, .j (fun σ => R_l4 (cut f46_A.loops 4 σ)), .blk 4, .c (f46_p 127) 0]) n σ
def f46_s_r21 (y1_0 : (List (Int × Int))) (y1_1 : (List (Int × (Int × Int)))) (y8_0 y8_1 y8_2 x51 x52 x58 : Int) (x68 : Bool) : St := mkS 117 352 [(1, aP 1), (3, aV Tq1 y1_0), (7, aI x52), (8, aP 8), (50, aV Tq3 y1_1), (51, aI x51), (52, aI x52), (57, .cp (.agg [cI y8_0, cI y8_1, cI y8_2])), (58, aI x58), (68, aB x68)] [(1, .box [cV Tq1 y1_0, cV Tq3 y1_1]), (8, .box [cI y8_0, cI y8_1, cI y8_2])]
abbrev f46_t_r21 := (List (Int × Int)) → (List (Int × (Int × Int))) → Int → Int → Int → Int → Int → Int → Bool → Option (Int × Unit)
abbrev f46_o_r21 (R : f46_S) : f46_t_r21 := (fun y1_0 y1_1 y8_0 y8_1 y8_2 x51 x52 x58 x68 => R (f46_s_r21 y1_0 y1_1 y8_0 y8_1 y8_2 x51 x52 x58 x68))
def f46_Q_r21 (k : Nat) (R_l6 R_l4 : f46_S) : f46_L := [.c (f46_p 33187123) 7, .blk 7, .c (f46_p 4148391) 6, .j (fun σ => R_l6 (cut f46_A.loops 6 σ)), .blk 6, .c (f46_p 64819) 5, .blk 5, .c (f46_p 8103) 4, .j (fun σ => R_l4 (cut f46_A.loops 4 σ)), .blk 4, .c (f46_p 127) 0]
def f46_C_r21 (k : Nat) (R_l6 R_l4 : f46_S) : f46_S := fun σ => f46_a k (f46_Q_r21 k R_l6 R_l4) .nx σ
def f46_s_r24 (y1_0 : (List (Int × Int))) (y1_1 : (List (Int × (Int × Int)))) (y8 : (Int × (Int × Int))) (x51 x52 : Int) (x92 : Bool) : St := mkS 117 352 [(1, aP 1), (3, aV Tq1 y1_0), (8, aP 8), (50, aV Tq3 y1_1), (51, aI x51), (52, aI x52), (92, aB x92)] [(1, .box [cV Tq1 y1_0, cV Tq3 y1_1]), (8, .fbox Tq3 y8)]
abbrev f46_t_r24 := (List (Int × Int)) → (List (Int × (Int × Int))) → (Int × (Int × Int)) → Int → Int → Bool → Option (Int × Unit)
abbrev f46_o_r24 (R : f46_S) : f46_t_r24 := (fun y1_0 y1_1 y8 x51 x52 x92 => R (f46_s_r24 y1_0 y1_1 y8 x51 x52 x92))
def f46_Q_r24 (k : Nat) (R_l4 : f46_S) : f46_L := [.c (f46_p 259277) 5, .c (f46_p 129639) 5, .blk 5, .c (f46_p 8103) 4, .j (fun σ => R_l4 (cut f46_A.loops 4 σ)), .blk 4, .c (f46_p 127) 0]
def f46_C_r24 (k : Nat) (R_l4 : f46_S) : f46_S := fun σ => f46_a k (f46_Q_r24 k R_l4) .nx σ
def f46_F_r2 (k : Nat) (G_l0 G_l2 G_l4 : f46_S) : f46_L := .c (f46_p 29) 0 :: .c (f46_p 60) 0 :: .j (fun σ => f46_a k (.j (fun σ => G_l0 (cut f46_A.loops 0 σ)) :: .blk 0 :: .c (f46_p 124) 0 :: .j (fun σ => f46_a k (.j (fun σ => G_l2 (cut f46_A.loops 2 σ)) :: .blk 2 :: .c (f46_p 252) 0 :: .j (fun σ => f46_a k (.j (fun σ => G_l4 (cut f46_A.loops 4 σ)) :: .blk 4 :: .c (f46_p 127) 0 :: []) .nx σ) :: .c (f46_p 127) 0 :: []) .nx σ) :: .c (f46_p 252) 0 :: .j (fun σ => f46_a k (.j (fun σ => G_l4 (cut f46_A.loops 4 σ)) :: .blk 4 :: .c (f46_p 127) 0 :: []) .nx σ) :: .c (f46_p 127) 0 :: []) .nx σ) :: .c (f46_p 124) 0 :: .j (fun σ => f46_a k (.j (fun σ => G_l2 (cut f46_A.loops 2 σ)) :: .blk 2 :: .c (f46_p 252) 0 :: .j (fun σ => f46_a k (.j (fun σ => G_l4 (cut f46_A.loops 4 σ)) :: .blk 4 :: .c (f46_p 127) 0 :: []) .nx σ) :: .c (f46_p 127) 0 :: []) .nx σ) :: .c (f46_p 252) 0 :: .j (fun σ => f46_a k (.j (fun σ => G_l4 (cut f46_A.loops 4 σ)) :: .blk 4 :: .c (f46_p 127) 0 :: []) .nx σ) :: .c (f46_p 127) 0 :: []
theorem f46_f_r2 (k : Nat) : f46_a k (f46_Q_r2 k) = f46_a k (f46_F_r2 k (f46_C_l0 k k) (f46_C_l2 k k) (f46_C_l4 k k)) := (ap_cons _ (Eq.trans ap_sq (Eq.trans ap_sq (ap_cons _ (Eq.trans (ap_bl 0) (Eq.trans (ap_j (Eq.trans (ap_lp (C := (f46_C_l0 k)) (fun _ _ => rfl)) (ap_cons _ (ap_cons _ (Eq.trans ap_sq (Eq.trans ap_sq (ap_cons _ (Eq.trans (ap_bl 2) (Eq.trans (ap_j (Eq.trans (ap_lp (C := (f46_C_l2 k)) (fun _ _ => rfl)) (ap_cons _ (ap_cons _ (Eq.trans ap_sq (Eq.trans ap_sq (ap_cons _ (Eq.trans (ap_bl 4) (Eq.trans (ap_j (Eq.trans (ap_lp (C := (f46_C_l4 k)) (fun _ _ => rfl)) (ap_cons _ (ap_cons _ (ap_cons _ rfl))))) (ap_cons _ (ap_cons _ rfl))))))))))) (ap_cons _ (Eq.trans ap_sq (Eq.trans ap_sq (ap_cons _ (Eq.trans (ap_bl 4) (Eq.trans (ap_j (Eq.trans (ap_lp (C := (f46_C_l4 k)) (fun _ _ => rfl)) (ap_cons _ (ap_cons _ (ap_cons _ rfl))))) (ap_cons _ (ap_cons _ rfl))))))))))))))))) (ap_cons _ (Eq.trans ap_sq (Eq.trans ap_sq (ap_cons _ (Eq.trans (ap_bl 2) (Eq.trans (ap_j (Eq.trans (ap_lp (C := (f46_C_l2 k)) (fun _ _ => rfl)) (ap_cons _ (ap_cons _ (Eq.trans ap_sq (Eq.trans ap_sq (ap_cons _ (Eq.trans (ap_bl 4) (Eq.trans (ap_j (Eq.trans (ap_lp (C := (f46_C_l4 k)) (fun _ _ => rfl)) (ap_cons _ (ap_cons _ (ap_cons _ rfl))))) (ap_cons _ (ap_cons _ rfl))))))))))) (ap_cons _ (Eq.trans ap_sq (Eq.trans ap_sq (ap_cons _ (Eq.trans (ap_bl 4) (Eq.trans (ap_j (Eq.trans (ap_lp (C := (f46_C_l4 k)) (fun _ _ => rfl)) (ap_cons _ (ap_cons _ (ap_cons _ rfl))))) (ap_cons _ (ap_cons _ rfl))))))))))))))))))))
def f46_F_l0 (k : Nat) (G_l0 G_l2 G_l4 : f46_S) : f46_L := .c (f46_p 244) 0 :: .j (fun σ => G_l0 (cut f46_A.loops 0 σ)) :: .blk 0 :: .c (f46_p 124) 0 :: .j (fun σ => f46_a k (.j (fun σ => G_l2 (cut f46_A.loops 2 σ)) :: .blk 2 :: .c (f46_p 252) 0 :: .j (fun σ => f46_a k (.j (fun σ => G_l4 (cut f46_A.loops 4 σ)) :: .blk 4 :: .c (f46_p 127) 0 :: []) .nx σ) :: .c (f46_p 127) 0 :: []) .nx σ) :: .c (f46_p 252) 0 :: .j (fun σ => f46_a k (.j (fun σ => G_l4 (cut f46_A.loops 4 σ)) :: .blk 4 :: .c (f46_p 127) 0 :: []) .nx σ) :: .c (f46_p 127) 0 :: []
theorem f46_f_l0 (k : Nat) (R_l0 : f46_S) : f46_a k (f46_Q_l0 k R_l0) = f46_a k (f46_F_l0 k R_l0 (f46_C_l2 k k) (f46_C_l4 k k)) := (ap_cons _ (ap_cons _ (ap_cons _ (Eq.trans ap_sq (Eq.trans ap_sq (ap_cons _ (Eq.trans (ap_bl 2) (Eq.trans (ap_j (Eq.trans (ap_lp (C := (f46_C_l2 k)) (fun _ _ => rfl)) (ap_cons _ (ap_cons _ (Eq.trans ap_sq (Eq.trans ap_sq (ap_cons _ (Eq.trans (ap_bl 4) (Eq.trans (ap_j (Eq.trans (ap_lp (C := (f46_C_l4 k)) (fun _ _ => rfl)) (ap_cons _ (ap_cons _ (ap_cons _ rfl))))) (ap_cons _ (ap_cons _ rfl))))))))))) (ap_cons _ (Eq.trans ap_sq (Eq.trans ap_sq (ap_cons _ (Eq.trans (ap_bl 4) (Eq.trans (ap_j (Eq.trans (ap_lp (C := (f46_C_l4 k)) (fun _ _ => rfl)) (ap_cons _ (ap_cons _ (ap_cons _ rfl))))) (ap_cons _ (ap_cons _ rfl))))))))))))))))
def f46_F_l2 (k : Nat) (G_l2 G_l4 : f46_S) : f46_L := .c (f46_p 500) 2 :: .j (fun σ => G_l2 (cut f46_A.loops 2 σ)) :: .blk 2 :: .c (f46_p 252) 0 :: .j (fun σ => f46_a k (.j (fun σ => G_l4 (cut f46_A.loops 4 σ)) :: .blk 4 :: .c (f46_p 127) 0 :: []) .nx σ) :: .c (f46_p 127) 0 :: []
theorem f46_f_l2 (k : Nat) (R_l2 : f46_S) : f46_a k (f46_Q_l2 k R_l2) = f46_a k (f46_F_l2 k R_l2 (f46_C_l4 k k)) := (ap_cons _ (ap_cons _ (ap_cons _ (Eq.trans ap_sq (Eq.trans ap_sq (ap_cons _ (Eq.trans (ap_bl 4) (Eq.trans (ap_j (Eq.trans (ap_lp (C := (f46_C_l4 k)) (fun _ _ => rfl)) (ap_cons _ (ap_cons _ (ap_cons _ rfl))))) (ap_cons _ (ap_cons _ rfl))))))))))
def f46_F_r24 (k : Nat) (G_l4 : f46_S) : f46_L := .c (f46_p 259277) 5 :: .c (f46_p 129639) 5 :: .blk 5 :: .c (f46_p 8103) 4 :: .j (fun σ => G_l4 (cut f46_A.loops 4 σ)) :: .blk 4 :: .c (f46_p 127) 0 :: []
theorem f46_f_r24 (k : Nat) (R_l4 : f46_S) : f46_a k (f46_Q_r24 k R_l4) = f46_a k (f46_F_r24 k R_l4) := (ap_cons _ (ap_cons _ (ap_cons _ (ap_cons _ (ap_cons _ (ap_cons _ (ap_cons _ rfl)))))))
def f46_F_l4 (k : Nat) (G_l4 G_l6 G_r24 : f46_S) : f46_L := .c (f46_p 2024) 4 :: .c (f46_p 4050) 4 :: .j (fun σ => f46_a k (.c (f46_p 32408) 5 :: .c (f46_p 129636) 5 :: .j (fun σ => f46_a k (.j (fun σ => G_l6 (cut f46_A.loops 6 σ)) :: .blk 6 :: .c (f46_p 259276) 5 :: .j G_r24 :: f46_F_r24 k G_l4) .nx σ) :: .c (f46_p 259276) 5 :: .j G_r24 :: f46_F_r24 k G_l4) .nx σ) :: .c (f46_p 8103) 4 :: .j (fun σ => G_l4 (cut f46_A.loops 4 σ)) :: .blk 4 :: .c (f46_p 127) 0 :: []
theorem f46_f_l4 (k : Nat) (R_l4 : f46_S) : f46_a k (f46_Q_l4 k R_l4) = f46_a k (f46_F_l4 k R_l4 (f46_C_l6 k R_l4 k) (f46_C_r24 k R_l4)) := (Eq.trans ap_sq (ap_cons _ (Eq.trans ap_sq (ap_cons _ (Eq.trans ap_sq (Eq.trans (ap_bl 5) (Eq.trans (ap_j (Eq.trans ap_sq (ap_cons _ (Eq.trans ap_sq (Eq.trans ap_sq (ap_cons _ (Eq.trans (ap_bl 6) (Eq.trans (ap_j (Eq.trans (ap_lp (C := (f46_C_l6 k R_l4)) (fun _ _ => rfl)) (ap_cons _ (ap_cons _ (Eq.trans ap_sq (Eq.trans ap_sq (ap_cons _ (Eq.trans (ap_pass (C := (f46_C_r24 k R_l4)) (fun _ => rfl)) (ap_cons _ (f46_f_r24 k R_l4)))))))))) (ap_cons _ (Eq.trans ap_sq (Eq.trans ap_sq (ap_cons _ (Eq.trans (ap_pass (C := (f46_C_r24 k R_l4)) (fun _ => rfl)) (ap_cons _ (f46_f_r24 k R_l4))))))))))))))) (ap_cons _ (ap_cons _ (ap_cons _ (ap_cons _ (ap_cons _ rfl))))))))))))
def f46_F_r21 (k : Nat) (G_l4 G_l6 G_r24 : f46_S) : f46_L := .c (f46_p 33187123) 7 :: .blk 7 :: .c (f46_p 4148391) 6 :: .j (fun σ => G_l6 (cut f46_A.loops 6 σ)) :: .blk 6 :: .c (f46_p 259276) 5 :: .j G_r24 :: f46_F_r24 k G_l4
theorem f46_f_r21 (k : Nat) (R_l6 R_l4 : f46_S) : f46_a k (f46_Q_r21 k R_l6 R_l4) = f46_a k (f46_F_r21 k R_l4 R_l6 (f46_C_r24 k R_l4)) := (ap_cons _ (ap_cons _ (ap_cons _ (ap_cons _ (ap_cons _ (Eq.trans ap_sq (Eq.trans ap_sq (ap_cons _ (Eq.trans (ap_pass (C := (f46_C_r24 k R_l4)) (fun _ => rfl)) (ap_cons _ (f46_f_r24 k R_l4)))))))))))
def f46_F_l6 (k : Nat) (G_l4 G_l6 G_r21 G_r24 : f46_S) : f46_L := .c (f46_p 1037096) 6 :: .c (f46_p 2074194) 6 :: .j (fun σ => f46_a k (.c (f46_p 16593560) 7 :: .c (f46_p 33187122) 7 :: .j G_r21 :: f46_F_r21 k G_l4 G_l6 G_r24) .nx σ) :: .c (f46_p 4148391) 6 :: .j (fun σ => G_l6 (cut f46_A.loops 6 σ)) :: .blk 6 :: .c (f46_p 259276) 5 :: .j G_r24 :: f46_F_r24 k G_l4
theorem f46_f_l6 (k : Nat) (R_l4 R_l6 : f46_S) : f46_a k (f46_Q_l6 k R_l4 R_l6) = f46_a k (f46_F_l6 k R_l4 R_l6 (f46_C_r21 k R_l6 R_l4) (f46_C_r24 k R_l4)) := (Eq.trans ap_sq (ap_cons _ (Eq.trans ap_sq (ap_cons _ (Eq.trans ap_sq (Eq.trans (ap_bl 7) (Eq.trans (ap_j (Eq.trans ap_sq (ap_cons _ (Eq.trans ap_sq (ap_cons _ (Eq.trans (ap_pass (C := (f46_C_r21 k R_l6 R_l4)) (fun _ => rfl)) (ap_cons _ (f46_f_r21 k R_l6 R_l4)))))))) (ap_cons _ (ap_cons _ (ap_cons _ (ap_cons _ (Eq.trans ap_sq (Eq.trans ap_sq (ap_cons _ (Eq.trans (ap_pass (C := (f46_C_r24 k R_l4)) (fun _ => rfl)) (ap_cons _ (f46_f_r24 k R_l4)))))))))))))))))
def f46_entry_B (k : Nat) (g_r2 : f46_t_r2) (a0 : Td8) : Option (Int × Unit) := (if 200 < (a0.1.length : Int) then (g_r2 a0.1 a0.2 true) else (g_r2 a0.1 a0.2 (decide (400 < (a0.2.length : Int)))))
def f46_r2_B (k : Nat) (g_l0 : f46_t_l0) (y1_0 : (List (Int × Int))) (y1_1 : (List (Int × (Int × Int)))) (x21 : Bool) : Option (Int × Unit) := (if x21 = true then some (2, ()) else (g_l0 y1_0 y1_1 (y1_0.length : Int) 0))
def f46_l0_B (k : Nat) (g_l0 : f46_t_l0) (g_l2 : f46_t_l2) (y1_0 : (List (Int × Int))) (y1_1 : (List (Int × (Int × Int)))) (x23 x24 : Int) : Option (Int × Unit) := (if x24 < x23 then (if 0 ≤ x24 then (if x24 < (y1_0.length : Int) then ((f14 k ((y1_0.getD (x24).toNat (0, 0)).1, (y1_0.getD (x24).toNat (0, 0)).2)).bind fun r1 => (if ¬ (r1.1 = true) then some (1, ()) else (g_l0 y1_0 y1_1 x23 (w64 (x24 + 1))))) else none) else none) else (g_l2 y1_0 y1_1 1))
def f46_l2_B (k : Nat) (g_l2 : f46_t_l2) (g_l4 : f46_t_l4) (y1_0 : (List (Int × Int))) (y1_1 : (List (Int × (Int × Int)))) (x6 : Int) : Option (Int × Unit) := (if x6 < (y1_0.length : Int) then (if 0 ≤ (w64 (x6 - 1)) then (if (w64 (x6 - 1)) < (y1_0.length : Int) then (if 0 ≤ x6 then (if x6 < (y1_0.length : Int) then ((f81 k ((y1_0.getD (w64 (x6 - 1)).toNat (0, 0)).1, (y1_0.getD (w64 (x6 - 1)).toNat (0, 0)).2) ((y1_0.getD (x6).toNat (0, 0)).1, (y1_0.getD (x6).toNat (0, 0)).2)).bind fun r1 => (if 0 ≤ r1.1 then some (9, ()) else (g_l2 y1_0 y1_1 (w64 (x6 + 1))))) else none) else none) else none) else none) else (g_l4 y1_0 y1_1 (y1_1.length : Int) 0))
def f46_l4_B (k : Nat) (g_l6 : f46_t_l6) (y1_0 : (List (Int × Int))) (y1_1 : (List (Int × (Int × Int)))) (x51 x52 : Int) : Option (Int × Unit) := (if x52 < x51 then (if 0 ≤ x52 then (if x52 < (y1_1.length : Int) then (g_l6 y1_0 y1_1 ((y1_1.getD (x52).toNat (0, (0, 0))).1) (((y1_1.getD (x52).toNat (0, (0, 0))).2).1) (((y1_1.getD (x52).toNat (0, (0, 0))).2).2) x51 x52 0) else none) else none) else (if (y1_1.length : Int) = 0 then some (14, ()) else ((f82 k (y1_0, y1_1)).bind fun r1 => some (r1.1, ()))))
def f46_l6_B (k : Nat) (g_r21 : f46_t_r21) (g_r24 : f46_t_r24) (y1_0 : (List (Int × Int))) (y1_1 : (List (Int × (Int × Int)))) (y8_0 y8_1 y8_2 x51 x52 x58 : Int) : Option (Int × Unit) := (if x58 < 3 then (if 0 ≤ x58 then (if x58 < (3 : Int) then (if (([y8_0, y8_1, y8_2] : List Int).getD ((x58).toNat) 0) < 0 then (g_r21 y1_0 y1_1 y8_0 y8_1 y8_2 x51 x52 x58 true) else (g_r21 y1_0 y1_1 y8_0 y8_1 y8_2 x51 x52 x58 (decide ((y1_0.length : Int) ≤ (([y8_0, y8_1, y8_2] : List Int).getD ((x58).toNat) 0))))) else none) else none) else (if (mx2 false y8_1 y8_2) < y8_0 then (g_r24 y1_0 y1_1 (y8_0, (y8_1, y8_2)) x51 x52 true) else (if 0 < x52 then (if 0 ≤ (w64 (x52 - 1)) then (if (w64 (x52 - 1)) < (y1_1.length : Int) then ((f41 k ([y8_0, y8_1, y8_2]) ([(y1_1.getD (w64 (x52 - 1)).toNat (0, (0, 0))).1, ((y1_1.getD (w64 (x52 - 1)).toNat (0, (0, 0))).2).1, ((y1_1.getD (w64 (x52 - 1)).toNat (0, (0, 0))).2).2])).bind fun r1 => (g_r24 y1_0 y1_1 (y8_0, (y8_1, y8_2)) x51 x52 (decide (r1.1 ≤ 0)))) else none) else none) else (g_r24 y1_0 y1_1 (y8_0, (y8_1, y8_2)) x51 x52 false))))
def f46_r21_B (k : Nat) (g_l6 : f46_t_l6) (y1_0 : (List (Int × Int))) (y1_1 : (List (Int × (Int × Int)))) (y8_0 y8_1 y8_2 x51 x52 x58 : Int) (x68 : Bool) : Option (Int × Unit) := (if x68 = true then some (1, ()) else (g_l6 y1_0 y1_1 y8_0 y8_1 y8_2 x51 x52 (w64 (x58 + 1))))
def f46_r24_B (k : Nat) (g_l4 : f46_t_l4) (y1_0 : (List (Int × Int))) (y1_1 : (List (Int × (Int × Int)))) (y8 : (Int × (Int × Int))) (x51 x52 : Int) (x92 : Bool) : Option (Int × Unit) := (if x92 = true then some (9, ()) else (if 0 ≤ y8.1 then (if y8.1 < (y1_0.length : Int) then (if 0 ≤ y8.2.1 then (if y8.2.1 < (y1_0.length : Int) then (if 0 ≤ y8.2.2 then (if y8.2.2 < (y1_0.length : Int) then ((f64 k ((y1_0.getD (y8.1).toNat (0, 0)).1, (y1_0.getD (y8.1).toNat (0, 0)).2) ((y1_0.getD (y8.2.1).toNat (0, 0)).1, (y1_0.getD (y8.2.1).toNat (0, 0)).2) ((y1_0.getD (y8.2.2).toNat (0, 0)).1, (y1_0.getD (y8.2.2).toNat (0, 0)).2)).bind fun r1 => (if ¬ (r1.1 = 1) then some (3, ()) else (g_l4 y1_0 y1_1 x51 (w64 (x52 + 1))))) else none) else none) else none) else none) else none) else none))
theorem f46_r21_P (k : Nat) (G_l4 G_l6 G_r24 : f46_S) : f46_o_r21 (fun σ => f46_a k (f46_F_r21 k G_l4 G_l6 G_r24) .nx σ) = f46_r21_B k (f46_o_l6 G_l6) := by kernel_rfl
def f46_r21 (k : Nat) (r_l6 : f46_t_l6) (r_l4 : f46_t_l4) : f46_t_r21 := f46_r21_B k r_l6
theorem f46_r21_E (k : Nat) (R_l6 R_l4 : f46_S) : f46_o_r21 (f46_C_r21 k R_l6 R_l4) = f46_r21 k (f46_o_l6 R_l6) (f46_o_l4 R_l4) :=
 Eq.trans (congrArg f46_o_r21 (ap_fn (f46_f_r21 k R_l6 R_l4))) ((f46_r21_P k R_l4 R_l6 (f46_C_r24 k R_l4)).trans (by rfl))
theorem f46_r24_P (k : Nat) (G_l4 : f46_S) : f46_o_r24 (fun σ => f46_a k (f46_F_r24 k G_l4) .nx σ) = f46_r24_B k (f46_o_l4 G_l4) := by kernel_rfl
def f46_r24 (k : Nat) (r_l4 : f46_t_l4) : f46_t_r24 := f46_r24_B k r_l4
theorem f46_r24_E (k : Nat) (R_l4 : f46_S) : f46_o_r24 (f46_C_r24 k R_l4) = f46_r24 k (f46_o_l4 R_l4) :=
 Eq.trans (congrArg f46_o_r24 (ap_fn (f46_f_r24 k R_l4))) ((f46_r24_P k R_l4).trans (by rfl))
theorem f46_l6_P (k : Nat) (G_l4 G_l6 G_r21 G_r24 : f46_S) : f46_o_l6 (fun σ => f46_a k (f46_F_l6 k G_l4 G_l6 G_r21 G_r24) .nx σ) = f46_l6_B k (f46_o_r21 G_r21) (f46_o_r24 G_r24) := by kernel_rfl
def f46_l6 (k : Nat) (r_l4 : f46_t_l4) : Nat → f46_t_l6
 | 0 => fun _ _ _ _ _ _ _ _ => none
 | n + 1 => f46_l6_B k (f46_r21 k (f46_l6 k r_l4 n) r_l4) (f46_r24 k r_l4)
theorem f46_l6_E (k : Nat) (R_l4 : f46_S) : ∀ n, f46_o_l6 (f46_C_l6 k R_l4 n) = f46_l6 k (f46_o_l4 R_l4) n
 | 0 => rfl
 | n + 1 =>
   Eq.trans (congrArg f46_o_l6 (Eq.trans (b := fun σ => f46_a k (f46_Q_l6 k R_l4 (f46_C_l6 k R_l4 n)) .nx σ) lp_step (ap_fn (f46_f_l6 k R_l4 (f46_C_l6 k R_l4 n))))) ((f46_l6_P k R_l4 (f46_C_l6 k R_l4 n) (f46_C_r21 k (f46_C_l6 k R_l4 n) R_l4) (f46_C_r24 k R_l4)).trans (by rw [f46_r21_E k (f46_C_l6 k R_l4 n) R_l4, f46_r24_E k R_l4, f46_l6_E k R_l4 n] <;> rfl))
theorem f46_l4_P (k : Nat) (G_l4 G_l6 G_r24 : f46_S) : f46_o_l4 (fun σ => f46_a k (f46_F_l4 k G_l4 G_l6 G_r24) .nx σ) = f46_l4_B k (f46_o_l6 G_l6) := by kernel_rfl
def f46_l4 (k : Nat) : Nat → f46_t_l4
 | 0 => fun _ _ _ _ => none
 | n + 1 => f46_l4_B k (f46_l6 k (f46_l4 k n) k)
theorem f46_l4_E (k : Nat) : ∀ n, f46_o_l4 (f46_C_l4 k n) = f46_l4 k n
 | 0 => rfl
 | n + 1 =>
   Eq.trans (congrArg f46_o_l4 (Eq.trans (b := fun σ => f46_a k (f46_Q_l4 k (f46_C_l4 k n)) .nx σ) lp_step (ap_fn (f46_f_l4 k (f46_C_l4 k n))))) ((f46_l4_P k (f46_C_l4 k n) (f46_C_l6 k (f46_C_l4 k n) k) (f46_C_r24 k (f46_C_l4 k n))).trans (by rw [f46_l6_E k (f46_C_l4 k n) k, f46_l4_E k n] <;> rfl))
theorem f46_l2_P (k : Nat) (G_l2 G_l4 : f46_S) : f46_o_l2 (fun σ => f46_a k (f46_F_l2 k G_l2 G_l4) .nx σ) = f46_l2_B k (f46_o_l2 G_l2) (f46_o_l4 G_l4) := by kernel_rfl
def f46_l2 (k : Nat) : Nat → f46_t_l2
 | 0 => fun _ _ _ => none
 | n + 1 => f46_l2_B k (f46_l2 k n) (f46_l4 k k)
theorem f46_l2_E (k : Nat) : ∀ n, f46_o_l2 (f46_C_l2 k n) = f46_l2 k n
 | 0 => rfl
 | n + 1 =>
   Eq.trans (congrArg f46_o_l2 (Eq.trans (b := fun σ => f46_a k (f46_Q_l2 k (f46_C_l2 k n)) .nx σ) lp_step (ap_fn (f46_f_l2 k (f46_C_l2 k n))))) ((f46_l2_P k (f46_C_l2 k n) (f46_C_l4 k k)).trans (by rw [f46_l4_E k k, f46_l2_E k n] <;> rfl))
theorem f46_l0_P (k : Nat) (G_l0 G_l2 G_l4 : f46_S) : f46_o_l0 (fun σ => f46_a k (f46_F_l0 k G_l0 G_l2 G_l4) .nx σ) = f46_l0_B k (f46_o_l0 G_l0) (f46_o_l2 G_l2) := by kernel_rfl
def f46_l0 (k : Nat) : Nat → f46_t_l0
 | 0 => fun _ _ _ _ => none
 | n + 1 => f46_l0_B k (f46_l0 k n) (f46_l2 k k)
theorem f46_l0_E (k : Nat) : ∀ n, f46_o_l0 (f46_C_l0 k n) = f46_l0 k n
 | 0 => rfl
 | n + 1 =>
   Eq.trans (congrArg f46_o_l0 (Eq.trans (b := fun σ => f46_a k (f46_Q_l0 k (f46_C_l0 k n)) .nx σ) lp_step (ap_fn (f46_f_l0 k (f46_C_l0 k n))))) ((f46_l0_P k (f46_C_l0 k n) (f46_C_l2 k k) (f46_C_l4 k k)).trans (by rw [f46_l2_E k k, f46_l0_E k n] <;> rfl))
theorem f46_r2_P (k : Nat) (G_l0 G_l2 G_l4 : f46_S) : f46_o_r2 (fun σ => f46_a k (f46_F_r2 k G_l0 G_l2 G_l4) .nx σ) = f46_r2_B k (f46_o_l0 G_l0) := by kernel_rfl
def f46_r2 (k : Nat) : f46_t_r2 := f46_r2_B k (f46_l0 k k)
theorem f46_r2_E (k : Nat) : f46_o_r2 (f46_C_r2 k) = f46_r2 k :=
 Eq.trans (congrArg f46_o_r2 (ap_fn (f46_f_r2 k))) ((f46_r2_P k (f46_C_l0 k k) (f46_C_l2 k k) (f46_C_l4 k k)).trans (by rw [f46_l0_E k k] <;> rfl))
theorem f46_entry_P (k : Nat) (G_r2 G_l0 G_l2 G_l4 : f46_S) (xs : DL f46_sig) : f46_a k (.c (f46_p 2) 0 :: .c (f46_p 6) 0 :: .c (f46_p 28) 0 :: .j G_r2 :: f46_F_r2 k G_l0 G_l2 G_l4) .nx (σ0 117 352 f46_sig xs) = f46_entry_B k (f46_o_r2 G_r2) xs.1 := by kernel_rfl
def f46 (k : Nat) (a0 : Td8) : Option (Int × Unit) := f46_entry_B k (f46_r2 k) a0
theorem f46_fe (k : Nat) : f46_a k [.c (f46_p 1) 0] = f46_a k (.c (f46_p 2) 0 :: .c (f46_p 6) 0 :: .c (f46_p 28) 0 :: .j (f46_C_r2 k) :: f46_F_r2 k (f46_C_l0 k k) (f46_C_l2 k k) (f46_C_l4 k k)) := (Eq.trans ap_sq (ap_cons _ (Eq.trans ap_sq (ap_cons _ (Eq.trans ap_sq (Eq.trans ap_sq (ap_cons _ (Eq.trans (ap_pass (C := (f46_C_r2 k)) (fun _ => rfl)) (ap_cons _ (f46_f_r2 k))))))))))
theorem f46_eq (k : Nat) (xs : DL f46_sig) : den T f46_Y (f46_E k) f46_A k f46_c 0 (σ0 117 352 f46_sig xs) (Kfin T f46_rs f46_ts) = f46 k xs.1 :=
 Eq.trans (Eq.trans den_sb (ap_at (f46_fe k) _)) ((f46_entry_P k (f46_C_r2 k) (f46_C_l0 k k) (f46_C_l2 k k) (f46_C_l4 k k) xs).trans (by rw [f46_r2_E k] <;> rfl))
def f46_con (k : Nat) : Con := ⟨f46_sig, f46_rs, fun xs => f46 k xs.1⟩
theorem f46_ok (k : Nat) : PureOK Try.prog 46 f46_sig f46_rs (fun xs => f46 k xs.1) :=
 (pure_of_den (k := k) (A := f46_A) (T := T) (Y := f46_Y) (E := f46_E k) (M := 352) (ts := f46_ts) T_ok ⟨f14_ok k, f41_ok k, f64_ok k, f81_ok k, f82_ok k, trivial⟩ ⟨f14_ent, f41_ent, f64_ent, f81_ent, f82_ent, trivial⟩ mixed (f := 46) (fn := Try.f46) (c := f46_c) (by kernel_rfl) (by kernel_rfl) (by kernel_rfl) (by decide) (by kernel_rfl)).congr fun xs => (f46_eq k xs).symm
theorem f46_ent : Ent Try.prog 46 := fun args w => by kernel_rfl
def f10_c : Code := Try.f10.body.getD .skip
abbrev f10_p (n : Nat) : Code := sb f10_c n
abbrev f10_sig : List PT := [(true, Tq5), (false, Tq0)]
abbrev f10_rs : List RT := [.d false (.int .i64)]
abbrev f10_ts : List RV := [.tmp 4]
abbrev f10_S := St → Option (RDL f10_rs)
abbrev f10_L := List (Fr (RDL f10_rs))
def f10_Y : Tys := []
def f10_E (k : Nat) : Env := [(46, .c (f46_con k))]
def f10_A : Ann := { regs := [(2, { slots := [(1, .val false (.int .i64)), (5, .id), (19, .bool)] }), (7, { slots := [(5, .id), (20, .val false (.int .i64)), (21, .id), (22, .id), (35, .bool)] })], conds := [(3, { slots := [(1, .val false (.int .i64)), (5, .id)] }), (8, { slots := [(5, .id), (20, .val false (.int .i64)), (21, .id), (22, .id)] })], loops := [(0, { slots := [(5, .id), (20, .val false (.int .i64)), (21, .id), (22, .id)] })] }
abbrev f10_a (k : Nat) (F : f10_L) : Kont (RDL f10_rs) := ap T f10_Y (f10_E k) f10_A k (Kfin T f10_rs f10_ts) F
def f10_s_r2 (x1 : (List Int)) (x19 : Bool) (x5 : Int) : St := mkS 38 128 [(1, aV (.int .i64) x1), (5, aI x5), (19, aB x19)] []
abbrev f10_t_r2 := (List Int) → Bool → Int → Option (Int × Unit)
abbrev f10_o_r2 (R : f10_S) : f10_t_r2 := (fun x1 x19 x5 => R (f10_s_r2 x1 x19 x5))
def f10_Q_r2 (k : Nat) : f10_L := [.c (f10_p 29) 0, .c (f10_p 15) 0]
def f10_C_r2 (k : Nat) : f10_S := fun σ => f10_a k (f10_Q_r2 k) .nx σ
def f10_s_c3 (x1 : (List Int)) (x5 : Int) : St := mkS 38 128 [(1, aV (.int .i64) x1), (5, aI x5)] []
abbrev f10_t_c3 := (List Int) → Int → Option (Int × Unit)
abbrev f10_o_c3 (R : f10_S) : f10_t_c3 := (fun x1 x5 => R (f10_s_c3 x1 x5))
def f10_Q_c3 (k : Nat) : f10_L := [.c (f10_p 15) 0]
def f10_C_c3 (k : Nat) : f10_S := fun σ => f10_a k (f10_Q_c3 k) .nx σ
def f10_s_l0 (x20 : (List Int)) (x21 x22 x5 : Int) : St := mkS 38 128 [(5, aI x5), (20, aV (.int .i64) x20), (21, aI x21), (22, aI x22)] []
abbrev f10_t_l0 := (List Int) → Int → Int → Int → Option (Int × Unit)
abbrev f10_o_l0 (R : f10_S) : f10_t_l0 := (fun x20 x21 x22 x5 => R (f10_s_l0 x20 x21 x22 x5))
def f10_Q_l0 (k : Nat) (R_l0 : f10_S) : f10_L := [.c (f10_p 244) 0, .j (fun σ => R_l0 (cut f10_A.loops 0 σ)), .blk 0, .c (f10_p 31) 0]
def f10_C_l0 (k n : Nat) (σ : St) : Option (RDL f10_rs) := loopK (fun σ K => den T f10_Y (f10_E k) f10_A k (f10_p 244) 0 σ K) (cut f10_A.loops 0) (f10_a k [.blk 0, .c (f10_p 31) 0]) n σ
def f10_s_r7 (x20 : (List Int)) (x21 x22 : Int) (x35 : Bool) (x5 : Int) : St := mkS 38 128 [(5, aI x5), (20, aV (.int .i64) x20), (21, aI x21), (22, aI x22), (35, aB x35)] []
abbrev f10_t_r7 := (List Int) → Int → Int → Bool → Int → Option (Int × Unit)
abbrev f10_o_r7 (R : f10_S) : f10_t_r7 := (fun x20 x21 x22 x35 x5 => R (f10_s_r7 x20 x21 x22 x35 x5))
def f10_Q_r7 (k : Nat) (R_l0 : f10_S) : f10_L := [.c (f10_p 15667) 1, .blk 1, .c (f10_p 1959) 0, .j (fun σ => R_l0 (cut f10_A.loops 0 σ)), .blk 0, .c (f10_p 31) 0]
def f10_C_r7 (k : Nat) (R_l0 : f10_S) : f10_S := fun σ => f10_a k (f10_Q_r7 k R_l0) .nx σ
def f10_s_c8 (x20 : (List Int)) (x21 x22 x5 : Int) : St := mkS 38 128 [(5, aI x5), (20, aV (.int .i64) x20), (21, aI x21), (22, aI x22)] []
abbrev f10_t_c8 := (List Int) → Int → Int → Int → Option (Int × Unit)
abbrev f10_o_c8 (R : f10_S) : f10_t_c8 := (fun x20 x21 x22 x5 => R (f10_s_c8 x20 x21 x22 x5))
def f10_Q_c8 (k : Nat) (R_l0 : f10_S) : f10_L := [.blk 1, .c (f10_p 1959) 0, .j (fun σ => R_l0 (cut f10_A.loops 0 σ)), .blk 0, .c (f10_p 31) 0]
def f10_C_c8 (k : Nat) (R_l0 : f10_S) : f10_S := fun σ => f10_a k (f10_Q_c8 k R_l0) .nx σ
def f10_F_c3 (k : Nat) (G_l0 : f10_S) : f10_L := .c (f10_p 60) 0 :: .j (fun σ => f10_a k (.j (fun σ => G_l0 (cut f10_A.loops 0 σ)) :: .blk 0 :: .c (f10_p 31) 0 :: []) .nx σ) :: .c (f10_p 31) 0 :: []
theorem f10_f_c3 (k : Nat) : f10_a k (f10_Q_c3 k) = f10_a k (f10_F_c3 k (f10_C_l0 k k)) := (Eq.trans ap_sq (Eq.trans ap_sq (ap_cons _ (Eq.trans (ap_bl 0) (Eq.trans (ap_j (Eq.trans (ap_lp (C := (f10_C_l0 k)) (fun _ _ => rfl)) (ap_cons _ (ap_cons _ (ap_cons _ rfl))))) (ap_cons _ (ap_cons _ rfl)))))))
def f10_F_r2 (k : Nat) (G_c3 G_l0 : f10_S) : f10_L := .c (f10_p 29) 0 :: .j G_c3 :: f10_F_c3 k G_l0
theorem f10_f_r2 (k : Nat) : f10_a k (f10_Q_r2 k) = f10_a k (f10_F_r2 k (f10_C_c3 k) (f10_C_l0 k k)) := (ap_cons _ (Eq.trans (ap_pass (C := (f10_C_c3 k)) (fun _ => rfl)) (ap_cons _ (f10_f_c3 k))))
def f10_F_c8 (k : Nat) (G_l0 : f10_S) : f10_L := .blk 1 :: .c (f10_p 1959) 0 :: .j (fun σ => G_l0 (cut f10_A.loops 0 σ)) :: .blk 0 :: .c (f10_p 31) 0 :: []
theorem f10_f_c8 (k : Nat) (R_l0 : f10_S) : f10_a k (f10_Q_c8 k R_l0) = f10_a k (f10_F_c8 k R_l0) := (ap_cons _ (ap_cons _ (ap_cons _ (ap_cons _ (ap_cons _ rfl)))))
def f10_F_r7 (k : Nat) (G_l0 G_c8 : f10_S) : f10_L := .c (f10_p 15667) 1 :: .j G_c8 :: f10_F_c8 k G_l0
theorem f10_f_r7 (k : Nat) (R_l0 : f10_S) : f10_a k (f10_Q_r7 k R_l0) = f10_a k (f10_F_r7 k R_l0 (f10_C_c8 k R_l0)) := (ap_cons _ (Eq.trans (ap_pass (C := (f10_C_c8 k R_l0)) (fun _ => rfl)) (ap_cons _ (f10_f_c8 k R_l0))))
def f10_F_l0 (k : Nat) (G_l0 G_r7 G_c8 : f10_S) : f10_L := .c (f10_p 488) 0 :: .c (f10_p 978) 0 :: .j (fun σ => f10_a k (.c (f10_p 7832) 1 :: .c (f10_p 15666) 1 :: .j G_r7 :: f10_F_r7 k G_l0 G_c8) .nx σ) :: .c (f10_p 1959) 0 :: .j (fun σ => G_l0 (cut f10_A.loops 0 σ)) :: .blk 0 :: .c (f10_p 31) 0 :: []
theorem f10_f_l0 (k : Nat) (R_l0 : f10_S) : f10_a k (f10_Q_l0 k R_l0) = f10_a k (f10_F_l0 k R_l0 (f10_C_r7 k R_l0) (f10_C_c8 k R_l0)) := (Eq.trans ap_sq (ap_cons _ (Eq.trans ap_sq (ap_cons _ (Eq.trans ap_sq (Eq.trans (ap_bl 1) (Eq.trans (ap_j (Eq.trans ap_sq (ap_cons _ (Eq.trans ap_sq (ap_cons _ (Eq.trans (ap_pass (C := (f10_C_r7 k R_l0)) (fun _ => rfl)) (ap_cons _ (f10_f_r7 k R_l0)))))))) (ap_cons _ (ap_cons _ (ap_cons _ (ap_cons _ (ap_cons _ rfl))))))))))))
def f10_entry_B (k : Nat) (g_r2 : f10_t_r2) (a0 : Td8) (a1 : (List Int)) : Option (Int × Unit) := ((f46 k (a0.1, a0.2)).bind fun r1 => (if r1.1 = 0 then (g_r2 a1 (decide (¬ ((a1.length : Int) = (a0.1.length : Int)))) r1.1) else (g_r2 a1 false r1.1)))
def f10_r2_B (k : Nat) (g_c3 : f10_t_c3) (x1 : (List Int)) (x19 : Bool) (x5 : Int) : Option (Int × Unit) := (if x19 = true then (g_c3 x1 3) else (g_c3 x1 x5))
def f10_c3_B (k : Nat) (g_l0 : f10_t_l0) (x1 : (List Int)) (x5 : Int) : Option (Int × Unit) := (g_l0 x1 (x1.length : Int) 0 x5)
def f10_l0_B (k : Nat) (g_r7 : f10_t_r7) (x20 : (List Int)) (x21 x22 x5 : Int) : Option (Int × Unit) := (if x22 < x21 then (if 0 ≤ x22 then (if x22 < (x20.length : Int) then (if x5 = 0 then (if 65536 < (x20.getD (x22).toNat 0) then (g_r7 x20 x21 x22 true x5) else (g_r7 x20 x21 x22 (decide ((x20.getD (x22).toNat 0) < (-65536))) x5)) else (g_r7 x20 x21 x22 false x5)) else none) else none) else some (x5, ()))
def f10_r7_B (k : Nat) (g_c8 : f10_t_c8) (x20 : (List Int)) (x21 x22 : Int) (x35 : Bool) (x5 : Int) : Option (Int × Unit) := (if x35 = true then (g_c8 x20 x21 x22 1) else (g_c8 x20 x21 x22 x5))
def f10_c8_B (k : Nat) (g_l0 : f10_t_l0) (x20 : (List Int)) (x21 x22 x5 : Int) : Option (Int × Unit) := (g_l0 x20 x21 (w64 (x22 + 1)) x5)
theorem f10_c8_P (k : Nat) (G_l0 : f10_S) : f10_o_c8 (fun σ => f10_a k (f10_F_c8 k G_l0) .nx σ) = f10_c8_B k (f10_o_l0 G_l0) := by kernel_rfl
def f10_c8 (k : Nat) (r_l0 : f10_t_l0) : f10_t_c8 := f10_c8_B k r_l0
theorem f10_c8_E (k : Nat) (R_l0 : f10_S) : f10_o_c8 (f10_C_c8 k R_l0) = f10_c8 k (f10_o_l0 R_l0) :=
 Eq.trans (congrArg f10_o_c8 (ap_fn (f10_f_c8 k R_l0))) ((f10_c8_P k R_l0).trans (by rfl))
theorem f10_r7_P (k : Nat) (G_l0 G_c8 : f10_S) : f10_o_r7 (fun σ => f10_a k (f10_F_r7 k G_l0 G_c8) .nx σ) = f10_r7_B k (f10_o_c8 G_c8) := by kernel_rfl
def f10_r7 (k : Nat) (r_l0 : f10_t_l0) : f10_t_r7 := f10_r7_B k (f10_c8 k r_l0)
theorem f10_r7_E (k : Nat) (R_l0 : f10_S) : f10_o_r7 (f10_C_r7 k R_l0) = f10_r7 k (f10_o_l0 R_l0) :=
 Eq.trans (congrArg f10_o_r7 (ap_fn (f10_f_r7 k R_l0))) ((f10_r7_P k R_l0 (f10_C_c8 k R_l0)).trans (by rw [f10_c8_E k R_l0] <;> rfl))
theorem f10_l0_P (k : Nat) (G_l0 G_r7 G_c8 : f10_S) : f10_o_l0 (fun σ => f10_a k (f10_F_l0 k G_l0 G_r7 G_c8) .nx σ) = f10_l0_B k (f10_o_r7 G_r7) := by kernel_rfl
def f10_l0 (k : Nat) : Nat → f10_t_l0
 | 0 => fun _ _ _ _ => none
 | n + 1 => f10_l0_B k (f10_r7 k (f10_l0 k n))
theorem f10_l0_E (k : Nat) : ∀ n, f10_o_l0 (f10_C_l0 k n) = f10_l0 k n
 | 0 => rfl
 | n + 1 =>
   Eq.trans (congrArg f10_o_l0 (Eq.trans (b := fun σ => f10_a k (f10_Q_l0 k (f10_C_l0 k n)) .nx σ) lp_step (ap_fn (f10_f_l0 k (f10_C_l0 k n))))) ((f10_l0_P k (f10_C_l0 k n) (f10_C_r7 k (f10_C_l0 k n)) (f10_C_c8 k (f10_C_l0 k n))).trans (by rw [f10_r7_E k (f10_C_l0 k n), f10_l0_E k n] <;> rfl))
theorem f10_c3_P (k : Nat) (G_l0 : f10_S) : f10_o_c3 (fun σ => f10_a k (f10_F_c3 k G_l0) .nx σ) = f10_c3_B k (f10_o_l0 G_l0) := by kernel_rfl
def f10_c3 (k : Nat) : f10_t_c3 := f10_c3_B k (f10_l0 k k)
theorem f10_c3_E (k : Nat) : f10_o_c3 (f10_C_c3 k) = f10_c3 k :=
 Eq.trans (congrArg f10_o_c3 (ap_fn (f10_f_c3 k))) ((f10_c3_P k (f10_C_l0 k k)).trans (by rw [f10_l0_E k k] <;> rfl))
theorem f10_r2_P (k : Nat) (G_c3 G_l0 : f10_S) : f10_o_r2 (fun σ => f10_a k (f10_F_r2 k G_c3 G_l0) .nx σ) = f10_r2_B k (f10_o_c3 G_c3) := by kernel_rfl
def f10_r2 (k : Nat) : f10_t_r2 := f10_r2_B k (f10_c3 k)
theorem f10_r2_E (k : Nat) : f10_o_r2 (f10_C_r2 k) = f10_r2 k :=
 Eq.trans (congrArg f10_o_r2 (ap_fn (f10_f_r2 k))) ((f10_r2_P k (f10_C_c3 k) (f10_C_l0 k k)).trans (by rw [f10_c3_E k] <;> rfl))
theorem f10_entry_P (k : Nat) (G_r2 G_c3 G_l0 : f10_S) (xs : DL f10_sig) : f10_a k (.c (f10_p 2) 0 :: .c (f10_p 6) 0 :: .c (f10_p 28) 0 :: .j G_r2 :: f10_F_r2 k G_c3 G_l0) .nx (σ0 38 128 f10_sig xs) = f10_entry_B k (f10_o_r2 G_r2) xs.1 xs.2.1 := by kernel_rfl
def f10 (k : Nat) (a0 : Td8) (a1 : (List Int)) : Option (Int × Unit) := f10_entry_B k (f10_r2 k) a0 a1
theorem f10_fe (k : Nat) : f10_a k [.c (f10_p 1) 0] = f10_a k (.c (f10_p 2) 0 :: .c (f10_p 6) 0 :: .c (f10_p 28) 0 :: .j (f10_C_r2 k) :: f10_F_r2 k (f10_C_c3 k) (f10_C_l0 k k)) := (Eq.trans ap_sq (ap_cons _ (Eq.trans ap_sq (ap_cons _ (Eq.trans ap_sq (Eq.trans ap_sq (ap_cons _ (Eq.trans (ap_pass (C := (f10_C_r2 k)) (fun _ => rfl)) (ap_cons _ (f10_f_r2 k))))))))))
theorem f10_eq (k : Nat) (xs : DL f10_sig) : den T f10_Y (f10_E k) f10_A k f10_c 0 (σ0 38 128 f10_sig xs) (Kfin T f10_rs f10_ts) = f10 k xs.1 xs.2.1 :=
 Eq.trans (Eq.trans den_sb (ap_at (f10_fe k) _)) ((f10_entry_P k (f10_C_r2 k) (f10_C_c3 k) (f10_C_l0 k k) xs).trans (by rw [f10_r2_E k] <;> rfl))
def f10_con (k : Nat) : Con := ⟨f10_sig, f10_rs, fun xs => f10 k xs.1 xs.2.1⟩
theorem f10_ok (k : Nat) : PureOK Try.prog 10 f10_sig f10_rs (fun xs => f10 k xs.1 xs.2.1) :=
 (pure_of_den (k := k) (A := f10_A) (T := T) (Y := f10_Y) (E := f10_E k) (M := 128) (ts := f10_ts) T_ok ⟨f46_ok k, trivial⟩ ⟨f46_ent, trivial⟩ mixed (f := 10) (fn := Try.f10) (c := f10_c) (by kernel_rfl) (by kernel_rfl) (by kernel_rfl) (by decide) (by kernel_rfl)).congr fun xs => (f10_eq k xs).symm
theorem f10_ent : Ent Try.prog 10 := fun args w => by kernel_rfl
def f18_c : Code := Try.f18.body.getD .skip
abbrev f18_p (n : Nat) : Code := sb f18_c n
abbrev f18_sig : List PT := [(true, Tq5), (false, Tq0), (false, (.int .i64))]
abbrev f18_rs : List RT := [.d false (.int .i64)]
abbrev f18_ts : List RV := [.tmp 6]
abbrev f18_S := St → Option (RDL f18_rs)
abbrev f18_L := List (Fr (RDL f18_rs))
def f18_Y : Tys := []
def f18_E (k : Nat) : Env := [(10, .c (f10_con k))]
def f18_A : Ann := { regs := [(2, { slots := [(7, .id), (20, .bool)] })], conds := [(3, { slots := [(7, .id)] })] }
abbrev f18_a (k : Nat) (F : f18_L) : Kont (RDL f18_rs) := ap T f18_Y (f18_E k) f18_A k (Kfin T f18_rs f18_ts) F
def f18_s_r2 (x20 : Bool) (x7 : Int) : St := mkS 22 80 [(7, aI x7), (20, aB x20)] []
abbrev f18_t_r2 := Bool → Int → Option (Int × Unit)
abbrev f18_o_r2 (R : f18_S) : f18_t_r2 := (fun x20 x7 => R (f18_s_r2 x20 x7))
def f18_Q_r2 (k : Nat) : f18_L := [.c (f18_p 29) 0, .c (f18_p 15) 0]
def f18_C_r2 (k : Nat) : f18_S := fun σ => f18_a k (f18_Q_r2 k) .nx σ
def f18_s_c3 (x7 : Int) : St := mkS 22 80 [(7, aI x7)] []
abbrev f18_t_c3 := Int → Option (Int × Unit)
abbrev f18_o_c3 (R : f18_S) : f18_t_c3 := (fun x7 => R (f18_s_c3 x7))
def f18_Q_c3 (k : Nat) : f18_L := [.c (f18_p 15) 0]
def f18_C_c3 (k : Nat) : f18_S := fun σ => f18_a k (f18_Q_c3 k) .nx σ
def f18_F_c3 (k : Nat) : f18_L := .c (f18_p 15) 0 :: []
theorem f18_f_c3 (k : Nat) : f18_a k (f18_Q_c3 k) = f18_a k (f18_F_c3 k) := (ap_cons _ rfl)
def f18_F_r2 (k : Nat) (G_c3 : f18_S) : f18_L := .c (f18_p 29) 0 :: .j G_c3 :: f18_F_c3 k
theorem f18_f_r2 (k : Nat) : f18_a k (f18_Q_r2 k) = f18_a k (f18_F_r2 k (f18_C_c3 k)) := (ap_cons _ (Eq.trans (ap_pass (C := (f18_C_c3 k)) (fun _ => rfl)) (ap_cons _ (f18_f_c3 k))))
def f18_entry_B (k : Nat) (g_r2 : f18_t_r2) (a0 : Td8) (a1 : (List Int)) (a2 : Int) : Option (Int × Unit) := ((f10 k (a0.1, a0.2) a1).bind fun r1 => (if r1.1 = 0 then (if a2 < (-65536) then (g_r2 true r1.1) else (g_r2 (decide (65536 ≤ a2)) r1.1)) else (g_r2 false r1.1)))
def f18_r2_B (k : Nat) (g_c3 : f18_t_c3) (x20 : Bool) (x7 : Int) : Option (Int × Unit) := (if x20 = true then (g_c3 1) else (g_c3 x7))
def f18_c3_B (k : Nat) (x7 : Int) : Option (Int × Unit) := some (x7, ())
theorem f18_c3_P (k : Nat) : f18_o_c3 (fun σ => f18_a k (f18_F_c3 k) .nx σ) = f18_c3_B k := by kernel_rfl
def f18_c3 (k : Nat) : f18_t_c3 := f18_c3_B k
theorem f18_c3_E (k : Nat) : f18_o_c3 (f18_C_c3 k) = f18_c3 k :=
 Eq.trans (congrArg f18_o_c3 (ap_fn (f18_f_c3 k))) ((f18_c3_P k).trans (by rfl))
theorem f18_r2_P (k : Nat) (G_c3 : f18_S) : f18_o_r2 (fun σ => f18_a k (f18_F_r2 k G_c3) .nx σ) = f18_r2_B k (f18_o_c3 G_c3) := by kernel_rfl
def f18_r2 (k : Nat) : f18_t_r2 := f18_r2_B k (f18_c3 k)
theorem f18_r2_E (k : Nat) : f18_o_r2 (f18_C_r2 k) = f18_r2 k :=
 Eq.trans (congrArg f18_o_r2 (ap_fn (f18_f_r2 k))) ((f18_r2_P k (f18_C_c3 k)).trans (by rw [f18_c3_E k] <;> rfl))
theorem f18_entry_P (k : Nat) (G_r2 G_c3 : f18_S) (xs : DL f18_sig) : f18_a k (.c (f18_p 2) 0 :: .c (f18_p 6) 0 :: .c (f18_p 28) 0 :: .j G_r2 :: f18_F_r2 k G_c3) .nx (σ0 22 80 f18_sig xs) = f18_entry_B k (f18_o_r2 G_r2) xs.1 xs.2.1 xs.2.2.1 := by kernel_rfl
def f18 (k : Nat) (a0 : Td8) (a1 : (List Int)) (a2 : Int) : Option (Int × Unit) := f18_entry_B k (f18_r2 k) a0 a1 a2
theorem f18_fe (k : Nat) : f18_a k [.c (f18_p 1) 0] = f18_a k (.c (f18_p 2) 0 :: .c (f18_p 6) 0 :: .c (f18_p 28) 0 :: .j (f18_C_r2 k) :: f18_F_r2 k (f18_C_c3 k)) := (Eq.trans ap_sq (ap_cons _ (Eq.trans ap_sq (ap_cons _ (Eq.trans ap_sq (Eq.trans ap_sq (ap_cons _ (Eq.trans (ap_pass (C := (f18_C_r2 k)) (fun _ => rfl)) (ap_cons _ (f18_f_r2 k))))))))))
theorem f18_eq (k : Nat) (xs : DL f18_sig) : den T f18_Y (f18_E k) f18_A k f18_c 0 (σ0 22 80 f18_sig xs) (Kfin T f18_rs f18_ts) = f18 k xs.1 xs.2.1 xs.2.2.1 :=
 Eq.trans (Eq.trans den_sb (ap_at (f18_fe k) _)) ((f18_entry_P k (f18_C_r2 k) (f18_C_c3 k) xs).trans (by rw [f18_r2_E k] <;> rfl))
def f18_con (k : Nat) : Con := ⟨f18_sig, f18_rs, fun xs => f18 k xs.1 xs.2.1 xs.2.2.1⟩
theorem f18_ok (k : Nat) : PureOK Try.prog 18 f18_sig f18_rs (fun xs => f18 k xs.1 xs.2.1 xs.2.2.1) :=
 (pure_of_den (k := k) (A := f18_A) (T := T) (Y := f18_Y) (E := f18_E k) (M := 80) (ts := f18_ts) T_ok ⟨f10_ok k, trivial⟩ ⟨f10_ent, trivial⟩ mixed (f := 18) (fn := Try.f18) (c := f18_c) (by kernel_rfl) (by kernel_rfl) (by kernel_rfl) (by decide) (by kernel_rfl)).congr fun xs => (f18_eq k xs).symm
theorem f18_ent : Ent Try.prog 18 := fun args w => by kernel_rfl
def f19_c : Code := Try.f19.body.getD .skip
abbrev f19_p (n : Nat) : Code := sb f19_c n
abbrev f19_sig : List PT := [(true, Tq5), (false, Tq0), (false, (.int .i64))]
abbrev f19_rs : List RT := [.new Tq17]
abbrev f19_ts : List RV := [.tmp 6]
abbrev f19_S := St → Option (RDL f19_rs)
abbrev f19_L := List (Fr (RDL f19_rs))
def f19_Y : Tys := [(49, Tq17)]
def f19_E (k : Nat) : Env := []
def f19_A : Ann := { loops := [(0, { mat := [(7, 81, Tq17)], slots := [(1, .val false (.int .i64)), (2, .id), (7, .id), (17, .val false Tq3), (18, .id), (19, .id)], keys := [(81, [])] }), (2, { mat := [(7, 81, Tq17)], slots := [(1, .val false (.int .i64)), (2, .id), (7, .id), (9, .id), (17, .val false Tq3), (18, .id), (19, .id), (23, .id)], keys := [(9, []), (81, [])] })], regs := [(10, { slots := [(1, .val false (.int .i64)), (2, .id), (7, .id), (9, .id), (11, .id), (12, .id), (13, .id), (14, .id), (15, .id), (17, .val false Tq3), (18, .id), (19, .id), (23, .id), (53, .bool)], keys := [(9, []), (14, []), (15, []), (81, [])] }), (12, { slots := [(1, .val false (.int .i64)), (2, .id), (7, .id), (9, .id), (14, .id), (15, .id), (17, .val false Tq3), (18, .id), (19, .id), (23, .id), (82, .bool)], keys := [(9, []), (14, []), (15, []), (81, [])] })], conds := [(11, { slots := [(1, .val false (.int .i64)), (2, .id), (7, .id), (9, .id), (17, .val false Tq3), (18, .id), (19, .id), (23, .id)], keys := [(9, []), (81, [])] })] }
abbrev f19_a (k : Nat) (F : f19_L) : Kont (RDL f19_rs) := ap T f19_Y (f19_E k) f19_A k (Kfin T f19_rs f19_ts) F
def f19_s_l0 (y81 : (List ((Int × Int) × (Int × Int)))) (x1 : (List Int)) (x17 : (List (Int × (Int × Int)))) (x18 x19 x2 : Int) : St := mkS 114 352 [(1, aV (.int .i64) x1), (2, aI x2), (7, aO 81), (17, aV Tq3 x17), (18, aI x18), (19, aI x19)] [(81, .vec Tq17 y81)]
abbrev f19_t_l0 := (List ((Int × Int) × (Int × Int))) → (List Int) → (List (Int × (Int × Int))) → Int → Int → Int → Option ((List Td18) × Unit)
abbrev f19_o_l0 (R : f19_S) : f19_t_l0 := (fun y81 x1 x17 x18 x19 x2 => R (f19_s_l0 y81 x1 x17 x18 x19 x2))
def f19_Q_l0 (k : Nat) (R_l0 : f19_S) : f19_L := [.c (f19_p 116) 0, .j (fun σ => R_l0 (cut f19_A.loops 0 σ)), .blk 0, .c (f19_p 15) 0]
def f19_C_l0 (k n : Nat) (σ : St) : Option (RDL f19_rs) := loopK (fun σ K => den T f19_Y (f19_E k) f19_A k (f19_p 116) 0 σ K) (cut f19_A.loops 0) (f19_a k [.blk 0, .c (f19_p 15) 0]) n σ
def f19_s_l2 (y81 : (List ((Int × Int) × (Int × Int)))) (y9_0 y9_1 y9_2 : Int) (x1 : (List Int)) (x17 : (List (Int × (Int × Int)))) (x18 x19 x2 x23 : Int) : St := mkS 114 352 [(1, aV (.int .i64) x1), (2, aI x2), (7, aO 81), (9, aP 9), (17, aV Tq3 x17), (18, aI x18), (19, aI x19), (23, aI x23)] [(9, .box [cI y9_0, cI y9_1, cI y9_2]), (81, .vec Tq17 y81)]
abbrev f19_t_l2 := (List ((Int × Int) × (Int × Int))) → Int → Int → Int → (List Int) → (List (Int × (Int × Int))) → Int → Int → Int → Int → Option ((List Td18) × Unit)
abbrev f19_o_l2 (R : f19_S) : f19_t_l2 := (fun y81 y9_0 y9_1 y9_2 x1 x17 x18 x19 x2 x23 => R (f19_s_l2 y81 y9_0 y9_1 y9_2 x1 x17 x18 x19 x2 x23))
def f19_Q_l2 (k : Nat) (R_l0 R_l2 : f19_S) : f19_L := [.c (f19_p 29900) 2, .j (fun σ => R_l2 (cut f19_A.loops 2 σ)), .blk 2, .blk 1, .c (f19_p 935) 0, .j (fun σ => R_l0 (cut f19_A.loops 0 σ)), .blk 0, .c (f19_p 15) 0]
def f19_C_l2 (k : Nat) (R_l0 : f19_S) (n : Nat) (σ : St) : Option (RDL f19_rs) := loopK (fun σ K => den T f19_Y (f19_E k) f19_A k (f19_p 29900) 2 σ K) (cut f19_A.loops 2) (f19_a k [.blk 2, .blk 1, .c (f19_p 935) 0, .j (fun σ => R_l0 (cut f19_A.loops 0 σ)), .blk 0, .c (f19_p 15) 0]) n σ
def f19_s_r10 (y14_0 y14_1 y15_0 y15_1 : Int) (y81 : (List ((Int × Int) × (Int × Int)))) (y9_0 y9_1 y9_2 : Int) (x1 : (List Int)) (x11 x12 x13 : Int) (x17 : (List (Int × (Int × Int)))) (x18 x19 x2 x23 : Int) (x53 : Bool) : St := mkS 114 352 [(1, aV (.int .i64) x1), (2, aI x2), (7, aO 81), (9, aP 9), (11, aI x11), (12, aI x12), (13, aI x13), (14, aP 14), (15, aP 15), (17, aV Tq3 x17), (18, aI x18), (19, aI x19), (23, aI x23), (53, aB x53)] [(9, .box [cI y9_0, cI y9_1, cI y9_2]), (14, .box [cI y14_0, cI y14_1]), (15, .box [cI y15_0, cI y15_1]), (81, .vec Tq17 y81)]
abbrev f19_t_r10 := Int → Int → Int → Int → (List ((Int × Int) × (Int × Int))) → Int → Int → Int → (List Int) → Int → Int → Int → (List (Int × (Int × Int))) → Int → Int → Int → Int → Bool → Option ((List Td18) × Unit)
abbrev f19_o_r10 (R : f19_S) : f19_t_r10 := (fun y14_0 y14_1 y15_0 y15_1 y81 y9_0 y9_1 y9_2 x1 x11 x12 x13 x17 x18 x19 x2 x23 x53 => R (f19_s_r10 y14_0 y14_1 y15_0 y15_1 y81 y9_0 y9_1 y9_2 x1 x11 x12 x13 x17 x18 x19 x2 x23 x53))
def f19_Q_r10 (k : Nat) (R_l2 R_l0 : f19_S) : f19_L := [.c (f19_p 15309213) 4, .blk 4, .blk 3, .c (f19_p 239207) 2, .j (fun σ => R_l2 (cut f19_A.loops 2 σ)), .blk 2, .blk 1, .c (f19_p 935) 0, .j (fun σ => R_l0 (cut f19_A.loops 0 σ)), .blk 0, .c (f19_p 15) 0]
def f19_C_r10 (k : Nat) (R_l2 R_l0 : f19_S) : f19_S := fun σ => f19_a k (f19_Q_r10 k R_l2 R_l0) .nx σ
def f19_s_c11 (y81 : (List ((Int × Int) × (Int × Int)))) (y9_0 y9_1 y9_2 : Int) (x1 : (List Int)) (x17 : (List (Int × (Int × Int)))) (x18 x19 x2 x23 : Int) : St := mkS 114 352 [(1, aV (.int .i64) x1), (2, aI x2), (7, aO 81), (9, aP 9), (17, aV Tq3 x17), (18, aI x18), (19, aI x19), (23, aI x23)] [(9, .box [cI y9_0, cI y9_1, cI y9_2]), (81, .vec Tq17 y81)]
abbrev f19_t_c11 := (List ((Int × Int) × (Int × Int))) → Int → Int → Int → (List Int) → (List (Int × (Int × Int))) → Int → Int → Int → Int → Option ((List Td18) × Unit)
abbrev f19_o_c11 (R : f19_S) : f19_t_c11 := (fun y81 y9_0 y9_1 y9_2 x1 x17 x18 x19 x2 x23 => R (f19_s_c11 y81 y9_0 y9_1 y9_2 x1 x17 x18 x19 x2 x23))
def f19_Q_c11 (k : Nat) (R_l2 R_l0 : f19_S) : f19_L := [.blk 4, .blk 3, .c (f19_p 239207) 2, .j (fun σ => R_l2 (cut f19_A.loops 2 σ)), .blk 2, .blk 1, .c (f19_p 935) 0, .j (fun σ => R_l0 (cut f19_A.loops 0 σ)), .blk 0, .c (f19_p 15) 0]
def f19_C_c11 (k : Nat) (R_l2 R_l0 : f19_S) : f19_S := fun σ => f19_a k (f19_Q_c11 k R_l2 R_l0) .nx σ
def f19_s_r12 (y14_0 y14_1 y15_0 y15_1 : Int) (y81 : (List ((Int × Int) × (Int × Int)))) (y9_0 y9_1 y9_2 : Int) (x1 : (List Int)) (x17 : (List (Int × (Int × Int)))) (x18 x19 x2 x23 : Int) (x82 : Bool) : St := mkS 114 352 [(1, aV (.int .i64) x1), (2, aI x2), (7, aO 81), (9, aP 9), (14, aP 14), (15, aP 15), (17, aV Tq3 x17), (18, aI x18), (19, aI x19), (23, aI x23), (82, aB x82)] [(9, .box [cI y9_0, cI y9_1, cI y9_2]), (14, .box [cI y14_0, cI y14_1]), (15, .box [cI y15_0, cI y15_1]), (81, .vec Tq17 y81)]
abbrev f19_t_r12 := Int → Int → Int → Int → (List ((Int × Int) × (Int × Int))) → Int → Int → Int → (List Int) → (List (Int × (Int × Int))) → Int → Int → Int → Int → Bool → Option ((List Td18) × Unit)
abbrev f19_o_r12 (R : f19_S) : f19_t_r12 := (fun y14_0 y14_1 y15_0 y15_1 y81 y9_0 y9_1 y9_2 x1 x17 x18 x19 x2 x23 x82 => R (f19_s_r12 y14_0 y14_1 y15_0 y15_1 y81 y9_0 y9_1 y9_2 x1 x17 x18 x19 x2 x23 x82))
def f19_Q_r12 (k : Nat) (R_l2 R_l0 : f19_S) : f19_L := [.c (f19_p 61236855) 4, .cond 11, .blk 4, .blk 3, .c (f19_p 239207) 2, .j (fun σ => R_l2 (cut f19_A.loops 2 σ)), .blk 2, .blk 1, .c (f19_p 935) 0, .j (fun σ => R_l0 (cut f19_A.loops 0 σ)), .blk 0, .c (f19_p 15) 0]
def f19_C_r12 (k : Nat) (R_l2 R_l0 : f19_S) : f19_S := fun σ => f19_a k (f19_Q_r12 k R_l2 R_l0) .nx σ
def f19_F_l0 (k : Nat) (G_l0 G_l2 : f19_S) : f19_L := .c (f19_p 232) 0 :: .c (f19_p 466) 0 :: .j (fun σ => f19_a k (.c (f19_p 3736) 1 :: .c (f19_p 7474) 1 :: .j (fun σ => f19_a k (.j (fun σ => G_l2 (cut f19_A.loops 2 σ)) :: .blk 2 :: .blk 1 :: .c (f19_p 935) 0 :: .j (fun σ => G_l0 (cut f19_A.loops 0 σ)) :: .blk 0 :: .c (f19_p 15) 0 :: []) .nx σ) :: .blk 1 :: .c (f19_p 935) 0 :: .j (fun σ => G_l0 (cut f19_A.loops 0 σ)) :: .blk 0 :: .c (f19_p 15) 0 :: []) .nx σ) :: .c (f19_p 935) 0 :: .j (fun σ => G_l0 (cut f19_A.loops 0 σ)) :: .blk 0 :: .c (f19_p 15) 0 :: []
theorem f19_f_l0 (k : Nat) (R_l0 : f19_S) : f19_a k (f19_Q_l0 k R_l0) = f19_a k (f19_F_l0 k R_l0 (f19_C_l2 k R_l0 k)) := (Eq.trans ap_sq (ap_cons _ (Eq.trans ap_sq (ap_cons _ (Eq.trans ap_sq (Eq.trans (ap_bl 1) (Eq.trans (ap_j (Eq.trans ap_sq (ap_cons _ (Eq.trans ap_sq (ap_cons _ (Eq.trans (ap_bl 2) (Eq.trans (ap_j (Eq.trans (ap_lp (C := (f19_C_l2 k R_l0)) (fun _ _ => rfl)) (ap_cons _ (ap_cons _ (ap_cons _ (ap_cons _ (ap_cons _ (ap_cons _ (ap_cons _ rfl))))))))) (ap_cons _ (ap_cons _ (ap_cons _ (ap_cons _ (ap_cons _ (ap_cons _ rfl))))))))))))) (ap_cons _ (ap_cons _ (ap_cons _ (ap_cons _ (ap_cons _ rfl))))))))))))
def f19_F_c11 (k : Nat) (G_l0 G_l2 : f19_S) : f19_L := .blk 4 :: .blk 3 :: .c (f19_p 239207) 2 :: .j (fun σ => G_l2 (cut f19_A.loops 2 σ)) :: .blk 2 :: .blk 1 :: .c (f19_p 935) 0 :: .j (fun σ => G_l0 (cut f19_A.loops 0 σ)) :: .blk 0 :: .c (f19_p 15) 0 :: []
theorem f19_f_c11 (k : Nat) (R_l2 R_l0 : f19_S) : f19_a k (f19_Q_c11 k R_l2 R_l0) = f19_a k (f19_F_c11 k R_l0 R_l2) := (ap_cons _ (ap_cons _ (ap_cons _ (ap_cons _ (ap_cons _ (ap_cons _ (ap_cons _ (ap_cons _ (ap_cons _ (ap_cons _ rfl))))))))))
def f19_F_r12 (k : Nat) (G_l0 G_l2 G_c11 : f19_S) : f19_L := .c (f19_p 61236855) 4 :: .j (fun σ => G_c11 (cut f19_A.conds 11 σ)) :: f19_F_c11 k G_l0 G_l2
theorem f19_f_r12 (k : Nat) (R_l2 R_l0 : f19_S) : f19_a k (f19_Q_r12 k R_l2 R_l0) = f19_a k (f19_F_r12 k R_l0 R_l2 (f19_C_c11 k R_l2 R_l0)) := (ap_cons _ (Eq.trans (ap_condj (C := (f19_C_c11 k R_l2 R_l0)) (fun _ => rfl)) (ap_cons _ (f19_f_c11 k R_l2 R_l0))))
def f19_F_r10 (k : Nat) (G_l0 G_l2 G_c11 G_r12 : f19_S) : f19_L := .i (.tmp 53) (fun σ => f19_a k (.c (f19_p 30618426) 4 :: .j (fun σ => G_c11 (cut f19_A.conds 11 σ)) :: f19_F_c11 k G_l0 G_l2) .nx σ) (fun σ => f19_a k (.c (f19_p 61236854) 4 :: .j G_r12 :: f19_F_r12 k G_l0 G_l2 G_c11) .nx σ) :: f19_F_c11 k G_l0 G_l2
theorem f19_f_r10 (k : Nat) (R_l2 R_l0 : f19_S) : f19_a k (f19_Q_r10 k R_l2 R_l0) = f19_a k (f19_F_r10 k R_l0 R_l2 (f19_C_c11 k R_l2 R_l0) (f19_C_r12 k R_l2 R_l0)) := (Eq.trans (ap_cn (.tmp 53) 11) (Eq.trans (ap_i (ap_cons _ (Eq.trans (ap_condj (C := (f19_C_c11 k R_l2 R_l0)) (fun _ => rfl)) (ap_cons _ (f19_f_c11 k R_l2 R_l0)))) (Eq.trans ap_sq (ap_cons _ (Eq.trans (ap_pass (C := (f19_C_r12 k R_l2 R_l0)) (fun _ => rfl)) (ap_cons _ (f19_f_r12 k R_l2 R_l0)))))) (ap_cons _ (f19_f_c11 k R_l2 R_l0))))
def f19_F_l2 (k : Nat) (G_l0 G_l2 G_r10 G_c11 G_r12 : f19_S) : f19_L := .c (f19_p 59800) 2 :: .c (f19_p 119602) 2 :: .j (fun σ => f19_a k (.c (f19_p 956824) 3 :: .c (f19_p 1913650) 3 :: .c (f19_p 3827302) 3 :: .j (fun σ => f19_a k (.c (f19_p 15309212) 4 :: .j G_r10 :: f19_F_r10 k G_l0 G_l2 G_c11 G_r12) .nx σ) :: .blk 3 :: .c (f19_p 239207) 2 :: .j (fun σ => G_l2 (cut f19_A.loops 2 σ)) :: .blk 2 :: .blk 1 :: .c (f19_p 935) 0 :: .j (fun σ => G_l0 (cut f19_A.loops 0 σ)) :: .blk 0 :: .c (f19_p 15) 0 :: []) .nx σ) :: .c (f19_p 239207) 2 :: .j (fun σ => G_l2 (cut f19_A.loops 2 σ)) :: .blk 2 :: .blk 1 :: .c (f19_p 935) 0 :: .j (fun σ => G_l0 (cut f19_A.loops 0 σ)) :: .blk 0 :: .c (f19_p 15) 0 :: []
theorem f19_f_l2 (k : Nat) (R_l0 R_l2 : f19_S) : f19_a k (f19_Q_l2 k R_l0 R_l2) = f19_a k (f19_F_l2 k R_l0 R_l2 (f19_C_r10 k R_l2 R_l0) (f19_C_c11 k R_l2 R_l0) (f19_C_r12 k R_l2 R_l0)) := (Eq.trans ap_sq (ap_cons _ (Eq.trans ap_sq (ap_cons _ (Eq.trans ap_sq (Eq.trans (ap_bl 3) (Eq.trans (ap_j (Eq.trans ap_sq (ap_cons _ (Eq.trans ap_sq (ap_cons _ (Eq.trans ap_sq (ap_cons _ (Eq.trans (ap_bl 4) (Eq.trans (ap_j (Eq.trans ap_sq (ap_cons _ (Eq.trans (ap_pass (C := (f19_C_r10 k R_l2 R_l0)) (fun _ => rfl)) (ap_cons _ (f19_f_r10 k R_l2 R_l0)))))) (ap_cons _ (ap_cons _ (ap_cons _ (ap_cons _ (ap_cons _ (ap_cons _ (ap_cons _ (ap_cons _ (ap_cons _ (ap_cons _ rfl))))))))))))))))))) (ap_cons _ (ap_cons _ (ap_cons _ (ap_cons _ (ap_cons _ (ap_cons _ (ap_cons _ (ap_cons _ (ap_cons _ rfl))))))))))))))))
def f19_entry_B (k : Nat) (g_l0 : f19_t_l0) (a0 : Td8) (a1 : (List Int)) (a2 : Int) : Option ((List Td18) × Unit) := (g_l0 ([] : List ((Int × Int) × (Int × Int))) a1 a0.2 (a0.2.length : Int) 0 a2)
def f19_l0_B (k : Nat) (g_l2 : f19_t_l2) (y81 : (List ((Int × Int) × (Int × Int)))) (x1 : (List Int)) (x17 : (List (Int × (Int × Int)))) (x18 x19 x2 : Int) : Option ((List Td18) × Unit) := (if x19 < x18 then (if 0 ≤ x19 then (if x19 < (x17.length : Int) then (g_l2 y81 ((x17.getD (x19).toNat (0, (0, 0))).1) (((x17.getD (x19).toNat (0, (0, 0))).2).1) (((x17.getD (x19).toNat (0, (0, 0))).2).2) x1 x17 x18 x19 x2 0) else none) else none) else some (y81, ()))
def f19_l2_B (k : Nat) (g_l0 : f19_t_l0) (g_r10 : f19_t_r10) (y81 : (List ((Int × Int) × (Int × Int)))) (y9_0 y9_1 y9_2 : Int) (x1 : (List Int)) (x17 : (List (Int × (Int × Int)))) (x18 x19 x2 x23 : Int) : Option ((List Td18) × Unit) := (if x23 < 3 then (if 0 ≤ x23 then (if x23 < (3 : Int) then (if 0 ≤ ((w64 (x23 + 1)).tmod 3) then (if ((w64 (x23 + 1)).tmod 3) < (3 : Int) then (if 0 ≤ ((w64 (x23 + 2)).tmod 3) then (if ((w64 (x23 + 2)).tmod 3) < (3 : Int) then (if 0 ≤ (([y9_0, y9_1, y9_2] : List Int).getD ((x23).toNat) 0) then (if (([y9_0, y9_1, y9_2] : List Int).getD ((x23).toNat) 0) < (x1.length : Int) then (if x2 < (x1.getD ((([y9_0, y9_1, y9_2] : List Int).getD ((x23).toNat) 0)).toNat 0) then (if 0 ≤ (([y9_0, y9_1, y9_2] : List Int).getD ((((w64 (x23 + 1)).tmod 3)).toNat) 0) then (if (([y9_0, y9_1, y9_2] : List Int).getD ((((w64 (x23 + 1)).tmod 3)).toNat) 0) < (x1.length : Int) then (if (x1.getD ((([y9_0, y9_1, y9_2] : List Int).getD ((((w64 (x23 + 1)).tmod 3)).toNat) 0)).toNat 0) ≤ x2 then (if 0 ≤ (([y9_0, y9_1, y9_2] : List Int).getD ((((w64 (x23 + 2)).tmod 3)).toNat) 0) then (if (([y9_0, y9_1, y9_2] : List Int).getD ((((w64 (x23 + 2)).tmod 3)).toNat) 0) < (x1.length : Int) then (g_r10 (mx2 false (([y9_0, y9_1, y9_2] : List Int).getD ((x23).toNat) 0) (([y9_0, y9_1, y9_2] : List Int).getD ((((w64 (x23 + 1)).tmod 3)).toNat) 0)) (mx2 true (([y9_0, y9_1, y9_2] : List Int).getD ((x23).toNat) 0) (([y9_0, y9_1, y9_2] : List Int).getD ((((w64 (x23 + 1)).tmod 3)).toNat) 0)) (mx2 false (([y9_0, y9_1, y9_2] : List Int).getD ((x23).toNat) 0) (([y9_0, y9_1, y9_2] : List Int).getD ((((w64 (x23 + 2)).tmod 3)).toNat) 0)) (mx2 true (([y9_0, y9_1, y9_2] : List Int).getD ((x23).toNat) 0) (([y9_0, y9_1, y9_2] : List Int).getD ((((w64 (x23 + 2)).tmod 3)).toNat) 0)) y81 y9_0 y9_1 y9_2 x1 (([y9_0, y9_1, y9_2] : List Int).getD ((x23).toNat) 0) (([y9_0, y9_1, y9_2] : List Int).getD ((((w64 (x23 + 1)).tmod 3)).toNat) 0) (([y9_0, y9_1, y9_2] : List Int).getD ((((w64 (x23 + 2)).tmod 3)).toNat) 0) x17 x18 x19 x2 x23 (decide ((x1.getD ((([y9_0, y9_1, y9_2] : List Int).getD ((((w64 (x23 + 2)).tmod 3)).toNat) 0)).toNat 0) ≤ x2))) else none) else none) else (g_r10 (mx2 false (([y9_0, y9_1, y9_2] : List Int).getD ((x23).toNat) 0) (([y9_0, y9_1, y9_2] : List Int).getD ((((w64 (x23 + 1)).tmod 3)).toNat) 0)) (mx2 true (([y9_0, y9_1, y9_2] : List Int).getD ((x23).toNat) 0) (([y9_0, y9_1, y9_2] : List Int).getD ((((w64 (x23 + 1)).tmod 3)).toNat) 0)) (mx2 false (([y9_0, y9_1, y9_2] : List Int).getD ((x23).toNat) 0) (([y9_0, y9_1, y9_2] : List Int).getD ((((w64 (x23 + 2)).tmod 3)).toNat) 0)) (mx2 true (([y9_0, y9_1, y9_2] : List Int).getD ((x23).toNat) 0) (([y9_0, y9_1, y9_2] : List Int).getD ((((w64 (x23 + 2)).tmod 3)).toNat) 0)) y81 y9_0 y9_1 y9_2 x1 (([y9_0, y9_1, y9_2] : List Int).getD ((x23).toNat) 0) (([y9_0, y9_1, y9_2] : List Int).getD ((((w64 (x23 + 1)).tmod 3)).toNat) 0) (([y9_0, y9_1, y9_2] : List Int).getD ((((w64 (x23 + 2)).tmod 3)).toNat) 0) x17 x18 x19 x2 x23 false)) else none) else none) else (g_r10 (mx2 false (([y9_0, y9_1, y9_2] : List Int).getD ((x23).toNat) 0) (([y9_0, y9_1, y9_2] : List Int).getD ((((w64 (x23 + 1)).tmod 3)).toNat) 0)) (mx2 true (([y9_0, y9_1, y9_2] : List Int).getD ((x23).toNat) 0) (([y9_0, y9_1, y9_2] : List Int).getD ((((w64 (x23 + 1)).tmod 3)).toNat) 0)) (mx2 false (([y9_0, y9_1, y9_2] : List Int).getD ((x23).toNat) 0) (([y9_0, y9_1, y9_2] : List Int).getD ((((w64 (x23 + 2)).tmod 3)).toNat) 0)) (mx2 true (([y9_0, y9_1, y9_2] : List Int).getD ((x23).toNat) 0) (([y9_0, y9_1, y9_2] : List Int).getD ((((w64 (x23 + 2)).tmod 3)).toNat) 0)) y81 y9_0 y9_1 y9_2 x1 (([y9_0, y9_1, y9_2] : List Int).getD ((x23).toNat) 0) (([y9_0, y9_1, y9_2] : List Int).getD ((((w64 (x23 + 1)).tmod 3)).toNat) 0) (([y9_0, y9_1, y9_2] : List Int).getD ((((w64 (x23 + 2)).tmod 3)).toNat) 0) x17 x18 x19 x2 x23 false)) else none) else none) else none) else none) else none) else none) else none) else none) else (g_l0 y81 x1 x17 x18 (w64 (x19 + 1)) x2))
def f19_r10_B (k : Nat) (g_c11 : f19_t_c11) (g_r12 : f19_t_r12) (y14_0 y14_1 y15_0 y15_1 : Int) (y81 : (List ((Int × Int) × (Int × Int)))) (y9_0 y9_1 y9_2 : Int) (x1 : (List Int)) (x11 x12 x13 : Int) (x17 : (List (Int × (Int × Int)))) (x18 x19 x2 x23 : Int) (x53 : Bool) : Option ((List Td18) × Unit) := (if x53 = true then (if (y81.length + 1) * 32 ≤ 140737488355328 then (g_c11 (y81 ++ [((y14_0, y14_1), (y15_0, y15_1))]) y9_0 y9_1 y9_2 x1 x17 x18 x19 x2 x23) else none) else (if 0 ≤ x11 then (if x11 < (x1.length : Int) then (if (x1.getD (x11).toNat 0) ≤ x2 then (if 0 ≤ x12 then (if x12 < (x1.length : Int) then (if x2 < (x1.getD (x12).toNat 0) then (if 0 ≤ x13 then (if x13 < (x1.length : Int) then (g_r12 y14_0 y14_1 y15_0 y15_1 y81 y9_0 y9_1 y9_2 x1 x17 x18 x19 x2 x23 (decide (x2 < (x1.getD (x13).toNat 0)))) else none) else none) else (g_r12 y14_0 y14_1 y15_0 y15_1 y81 y9_0 y9_1 y9_2 x1 x17 x18 x19 x2 x23 false)) else none) else none) else (g_r12 y14_0 y14_1 y15_0 y15_1 y81 y9_0 y9_1 y9_2 x1 x17 x18 x19 x2 x23 false)) else none) else none))
def f19_c11_B (k : Nat) (g_l2 : f19_t_l2) (y81 : (List ((Int × Int) × (Int × Int)))) (y9_0 y9_1 y9_2 : Int) (x1 : (List Int)) (x17 : (List (Int × (Int × Int)))) (x18 x19 x2 x23 : Int) : Option ((List Td18) × Unit) := (g_l2 y81 y9_0 y9_1 y9_2 x1 x17 x18 x19 x2 (w64 (x23 + 1)))
def f19_r12_B (k : Nat) (g_c11 : f19_t_c11) (y14_0 y14_1 y15_0 y15_1 : Int) (y81 : (List ((Int × Int) × (Int × Int)))) (y9_0 y9_1 y9_2 : Int) (x1 : (List Int)) (x17 : (List (Int × (Int × Int)))) (x18 x19 x2 x23 : Int) (x82 : Bool) : Option ((List Td18) × Unit) := (if x82 = true then (if (y81.length + 1) * 32 ≤ 140737488355328 then (g_c11 (y81 ++ [((y15_0, y15_1), (y14_0, y14_1))]) y9_0 y9_1 y9_2 x1 x17 x18 x19 x2 x23) else none) else (g_c11 y81 y9_0 y9_1 y9_2 x1 x17 x18 x19 x2 x23))
theorem f19_c11_P (k : Nat) (G_l0 G_l2 : f19_S) : f19_o_c11 (fun σ => f19_a k (f19_F_c11 k G_l0 G_l2) .nx σ) = f19_c11_B k (f19_o_l2 G_l2) := by kernel_rfl
def f19_c11 (k : Nat) (r_l2 : f19_t_l2) (r_l0 : f19_t_l0) : f19_t_c11 := f19_c11_B k r_l2
theorem f19_c11_E (k : Nat) (R_l2 R_l0 : f19_S) : f19_o_c11 (f19_C_c11 k R_l2 R_l0) = f19_c11 k (f19_o_l2 R_l2) (f19_o_l0 R_l0) :=
 Eq.trans (congrArg f19_o_c11 (ap_fn (f19_f_c11 k R_l2 R_l0))) ((f19_c11_P k R_l0 R_l2).trans (by rfl))
theorem f19_r12_P (k : Nat) (G_l0 G_l2 G_c11 : f19_S) : f19_o_r12 (fun σ => f19_a k (f19_F_r12 k G_l0 G_l2 G_c11) .nx σ) = f19_r12_B k (f19_o_c11 G_c11) := by kernel_rfl
def f19_r12 (k : Nat) (r_l2 : f19_t_l2) (r_l0 : f19_t_l0) : f19_t_r12 := f19_r12_B k (f19_c11 k r_l2 r_l0)
theorem f19_r12_E (k : Nat) (R_l2 R_l0 : f19_S) : f19_o_r12 (f19_C_r12 k R_l2 R_l0) = f19_r12 k (f19_o_l2 R_l2) (f19_o_l0 R_l0) :=
 Eq.trans (congrArg f19_o_r12 (ap_fn (f19_f_r12 k R_l2 R_l0))) ((f19_r12_P k R_l0 R_l2 (f19_C_c11 k R_l2 R_l0)).trans (by rw [f19_c11_E k R_l2 R_l0] <;> rfl))
theorem f19_r10_P (k : Nat) (G_l0 G_l2 G_c11 G_r12 : f19_S) : f19_o_r10 (fun σ => f19_a k (f19_F_r10 k G_l0 G_l2 G_c11 G_r12) .nx σ) = f19_r10_B k (f19_o_c11 G_c11) (f19_o_r12 G_r12) := by kernel_rfl
def f19_r10 (k : Nat) (r_l2 : f19_t_l2) (r_l0 : f19_t_l0) : f19_t_r10 := f19_r10_B k (f19_c11 k r_l2 r_l0) (f19_r12 k r_l2 r_l0)
theorem f19_r10_E (k : Nat) (R_l2 R_l0 : f19_S) : f19_o_r10 (f19_C_r10 k R_l2 R_l0) = f19_r10 k (f19_o_l2 R_l2) (f19_o_l0 R_l0) :=
 Eq.trans (congrArg f19_o_r10 (ap_fn (f19_f_r10 k R_l2 R_l0))) ((f19_r10_P k R_l0 R_l2 (f19_C_c11 k R_l2 R_l0) (f19_C_r12 k R_l2 R_l0)).trans (by rw [f19_c11_E k R_l2 R_l0, f19_r12_E k R_l2 R_l0] <;> rfl))
theorem f19_l2_P (k : Nat) (G_l0 G_l2 G_r10 G_c11 G_r12 : f19_S) : f19_o_l2 (fun σ => f19_a k (f19_F_l2 k G_l0 G_l2 G_r10 G_c11 G_r12) .nx σ) = f19_l2_B k (f19_o_l0 G_l0) (f19_o_r10 G_r10) := by kernel_rfl
def f19_l2 (k : Nat) (r_l0 : f19_t_l0) : Nat → f19_t_l2
 | 0 => fun _ _ _ _ _ _ _ _ _ _ => none
 | n + 1 => f19_l2_B k r_l0 (f19_r10 k (f19_l2 k r_l0 n) r_l0)
theorem f19_l2_E (k : Nat) (R_l0 : f19_S) : ∀ n, f19_o_l2 (f19_C_l2 k R_l0 n) = f19_l2 k (f19_o_l0 R_l0) n
 | 0 => rfl
 | n + 1 =>
   Eq.trans (congrArg f19_o_l2 (Eq.trans (b := fun σ => f19_a k (f19_Q_l2 k R_l0 (f19_C_l2 k R_l0 n)) .nx σ) lp_step (ap_fn (f19_f_l2 k R_l0 (f19_C_l2 k R_l0 n))))) ((f19_l2_P k R_l0 (f19_C_l2 k R_l0 n) (f19_C_r10 k (f19_C_l2 k R_l0 n) R_l0) (f19_C_c11 k (f19_C_l2 k R_l0 n) R_l0) (f19_C_r12 k (f19_C_l2 k R_l0 n) R_l0)).trans (by rw [f19_r10_E k (f19_C_l2 k R_l0 n) R_l0, f19_l2_E k R_l0 n] <;> rfl))
theorem f19_l0_P (k : Nat) (G_l0 G_l2 : f19_S) : f19_o_l0 (fun σ => f19_a k (f19_F_l0 k G_l0 G_l2) .nx σ) = f19_l0_B k (f19_o_l2 G_l2) := by kernel_rfl
def f19_l0 (k : Nat) : Nat → f19_t_l0
 | 0 => fun _ _ _ _ _ _ => none
 | n + 1 => f19_l0_B k (f19_l2 k (f19_l0 k n) k)
theorem f19_l0_E (k : Nat) : ∀ n, f19_o_l0 (f19_C_l0 k n) = f19_l0 k n
 | 0 => rfl
 | n + 1 =>
   Eq.trans (congrArg f19_o_l0 (Eq.trans (b := fun σ => f19_a k (f19_Q_l0 k (f19_C_l0 k n)) .nx σ) lp_step (ap_fn (f19_f_l0 k (f19_C_l0 k n))))) ((f19_l0_P k (f19_C_l0 k n) (f19_C_l2 k (f19_C_l0 k n) k)).trans (by rw [f19_l2_E k (f19_C_l0 k n) k, f19_l0_E k n] <;> rfl))
theorem f19_entry_P (k : Nat) (G_l0 : f19_S) (xs : DL f19_sig) : f19_a k (.c (f19_p 2) 0 :: .c (f19_p 6) 0 :: .c (f19_p 28) 0 :: .j (fun σ => f19_a k (.j (fun σ => G_l0 (cut f19_A.loops 0 σ)) :: .blk 0 :: .c (f19_p 15) 0 :: []) .nx σ) :: .c (f19_p 15) 0 :: []) .nx (σ0 114 352 f19_sig xs) = f19_entry_B k (f19_o_l0 G_l0) xs.1 xs.2.1 xs.2.2.1 := by kernel_rfl
def f19 (k : Nat) (a0 : Td8) (a1 : (List Int)) (a2 : Int) : Option ((List Td18) × Unit) := f19_entry_B k (f19_l0 k k) a0 a1 a2
theorem f19_fe (k : Nat) : f19_a k [.c (f19_p 1) 0] = f19_a k (.c (f19_p 2) 0 :: .c (f19_p 6) 0 :: .c (f19_p 28) 0 :: .j (fun σ => f19_a k (.j (fun σ => (f19_C_l0 k k) (cut f19_A.loops 0 σ)) :: .blk 0 :: .c (f19_p 15) 0 :: []) .nx σ) :: .c (f19_p 15) 0 :: []) := (Eq.trans ap_sq (ap_cons _ (Eq.trans ap_sq (ap_cons _ (Eq.trans ap_sq (Eq.trans ap_sq (ap_cons _ (Eq.trans (ap_bl 0) (Eq.trans (ap_j (Eq.trans (ap_lp (C := (f19_C_l0 k)) (fun _ _ => rfl)) (ap_cons _ (ap_cons _ (ap_cons _ rfl))))) (ap_cons _ (ap_cons _ rfl)))))))))))
theorem f19_eq (k : Nat) (xs : DL f19_sig) : den T f19_Y (f19_E k) f19_A k f19_c 0 (σ0 114 352 f19_sig xs) (Kfin T f19_rs f19_ts) = f19 k xs.1 xs.2.1 xs.2.2.1 :=
 Eq.trans (Eq.trans den_sb (ap_at (f19_fe k) _)) ((f19_entry_P k (f19_C_l0 k k) xs).trans (by rw [f19_l0_E k k] <;> rfl))
def f19_con (k : Nat) : Con := ⟨f19_sig, f19_rs, fun xs => f19 k xs.1 xs.2.1 xs.2.2.1⟩
theorem f19_ok (k : Nat) : PureOK Try.prog 19 f19_sig f19_rs (fun xs => f19 k xs.1 xs.2.1 xs.2.2.1) :=
 (pure_of_den (k := k) (A := f19_A) (T := T) (Y := f19_Y) (E := f19_E k) (M := 352) (ts := f19_ts) T_ok trivial trivial mixed (f := 19) (fn := Try.f19) (c := f19_c) (by kernel_rfl) (by kernel_rfl) (by kernel_rfl) (by decide) (by kernel_rfl)).congr fun xs => (f19_eq k xs).symm
theorem f19_ent : Ent Try.prog 19 := fun args w => by kernel_rfl
def f20_c : Code := Try.f20.body.getD .skip
abbrev f20_p (n : Nat) : Code := sb f20_c n
abbrev f20_sig : List PT := [(false, Tq19), (false, Tq19)]
abbrev f20_rs : List RT := [.d false .bool]
abbrev f20_ts : List RV := [.tmp 4]
abbrev f20_S := St → Option (RDL f20_rs)
abbrev f20_L := List (Fr (RDL f20_rs))
def f20_Y : Tys := []
def f20_E (k : Nat) : Env := []
def f20_A : Ann := { loops := [(0, { slots := [(0, .val false Tq17), (1, .val false Tq17), (12, .id), (13, .id)] })] }
abbrev f20_a (k : Nat) (F : f20_L) : Kont (RDL f20_rs) := ap T f20_Y (f20_E k) f20_A k (Kfin T f20_rs f20_ts) F
def f20_s_l0 (x0 x1 : (List ((Int × Int) × (Int × Int)))) (x12 x13 : Int) : St := mkS 26 80 [(0, aV Tq17 x0), (1, aV Tq17 x1), (12, aI x12), (13, aI x13)] []
abbrev f20_t_l0 := (List ((Int × Int) × (Int × Int))) → (List ((Int × Int) × (Int × Int))) → Int → Int → Option (Bool × Unit)
abbrev f20_o_l0 (R : f20_S) : f20_t_l0 := (fun x0 x1 x12 x13 => R (f20_s_l0 x0 x1 x12 x13))
def f20_Q_l0 (k : Nat) (R_l0 : f20_S) : f20_L := [.c (f20_p 116) 0, .j (fun σ => R_l0 (cut f20_A.loops 0 σ)), .blk 0, .c (f20_p 15) 0]
def f20_C_l0 (k n : Nat) (σ : St) : Option (RDL f20_rs) := loopK (fun σ K => den T f20_Y (f20_E k) f20_A k (f20_p 116) 0 σ K) (cut f20_A.loops 0) (f20_a k [.blk 0, .c (f20_p 15) 0]) n σ
def f20_F_l0 (k : Nat) (G_l0 : f20_S) : f20_L := .c (f20_p 116) 0 :: .j (fun σ => G_l0 (cut f20_A.loops 0 σ)) :: .blk 0 :: .c (f20_p 15) 0 :: []
theorem f20_f_l0 (k : Nat) (R_l0 : f20_S) : f20_a k (f20_Q_l0 k R_l0) = f20_a k (f20_F_l0 k R_l0) := (ap_cons _ (ap_cons _ (ap_cons _ (ap_cons _ rfl))))
def f20_entry_B (k : Nat) (g_l0 : f20_t_l0) (a0 a1 : (List Td18)) : Option (Bool × Unit) := (if ¬ ((a0.length : Int) = (a1.length : Int)) then some (false, ()) else (g_l0 a0 a1 (a0.length : Int) 0))
def f20_l0_B (k : Nat) (g_l0 : f20_t_l0) (x0 x1 : (List ((Int × Int) × (Int × Int)))) (x12 x13 : Int) : Option (Bool × Unit) := (if x13 < x12 then (if 0 ≤ x13 then (if x13 < (x0.length : Int) then (if 0 ≤ x13 then (if x13 < (x1.length : Int) then (if ¬ ((((((x0.getD (x13).toNat ((0, 0), (0, 0))).1).1) = (((x1.getD (x13).toNat ((0, 0), (0, 0))).1).1)) ∧ ((((x0.getD (x13).toNat ((0, 0), (0, 0))).1).2) = (((x1.getD (x13).toNat ((0, 0), (0, 0))).1).2))) ∧ (((((x0.getD (x13).toNat ((0, 0), (0, 0))).2).1) = (((x1.getD (x13).toNat ((0, 0), (0, 0))).2).1)) ∧ ((((x0.getD (x13).toNat ((0, 0), (0, 0))).2).2) = (((x1.getD (x13).toNat ((0, 0), (0, 0))).2).2)))) then some (false, ()) else (g_l0 x0 x1 x12 (w64 (x13 + 1)))) else none) else none) else none) else none) else some (true, ()))
theorem f20_l0_P (k : Nat) (G_l0 : f20_S) : f20_o_l0 (fun σ => f20_a k (f20_F_l0 k G_l0) .nx σ) = f20_l0_B k (f20_o_l0 G_l0) := by kernel_rfl
def f20_l0 (k : Nat) : Nat → f20_t_l0
 | 0 => fun _ _ _ _ => none
 | n + 1 => f20_l0_B k (f20_l0 k n)
theorem f20_l0_E (k : Nat) : ∀ n, f20_o_l0 (f20_C_l0 k n) = f20_l0 k n
 | 0 => rfl
 | n + 1 =>
   Eq.trans (congrArg f20_o_l0 (Eq.trans (b := fun σ => f20_a k (f20_Q_l0 k (f20_C_l0 k n)) .nx σ) lp_step (ap_fn (f20_f_l0 k (f20_C_l0 k n))))) ((f20_l0_P k (f20_C_l0 k n)).trans (by rw [f20_l0_E k n] <;> rfl))
theorem f20_entry_P (k : Nat) (G_l0 : f20_S) (xs : DL f20_sig) : f20_a k (.c (f20_p 2) 0 :: .c (f20_p 6) 0 :: .c (f20_p 28) 0 :: .j (fun σ => f20_a k (.j (fun σ => G_l0 (cut f20_A.loops 0 σ)) :: .blk 0 :: .c (f20_p 15) 0 :: []) .nx σ) :: .c (f20_p 15) 0 :: []) .nx (σ0 26 80 f20_sig xs) = f20_entry_B k (f20_o_l0 G_l0) xs.1 xs.2.1 := by kernel_rfl
def f20 (k : Nat) (a0 a1 : (List Td18)) : Option (Bool × Unit) := f20_entry_B k (f20_l0 k k) a0 a1
theorem f20_fe (k : Nat) : f20_a k [.c (f20_p 1) 0] = f20_a k (.c (f20_p 2) 0 :: .c (f20_p 6) 0 :: .c (f20_p 28) 0 :: .j (fun σ => f20_a k (.j (fun σ => (f20_C_l0 k k) (cut f20_A.loops 0 σ)) :: .blk 0 :: .c (f20_p 15) 0 :: []) .nx σ) :: .c (f20_p 15) 0 :: []) := (Eq.trans ap_sq (ap_cons _ (Eq.trans ap_sq (ap_cons _ (Eq.trans ap_sq (Eq.trans ap_sq (ap_cons _ (Eq.trans (ap_bl 0) (Eq.trans (ap_j (Eq.trans (ap_lp (C := (f20_C_l0 k)) (fun _ _ => rfl)) (ap_cons _ (ap_cons _ (ap_cons _ rfl))))) (ap_cons _ (ap_cons _ rfl)))))))))))
theorem f20_eq (k : Nat) (xs : DL f20_sig) : den T f20_Y (f20_E k) f20_A k f20_c 0 (σ0 26 80 f20_sig xs) (Kfin T f20_rs f20_ts) = f20 k xs.1 xs.2.1 :=
 Eq.trans (Eq.trans den_sb (ap_at (f20_fe k) _)) ((f20_entry_P k (f20_C_l0 k k) xs).trans (by rw [f20_l0_E k k] <;> rfl))
def f20_con (k : Nat) : Con := ⟨f20_sig, f20_rs, fun xs => f20 k xs.1 xs.2.1⟩
theorem f20_ok (k : Nat) : PureOK Try.prog 20 f20_sig f20_rs (fun xs => f20 k xs.1 xs.2.1) :=
 (pure_of_den (k := k) (A := f20_A) (T := T) (Y := f20_Y) (E := f20_E k) (M := 80) (ts := f20_ts) T_ok trivial trivial mixed (f := 20) (fn := Try.f20) (c := f20_c) (by kernel_rfl) (by kernel_rfl) (by kernel_rfl) (by decide) (by kernel_rfl)).congr fun xs => (f20_eq k xs).symm
theorem f20_ent : Ent Try.prog 20 := fun args w => by kernel_rfl
def f4_c : Code := Try.f4.body.getD .skip
abbrev f4_p (n : Nat) : Code := sb f4_c n
abbrev f4_sig : List PT := [(true, Tq5), (false, Tq0), (false, (.int .i64))]
abbrev f4_rs : List RT := [.d false .bool]
abbrev f4_ts : List RV := [.tmp 6]
abbrev f4_S := St → Option (RDL f4_rs)
abbrev f4_L := List (Fr (RDL f4_rs))
def f4_Y : Tys := []
def f4_E (k : Nat) : Env := [(12, .c (f12_con k)), (17, .c (f17_con k)), (18, .c (f18_con k)), (19, .c (f19_con k)), (20, .c (f20_con k))]
def f4_A : Ann := { conds := [(5, { mat := [(10, 27, Tq17)], slots := [(7, .id), (8, .id), (9, .id), (10, .id)], keys := [(15, []), (27, [])] })], regs := [(6, { slots := [(6, .bool)] })] }
abbrev f4_a (k : Nat) (F : f4_L) : Kont (RDL f4_rs) := ap T f4_Y (f4_E k) f4_A k (Kfin T f4_rs f4_ts) F
def f4_s_c5 (y15 y27 : (List ((Int × Int) × (Int × Int)))) (x8 x9 : Int) : St := mkS 39 128 [(7, aO 15), (8, aI x8), (9, aI x9), (10, aO 27)] [(15, .vec Tq17 y15), (27, .vec Tq17 y27)]
abbrev f4_t_c5 := (List ((Int × Int) × (Int × Int))) → (List ((Int × Int) × (Int × Int))) → Int → Int → Option (Bool × Unit)
abbrev f4_o_c5 (R : f4_S) : f4_t_c5 := (fun y15 y27 x8 x9 => R (f4_s_c5 y15 y27 x8 x9))
def f4_Q_c5 (k : Nat) : f4_L := [.c (f4_p 63) 0]
def f4_C_c5 (k : Nat) : f4_S := fun σ => f4_a k (f4_Q_c5 k) .nx σ
def f4_s_r6 (x6 : Bool) : St := mkS 39 128 [(6, aB x6)] []
abbrev f4_t_r6 := Bool → Option (Bool × Unit)
abbrev f4_o_r6 (R : f4_S) : f4_t_r6 := (fun x6 => R (f4_s_r6 x6))
def f4_Q_r6 (k : Nat) : f4_L := [.c (f4_p 127) 0]
def f4_C_r6 (k : Nat) : f4_S := fun σ => f4_a k (f4_Q_r6 k) .nx σ
def f4_F_r6 (k : Nat) : f4_L := .c (f4_p 127) 0 :: []
theorem f4_f_r6 (k : Nat) : f4_a k (f4_Q_r6 k) = f4_a k (f4_F_r6 k) := (ap_cons _ rfl)
def f4_F_c5 (k : Nat) (G_r6 : f4_S) : f4_L := .c (f4_p 126) 0 :: .j G_r6 :: f4_F_r6 k
theorem f4_f_c5 (k : Nat) : f4_a k (f4_Q_c5 k) = f4_a k (f4_F_c5 k (f4_C_r6 k)) := (Eq.trans ap_sq (ap_cons _ (Eq.trans (ap_pass (C := (f4_C_r6 k)) (fun _ => rfl)) (ap_cons _ (f4_f_r6 k)))))
def f4_entry_B (k : Nat) (g_c5 : f4_t_c5) (a0 : Td8) (a1 : (List Int)) (a2 : Int) : Option (Bool × Unit) := ((f17 k (a0.1, a0.2) a1 a2).bind fun r1 => ((f18 k (a0.1, a0.2) a1 a2).bind fun r2 => (if r2.1 = 0 then ((f19 k (a0.1, a0.2) a1 a2).bind fun r3 => (g_c5 r1.1 r3.1 r1.2.1 r2.1)) else (g_c5 r1.1 ([] : List ((Int × Int) × (Int × Int))) r1.2.1 r2.1))))
def f4_c5_B (k : Nat) (g_r6 : f4_t_r6) (y15 y27 : (List ((Int × Int) × (Int × Int)))) (x8 x9 : Int) : Option (Bool × Unit) := ((f12 k ).bind fun r1 => (if r1.1 = true then (if x8 = x9 then ((f20 k y15 y27).bind fun r2 => (g_r6 (decide (r2.1 = true)))) else (g_r6 false)) else (g_r6 false)))
def f4_r6_B (k : Nat) (x6 : Bool) : Option (Bool × Unit) := some (decide (x6 = true), ())
theorem f4_r6_P (k : Nat) : f4_o_r6 (fun σ => f4_a k (f4_F_r6 k) .nx σ) = f4_r6_B k := by kernel_rfl
def f4_r6 (k : Nat) : f4_t_r6 := f4_r6_B k
theorem f4_r6_E (k : Nat) : f4_o_r6 (f4_C_r6 k) = f4_r6 k :=
 Eq.trans (congrArg f4_o_r6 (ap_fn (f4_f_r6 k))) ((f4_r6_P k).trans (by rfl))
theorem f4_c5_P (k : Nat) (G_r6 : f4_S) : f4_o_c5 (fun σ => f4_a k (f4_F_c5 k G_r6) .nx σ) = f4_c5_B k (f4_o_r6 G_r6) := by kernel_rfl
def f4_c5 (k : Nat) : f4_t_c5 := f4_c5_B k (f4_r6 k)
theorem f4_c5_E (k : Nat) : f4_o_c5 (f4_C_c5 k) = f4_c5 k :=
 Eq.trans (congrArg f4_o_c5 (ap_fn (f4_f_c5 k))) ((f4_c5_P k (f4_C_r6 k)).trans (by rw [f4_r6_E k] <;> rfl))
theorem f4_entry_P (k : Nat) (G_c5 G_r6 : f4_S) (xs : DL f4_sig) : f4_a k (.c (f4_p 2) 0 :: .c (f4_p 6) 0 :: .c (f4_p 14) 0 :: .c (f4_p 30) 0 :: .c (f4_p 124) 0 :: .c (f4_p 125) 0 :: .j G_c5 :: f4_F_c5 k G_r6) .nx (σ0 39 128 f4_sig xs) = f4_entry_B k (f4_o_c5 G_c5) xs.1 xs.2.1 xs.2.2.1 := by kernel_rfl
def f4 (k : Nat) (a0 : Td8) (a1 : (List Int)) (a2 : Int) : Option (Bool × Unit) := f4_entry_B k (f4_c5 k) a0 a1 a2
theorem f4_fe (k : Nat) : f4_a k [.c (f4_p 1) 0] = f4_a k (.c (f4_p 2) 0 :: .c (f4_p 6) 0 :: .c (f4_p 14) 0 :: .c (f4_p 30) 0 :: .c (f4_p 124) 0 :: .c (f4_p 125) 0 :: .j (f4_C_c5 k) :: f4_F_c5 k (f4_C_r6 k)) := (Eq.trans ap_sq (ap_cons _ (Eq.trans ap_sq (ap_cons _ (Eq.trans ap_sq (ap_cons _ (Eq.trans ap_sq (ap_cons _ (Eq.trans ap_sq (Eq.trans ap_sq (ap_cons _ (ap_cons _ (Eq.trans (ap_pass (C := (f4_C_c5 k)) (fun _ => rfl)) (ap_cons _ (f4_f_c5 k)))))))))))))))
theorem f4_eq (k : Nat) (xs : DL f4_sig) : den T f4_Y (f4_E k) f4_A k f4_c 0 (σ0 39 128 f4_sig xs) (Kfin T f4_rs f4_ts) = f4 k xs.1 xs.2.1 xs.2.2.1 :=
 Eq.trans (Eq.trans den_sb (ap_at (f4_fe k) _)) ((f4_entry_P k (f4_C_c5 k) (f4_C_r6 k) xs).trans (by rw [f4_c5_E k] <;> rfl))
def f4_con (k : Nat) : Con := ⟨f4_sig, f4_rs, fun xs => f4 k xs.1 xs.2.1 xs.2.2.1⟩
theorem f4_ok (k : Nat) : PureOK Try.prog 4 f4_sig f4_rs (fun xs => f4 k xs.1 xs.2.1 xs.2.2.1) :=
 (pure_of_den (k := k) (A := f4_A) (T := T) (Y := f4_Y) (E := f4_E k) (M := 128) (ts := f4_ts) T_ok ⟨f12_ok k, f17_ok k, f18_ok k, f19_ok k, f20_ok k, trivial⟩ ⟨f12_ent, f17_ent, f18_ent, f19_ent, f20_ent, trivial⟩ mixed (f := 4) (fn := Try.f4) (c := f4_c) (by kernel_rfl) (by kernel_rfl) (by kernel_rfl) (by decide) (by kernel_rfl)).congr fun xs => (f4_eq k xs).symm
theorem f4_ent : Ent Try.prog 4 := fun args w => by kernel_rfl
def Pure_ReliefContours : Prop := ∀ xs : DL f4_sig, wfs f4_sig xs → ∃ k, f4 k xs.1 xs.2.1 xs.2.2.1 = some (true, ())
end
end Go.Proofs.Ytollcjadobpfdaa.Rw
