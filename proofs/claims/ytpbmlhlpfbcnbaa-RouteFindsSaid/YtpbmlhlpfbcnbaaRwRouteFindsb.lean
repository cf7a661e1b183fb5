/- What the functions that the law RouteFinds reaches come to, part 2. No condition. -/
import Derived.Test.YtpbmlhlpfbcnbaaRwRouteFindsa
namespace Go.Proofs.Ytpbmlhlpfbcnbaa.Rw
open Go.Rx Go.Proofs
set_option linter.unusedVariables false
set_option maxRecDepth 100000
/-! ### terrier/terrref4.Ways: function 48 -/
noncomputable def f48_c : Code := Try.f48.body.getD .skip
noncomputable abbrev f48_p (n : Nat) : Code := sb f48_c n
abbrev f48_sig : List PT := [(true, Tq8), (false, (.int .i64))]
abbrev f48_rs : List RT := [.new Tq29]
abbrev f48_ts : List RV := [.tmp 4]
abbrev f48_S := St → Option (RDL f48_rs)
abbrev f48_L := List (Fr (RDL f48_rs))
def f48_Y : Tys := [(3, (.int .i64)), (68, Tq29)]
noncomputable def f48_E (k : Nat) : Env := [(78, .c (f78u_con k)), (102, .c (f102_con k)), (111, .c (f111_con k))]
def f48_A : Ann := { loops := [(0, { slots := [(1, .id), (2, .id), (5, .id), (18, .val false Tq5), (19, .id), (20, .id)], keys := [(2, [.val false Tq1, .val false Tq5, .val false Tq1]), (16, [])] }), (2, { slots := [(2, .id), (5, .id), (8, .bool)], keys := [(2, [.val false Tq1, .val false Tq5, .val false Tq1]), (16, [])] }), (4, { slots := [(2, .id), (5, .id), (8, .bool), (41, .id), (42, .id)], keys := [(2, [.val false Tq1, .val false Tq5, .val false Tq1]), (16, [])] }), (6, { slots := [(2, .id), (5, .id), (8, .bool), (9, .id), (41, .id), (42, .id), (46, .val false Tq5), (47, .id), (48, .id)], keys := [(2, [.val false Tq1, .val false Tq5, .val false Tq1]), (16, [])] })], conds := [(6, { slots := [(1, .id), (2, .id), (5, .id), (18, .val false Tq5), (19, .id), (20, .id)], keys := [(2, [.val false Tq1, .val false Tq5, .val false Tq1]), (16, [])] }), (20, { slots := [(2, .id), (5, .id), (8, .bool), (9, .id), (41, .id), (42, .id), (46, .val false Tq5), (47, .id), (48, .id)], keys := [(2, [.val false Tq1, .val false Tq5, .val false Tq1]), (16, [])] })], regs := [(17, { slots := [(2, .id), (5, .id), (8, .bool), (9, .id), (10, .id), (11, .id), (41, .id), (42, .id), (46, .val false Tq5), (47, .id), (48, .id), (66, .bool)], keys := [(2, [.val false Tq1, .val false Tq5, .val false Tq1]), (11, []), (16, [])] }), (19, { slots := [(2, .id), (5, .id), (8, .bool), (9, .id), (10, .id), (12, .id), (41, .id), (42, .id), (46, .val false Tq5), (47, .id), (48, .id), (99, .bool)], keys := [(2, [.val false Tq1, .val false Tq5, .val false Tq1]), (12, []), (16, []), (80, [])] })], blks := [(7, { slots := [(2, .id), (5, .id), (8, .bool), (9, .id), (41, .id), (42, .id), (46, .val false Tq5), (47, .id), (48, .id)], keys := [(2, [.val false Tq1, .val false Tq5, .val false Tq1]), (16, [])] })] }
noncomputable abbrev f48_a (k : Nat) (F : f48_L) : Kont (RDL f48_rs) := ap T f48_Y (f48_E k) f48_A k (Kfin T f48_rs f48_ts) F
def f48_s_l0 (y16 : (List (Int × (List Int)))) (y2_0 : (List (Int × Int))) (y2_1 : (List (Int × (Int × (Int × Int))))) (y2_2 : (List (Int × Int))) (x1 : Int) (x19 : Int) (x20 : Int) : St := mkS 107 336 [(1, aI x1), (2, aP 2), (5, aO 16), (18, aV Tq5 y2_1), (19, aI x19), (20, aI x20)] [(2, .box [cV Tq1 y2_0, cV Tq5 y2_1, cV Tq1 y2_2]), (16, .vec Tq29 y16)]
abbrev f48_t_l0 := (List (Int × (List Int))) → (List (Int × Int)) → (List (Int × (Int × (Int × Int)))) → (List (Int × Int)) → Int → Int → Int → Option ((List Td30) × Unit)
abbrev f48_o_l0 (R : f48_S) : f48_t_l0 := (fun y16 y2_0 y2_1 y2_2 x1 x19 x20 => R (f48_s_l0 y16 y2_0 y2_1 y2_2 x1 x19 x20))
noncomputable def f48_Q_l0 (k : Nat) (R_l0 : f48_S) : f48_L := [.c (f48_p 116) 0, .j (fun σ => R_l0 (cut f48_A.loops 0 σ)), .blk 0, .c (f48_p 15) 0]
noncomputable def f48_C_l0 (k : Nat) (n : Nat) (σ : St) : Option (RDL f48_rs) := loopK (fun σ K => den T f48_Y (f48_E k) f48_A k (f48_p 116) 0 σ K) (cut f48_A.loops 0) (f48_a k [.blk 0, .c (f48_p 15) 0]) n σ
def f48_s_c6 (y16 : (List (Int × (List Int)))) (y2_0 : (List (Int × Int))) (y2_1 : (List (Int × (Int × (Int × Int))))) (y2_2 : (List (Int × Int))) (x1 : Int) (x19 : Int) (x20 : Int) : St := mkS 107 336 [(1, aI x1), (2, aP 2), (5, aO 16), (18, aV Tq5 y2_1), (19, aI x19), (20, aI x20)] [(2, .box [cV Tq1 y2_0, cV Tq5 y2_1, cV Tq1 y2_2]), (16, .vec Tq29 y16)]
abbrev f48_t_c6 := (List (Int × (List Int))) → (List (Int × Int)) → (List (Int × (Int × (Int × Int)))) → (List (Int × Int)) → Int → Int → Int → Option ((List Td30) × Unit)
abbrev f48_o_c6 (R : f48_S) : f48_t_c6 := (fun y16 y2_0 y2_1 y2_2 x1 x19 x20 => R (f48_s_c6 y16 y2_0 y2_1 y2_2 x1 x19 x20))
noncomputable def f48_Q_c6 (k : Nat) (R_l0 : f48_S) : f48_L := [.blk 1, .c (f48_p 935) 0, .j (fun σ => R_l0 (cut f48_A.loops 0 σ)), .blk 0, .c (f48_p 15) 0]
noncomputable def f48_C_c6 (k : Nat) (R_l0 : f48_S) : f48_S := fun σ => f48_a k (f48_Q_c6 k R_l0) .nx σ
def f48_s_l2 (y16 : (List (Int × (List Int)))) (y2_0 : (List (Int × Int))) (y2_1 : (List (Int × (Int × (Int × Int))))) (y2_2 : (List (Int × Int))) (x8 : Bool) : St := mkS 107 336 [(2, aP 2), (5, aO 16), (8, aB x8)] [(2, .box [cV Tq1 y2_0, cV Tq5 y2_1, cV Tq1 y2_2]), (16, .vec Tq29 y16)]
abbrev f48_t_l2 := (List (Int × (List Int))) → (List (Int × Int)) → (List (Int × (Int × (Int × Int)))) → (List (Int × Int)) → Bool → Option ((List Td30) × Unit)
abbrev f48_o_l2 (R : f48_S) : f48_t_l2 := (fun y16 y2_0 y2_1 y2_2 x8 => R (f48_s_l2 y16 y2_0 y2_1 y2_2 x8))
noncomputable def f48_Q_l2 (k : Nat) (R_l2 : f48_S) : f48_L := [.c (f48_p 244) 2, .j (fun σ => R_l2 (cut f48_A.loops 2 σ)), .blk 2, .c (f48_p 31) 0]
noncomputable def f48_C_l2 (k : Nat) (n : Nat) (σ : St) : Option (RDL f48_rs) := loopK (fun σ K => den T f48_Y (f48_E k) f48_A k (f48_p 244) 2 σ K) (cut f48_A.loops 2) (f48_a k [.blk 2, .c (f48_p 31) 0]) n σ
def f48_s_l4 (y16 : (List (Int × (List Int)))) (y2_0 : (List (Int × Int))) (y2_1 : (List (Int × (Int × (Int × Int))))) (y2_2 : (List (Int × Int))) (x41 : Int) (x42 : Int) (x8 : Bool) : St := mkS 107 336 [(2, aP 2), (5, aO 16), (8, aB x8), (41, aI x41), (42, aI x42)] [(2, .box [cV Tq1 y2_0, cV Tq5 y2_1, cV Tq1 y2_2]), (16, .vec Tq29 y16)]
abbrev f48_t_l4 := (List (Int × (List Int))) → (List (Int × Int)) → (List (Int × (Int × (Int × Int)))) → (List (Int × Int)) → Int → Int → Bool → Option ((List Td30) × Unit)
abbrev f48_o_l4 (R : f48_S) : f48_t_l4 := (fun y16 y2_0 y2_1 y2_2 x41 x42 x8 => R (f48_s_l4 y16 y2_0 y2_1 y2_2 x41 x42 x8))
noncomputable def f48_Q_l4 (k : Nat) (R_l2 R_l4 : f48_S) : f48_L := [.c (f48_p 15660) 4, .j (fun σ => R_l4 (cut f48_A.loops 4 σ)), .blk 4, .blk 3, .j (fun σ => R_l2 (cut f48_A.loops 2 σ)), .blk 2, .c (f48_p 31) 0]
noncomputable def f48_C_l4 (k : Nat) (R_l2 : f48_S) (n : Nat) (σ : St) : Option (RDL f48_rs) := loopK (fun σ K => den T f48_Y (f48_E k) f48_A k (f48_p 15660) 4 σ K) (cut f48_A.loops 4) (f48_a k [.blk 4, .blk 3, .j (fun σ => R_l2 (cut f48_A.loops 2 σ)), .blk 2, .c (f48_p 31) 0]) n σ
def f48_s_l6 (y16 : (List (Int × (List Int)))) (y2_0 : (List (Int × Int))) (y2_1 : (List (Int × (Int × (Int × Int))))) (y2_2 : (List (Int × Int))) (x41 : Int) (x42 : Int) (x47 : Int) (x48 : Int) (x8 : Bool) : St := mkS 107 336 [(2, aP 2), (5, aO 16), (8, aB x8), (9, aI x42), (41, aI x41), (42, aI x42), (46, aV Tq5 y2_1), (47, aI x47), (48, aI x48)] [(2, .box [cV Tq1 y2_0, cV Tq5 y2_1, cV Tq1 y2_2]), (16, .vec Tq29 y16)]
abbrev f48_t_l6 := (List (Int × (List Int))) → (List (Int × Int)) → (List (Int × (Int × (Int × Int)))) → (List (Int × Int)) → Int → Int → Int → Int → Bool → Option ((List Td30) × Unit)
abbrev f48_o_l6 (R : f48_S) : f48_t_l6 := (fun y16 y2_0 y2_1 y2_2 x41 x42 x47 x48 x8 => R (f48_s_l6 y16 y2_0 y2_1 y2_2 x41 x42 x47 x48 x8))
noncomputable def f48_Q_l6 (k : Nat) (R_l4 R_l2 R_l6 : f48_S) : f48_L := [.c (f48_p 4009164) 6, .j (fun σ => R_l6 (cut f48_A.loops 6 σ)), .blk 6, .blk 5, .c (f48_p 125287) 4, .j (fun σ => R_l4 (cut f48_A.loops 4 σ)), .blk 4, .blk 3, .j (fun σ => R_l2 (cut f48_A.loops 2 σ)), .blk 2, .c (f48_p 31) 0]
noncomputable def f48_C_l6 (k : Nat) (R_l4 R_l2 : f48_S) (n : Nat) (σ : St) : Option (RDL f48_rs) := loopK (fun σ K => den T f48_Y (f48_E k) f48_A k (f48_p 4009164) 6 σ K) (cut f48_A.loops 6) (f48_a k [.blk 6, .blk 5, .c (f48_p 125287) 4, .j (fun σ => R_l4 (cut f48_A.loops 4 σ)), .blk 4, .blk 3, .j (fun σ => R_l2 (cut f48_A.loops 2 σ)), .blk 2, .c (f48_p 31) 0]) n σ
def f48_s_r17 (y11_0 : Int) (y11_1 : Int) (y11_2 : Int) (y11_3 : Int) (y16 : (List (Int × (List Int)))) (y2_0 : (List (Int × Int))) (y2_1 : (List (Int × (Int × (Int × Int))))) (y2_2 : (List (Int × Int))) (x10 : Int) (x41 : Int) (x42 : Int) (x47 : Int) (x66 : Bool) (x8 : Bool) : St := mkS 107 336 [(2, aP 2), (5, aO 16), (8, aB x8), (9, aI x42), (10, aI x10), (11, aP 11), (41, aI x41), (42, aI x42), (46, aV Tq5 y2_1), (47, aI x47), (48, aI x10), (66, aB x66)] [(2, .box [cV Tq1 y2_0, cV Tq5 y2_1, cV Tq1 y2_2]), (11, .box [cI y11_0, cI y11_1, cI y11_2, cI y11_3]), (16, .vec Tq29 y16)]
abbrev f48_t_r17 := Int → Int → Int → Int → (List (Int × (List Int))) → (List (Int × Int)) → (List (Int × (Int × (Int × Int)))) → (List (Int × Int)) → Int → Int → Int → Int → Bool → Bool → Option ((List Td30) × Unit)
abbrev f48_o_r17 (R : f48_S) : f48_t_r17 := (fun y11_0 y11_1 y11_2 y11_3 y16 y2_0 y2_1 y2_2 x10 x41 x42 x47 x66 x8 => R (f48_s_r17 y11_0 y11_1 y11_2 y11_3 y16 y2_0 y2_1 y2_2 x10 x41 x42 x47 x66 x8))
noncomputable def f48_Q_r17 (k : Nat) (R_l6 R_l4 R_l2 : f48_S) : f48_L := [.c (f48_p 513173093) 7, .c (f48_p 256586547) 7, .blk 7, .c (f48_p 32073319) 6, .j (fun σ => R_l6 (cut f48_A.loops 6 σ)), .blk 6, .blk 5, .c (f48_p 125287) 4, .j (fun σ => R_l4 (cut f48_A.loops 4 σ)), .blk 4, .blk 3, .j (fun σ => R_l2 (cut f48_A.loops 2 σ)), .blk 2, .c (f48_p 31) 0]
noncomputable def f48_C_r17 (k : Nat) (R_l6 R_l4 R_l2 : f48_S) : f48_S := fun σ => f48_a k (f48_Q_r17 k R_l6 R_l4 R_l2) .nx σ
def f48_s_b7 (y16 : (List (Int × (List Int)))) (y2_0 : (List (Int × Int))) (y2_1 : (List (Int × (Int × (Int × Int))))) (y2_2 : (List (Int × Int))) (x41 : Int) (x42 : Int) (x47 : Int) (x48 : Int) (x8 : Bool) : St := mkS 107 336 [(2, aP 2), (5, aO 16), (8, aB x8), (9, aI x42), (41, aI x41), (42, aI x42), (46, aV Tq5 y2_1), (47, aI x47), (48, aI x48)] [(2, .box [cV Tq1 y2_0, cV Tq5 y2_1, cV Tq1 y2_2]), (16, .vec Tq29 y16)]
abbrev f48_t_b7 := (List (Int × (List Int))) → (List (Int × Int)) → (List (Int × (Int × (Int × Int)))) → (List (Int × Int)) → Int → Int → Int → Int → Bool → Option ((List Td30) × Unit)
abbrev f48_o_b7 (R : f48_S) : f48_t_b7 := (fun y16 y2_0 y2_1 y2_2 x41 x42 x47 x48 x8 => R (f48_s_b7 y16 y2_0 y2_1 y2_2 x41 x42 x47 x48 x8))
noncomputable def f48_Q_b7 (k : Nat) (R_l6 R_l4 R_l2 : f48_S) : f48_L := [.c (f48_p 32073319) 6, .j (fun σ => R_l6 (cut f48_A.loops 6 σ)), .blk 6, .blk 5, .c (f48_p 125287) 4, .j (fun σ => R_l4 (cut f48_A.loops 4 σ)), .blk 4, .blk 3, .j (fun σ => R_l2 (cut f48_A.loops 2 σ)), .blk 2, .c (f48_p 31) 0]
noncomputable def f48_C_b7 (k : Nat) (R_l6 R_l4 R_l2 : f48_S) : f48_S := fun σ => f48_a k (f48_Q_b7 k R_l6 R_l4 R_l2) .nx σ
def f48_s_r19 (y12_0 : Int) (y16 : (List (Int × (List Int)))) (y2_0 : (List (Int × Int))) (y2_1 : (List (Int × (Int × (Int × Int))))) (y2_2 : (List (Int × Int))) (y80 : (List Int)) (x10 : Int) (x41 : Int) (x42 : Int) (x47 : Int) (x8 : Bool) (x99 : Bool) : St := mkS 107 336 [(2, aP 2), (5, aO 16), (8, aB x8), (9, aI x42), (10, aI x10), (12, aP 12), (41, aI x41), (42, aI x42), (46, aV Tq5 y2_1), (47, aI x47), (48, aI x10), (99, aB x99)] [(2, .box [cV Tq1 y2_0, cV Tq5 y2_1, cV Tq1 y2_2]), (12, .box [cI y12_0, .own 80]), (16, .vec Tq29 y16), (80, .vec (.int .i64) y80)]
abbrev f48_t_r19 := Int → (List (Int × (List Int))) → (List (Int × Int)) → (List (Int × (Int × (Int × Int)))) → (List (Int × Int)) → (List Int) → Int → Int → Int → Int → Bool → Bool → Option ((List Td30) × Unit)
abbrev f48_o_r19 (R : f48_S) : f48_t_r19 := (fun y12_0 y16 y2_0 y2_1 y2_2 y80 x10 x41 x42 x47 x8 x99 => R (f48_s_r19 y12_0 y16 y2_0 y2_1 y2_2 y80 x10 x41 x42 x47 x8 x99))
noncomputable def f48_Q_r19 (k : Nat) (R_l6 R_l4 R_l2 : f48_S) : f48_L := [.c (f48_p 1026346191) 7, .blk 7, .c (f48_p 32073319) 6, .j (fun σ => R_l6 (cut f48_A.loops 6 σ)), .blk 6, .blk 5, .c (f48_p 125287) 4, .j (fun σ => R_l4 (cut f48_A.loops 4 σ)), .blk 4, .blk 3, .j (fun σ => R_l2 (cut f48_A.loops 2 σ)), .blk 2, .c (f48_p 31) 0]
noncomputable def f48_C_r19 (k : Nat) (R_l6 R_l4 R_l2 : f48_S) : f48_S := fun σ => f48_a k (f48_Q_r19 k R_l6 R_l4 R_l2) .nx σ
def f48_s_c20 (y16 : (List (Int × (List Int)))) (y2_0 : (List (Int × Int))) (y2_1 : (List (Int × (Int × (Int × Int))))) (y2_2 : (List (Int × Int))) (x41 : Int) (x42 : Int) (x47 : Int) (x48 : Int) (x8 : Bool) : St := mkS 107 336 [(2, aP 2), (5, aO 16), (8, aB x8), (9, aI x42), (41, aI x41), (42, aI x42), (46, aV Tq5 y2_1), (47, aI x47), (48, aI x48)] [(2, .box [cV Tq1 y2_0, cV Tq5 y2_1, cV Tq1 y2_2]), (16, .vec Tq29 y16)]
abbrev f48_t_c20 := (List (Int × (List Int))) → (List (Int × Int)) → (List (Int × (Int × (Int × Int)))) → (List (Int × Int)) → Int → Int → Int → Int → Bool → Option ((List Td30) × Unit)
abbrev f48_o_c20 (R : f48_S) : f48_t_c20 := (fun y16 y2_0 y2_1 y2_2 x41 x42 x47 x48 x8 => R (f48_s_c20 y16 y2_0 y2_1 y2_2 x41 x42 x47 x48 x8))
noncomputable def f48_Q_c20 (k : Nat) (R_l6 R_l4 R_l2 : f48_S) : f48_L := [.blk 7, .c (f48_p 32073319) 6, .j (fun σ => R_l6 (cut f48_A.loops 6 σ)), .blk 6, .blk 5, .c (f48_p 125287) 4, .j (fun σ => R_l4 (cut f48_A.loops 4 σ)), .blk 4, .blk 3, .j (fun σ => R_l2 (cut f48_A.loops 2 σ)), .blk 2, .c (f48_p 31) 0]
noncomputable def f48_C_c20 (k : Nat) (R_l6 R_l4 R_l2 : f48_S) : f48_S := fun σ => f48_a k (f48_Q_c20 k R_l6 R_l4 R_l2) .nx σ
noncomputable def f48_F_c6 (k : Nat) (G_l0 G_l2 : f48_S) : f48_L := .blk 1 :: .c (f48_p 935) 0 :: .j (fun σ => G_l0 (cut f48_A.loops 0 σ)) :: .blk 0 :: .c (f48_p 60) 0 :: .j (fun σ => f48_a k (.j (fun σ => G_l2 (cut f48_A.loops 2 σ)) :: .blk 2 :: .c (f48_p 31) 0 :: []) .nx σ) :: .c (f48_p 31) 0 :: []
theorem f48_f_c6 (k : Nat) (R_l0 : f48_S) : f48_a k (f48_Q_c6 k R_l0) = f48_a k (f48_F_c6 k R_l0 (f48_C_l2 k k)) := (ap_cons _ (ap_cons _ (ap_cons _ (ap_cons _ (Eq.trans ap_sq (Eq.trans ap_sq (ap_cons _ (Eq.trans (ap_bl 2) (Eq.trans (ap_j (Eq.trans (ap_lp (C := (f48_C_l2 k)) (fun _ _ => rfl)) (ap_cons _ (ap_cons _ (ap_cons _ rfl))))) (ap_cons _ (ap_cons _ rfl)))))))))))
noncomputable def f48_F_l0 (k : Nat) (G_l0 G_c6 G_l2 : f48_S) : f48_L := .c (f48_p 232) 0 :: .c (f48_p 466) 0 :: .j (fun σ => f48_a k (.c (f48_p 3736) 1 :: .c (f48_p 7474) 1 :: .c (f48_p 7475) 1 :: .j G_c6 :: f48_F_c6 k G_l0 G_l2) .nx σ) :: .c (f48_p 935) 0 :: .j (fun σ => G_l0 (cut f48_A.loops 0 σ)) :: .blk 0 :: .c (f48_p 60) 0 :: .j (fun σ => f48_a k (.j (fun σ => G_l2 (cut f48_A.loops 2 σ)) :: .blk 2 :: .c (f48_p 31) 0 :: []) .nx σ) :: .c (f48_p 31) 0 :: []
theorem f48_f_l0 (k : Nat) (R_l0 : f48_S) : f48_a k (f48_Q_l0 k R_l0) = f48_a k (f48_F_l0 k R_l0 (f48_C_c6 k R_l0) (f48_C_l2 k k)) := (Eq.trans ap_sq (ap_cons _ (Eq.trans ap_sq (ap_cons _ (Eq.trans ap_sq (Eq.trans (ap_bl 1) (Eq.trans (ap_j (Eq.trans ap_sq (ap_cons _ (Eq.trans ap_sq (ap_cons _ (ap_cons _ (Eq.trans (ap_pass (C := (f48_C_c6 k R_l0)) (fun _ => rfl)) (ap_cons _ (f48_f_c6 k R_l0))))))))) (ap_cons _ (ap_cons _ (ap_cons _ (ap_cons _ (Eq.trans ap_sq (Eq.trans ap_sq (ap_cons _ (Eq.trans (ap_bl 2) (Eq.trans (ap_j (Eq.trans (ap_lp (C := (f48_C_l2 k)) (fun _ _ => rfl)) (ap_cons _ (ap_cons _ (ap_cons _ rfl))))) (ap_cons _ (ap_cons _ rfl))))))))))))))))))
noncomputable def f48_F_l2 (k : Nat) (G_l2 G_l4 : f48_S) : f48_L := .c (f48_p 488) 2 :: .j (fun σ => f48_a k (.c (f48_p 1956) 3 :: .c (f48_p 3914) 3 :: .j (fun σ => f48_a k (.j (fun σ => G_l4 (cut f48_A.loops 4 σ)) :: .blk 4 :: .blk 3 :: .j (fun σ => G_l2 (cut f48_A.loops 2 σ)) :: .blk 2 :: .c (f48_p 31) 0 :: []) .nx σ) :: .blk 3 :: .j (fun σ => G_l2 (cut f48_A.loops 2 σ)) :: .blk 2 :: .c (f48_p 31) 0 :: []) .nx σ) :: .j (fun σ => G_l2 (cut f48_A.loops 2 σ)) :: .blk 2 :: .c (f48_p 31) 0 :: []
theorem f48_f_l2 (k : Nat) (R_l2 : f48_S) : f48_a k (f48_Q_l2 k R_l2) = f48_a k (f48_F_l2 k R_l2 (f48_C_l4 k R_l2 k)) := (Eq.trans ap_sq (ap_cons _ (Eq.trans (ap_bl 3) (Eq.trans (ap_j (Eq.trans ap_sq (ap_cons _ (Eq.trans ap_sq (ap_cons _ (Eq.trans (ap_bl 4) (Eq.trans (ap_j (Eq.trans (ap_lp (C := (f48_C_l4 k R_l2)) (fun _ _ => rfl)) (ap_cons _ (ap_cons _ (ap_cons _ (ap_cons _ (ap_cons _ (ap_cons _ rfl)))))))) (ap_cons _ (ap_cons _ (ap_cons _ (ap_cons _ (ap_cons _ rfl)))))))))))) (ap_cons _ (ap_cons _ (ap_cons _ (ap_cons _ rfl))))))))
noncomputable def f48_F_l4 (k : Nat) (G_l2 G_l4 G_l6 : f48_S) : f48_L := .c (f48_p 31320) 4 :: .c (f48_p 62642) 4 :: .j (fun σ => f48_a k (.c (f48_p 501144) 5 :: .c (f48_p 1002290) 5 :: .j (fun σ => f48_a k (.j (fun σ => G_l6 (cut f48_A.loops 6 σ)) :: .blk 6 :: .blk 5 :: .c (f48_p 125287) 4 :: .j (fun σ => G_l4 (cut f48_A.loops 4 σ)) :: .blk 4 :: .blk 3 :: .j (fun σ => G_l2 (cut f48_A.loops 2 σ)) :: .blk 2 :: .c (f48_p 31) 0 :: []) .nx σ) :: .blk 5 :: .c (f48_p 125287) 4 :: .j (fun σ => G_l4 (cut f48_A.loops 4 σ)) :: .blk 4 :: .blk 3 :: .j (fun σ => G_l2 (cut f48_A.loops 2 σ)) :: .blk 2 :: .c (f48_p 31) 0 :: []) .nx σ) :: .c (f48_p 125287) 4 :: .j (fun σ => G_l4 (cut f48_A.loops 4 σ)) :: .blk 4 :: .blk 3 :: .j (fun σ => G_l2 (cut f48_A.loops 2 σ)) :: .blk 2 :: .c (f48_p 31) 0 :: []
theorem f48_f_l4 (k : Nat) (R_l2 R_l4 : f48_S) : f48_a k (f48_Q_l4 k R_l2 R_l4) = f48_a k (f48_F_l4 k R_l2 R_l4 (f48_C_l6 k R_l4 R_l2 k)) := (Eq.trans ap_sq (ap_cons _ (Eq.trans ap_sq (ap_cons _ (Eq.trans ap_sq (Eq.trans (ap_bl 5) (Eq.trans (ap_j (Eq.trans ap_sq (ap_cons _ (Eq.trans ap_sq (ap_cons _ (Eq.trans (ap_bl 6) (Eq.trans (ap_j (Eq.trans (ap_lp (C := (f48_C_l6 k R_l4 R_l2)) (fun _ _ => rfl)) (ap_cons _ (ap_cons _ (ap_cons _ (ap_cons _ (ap_cons _ (ap_cons _ (ap_cons _ (ap_cons _ (ap_cons _ (ap_cons _ rfl)))))))))))) (ap_cons _ (ap_cons _ (ap_cons _ (ap_cons _ (ap_cons _ (ap_cons _ (ap_cons _ (ap_cons _ (ap_cons _ rfl)))))))))))))))) (ap_cons _ (ap_cons _ (ap_cons _ (ap_cons _ (ap_cons _ (ap_cons _ (ap_cons _ (ap_cons _ rfl)))))))))))))))
noncomputable def f48_F_b7 (k : Nat) (G_l2 G_l4 G_l6 : f48_S) : f48_L := .c (f48_p 32073319) 6 :: .j (fun σ => G_l6 (cut f48_A.loops 6 σ)) :: .blk 6 :: .blk 5 :: .c (f48_p 125287) 4 :: .j (fun σ => G_l4 (cut f48_A.loops 4 σ)) :: .blk 4 :: .blk 3 :: .j (fun σ => G_l2 (cut f48_A.loops 2 σ)) :: .blk 2 :: .c (f48_p 31) 0 :: []
theorem f48_f_b7 (k : Nat) (R_l6 R_l4 R_l2 : f48_S) : f48_a k (f48_Q_b7 k R_l6 R_l4 R_l2) = f48_a k (f48_F_b7 k R_l2 R_l4 R_l6) := (ap_cons _ (ap_cons _ (ap_cons _ (ap_cons _ (ap_cons _ (ap_cons _ (ap_cons _ (ap_cons _ (ap_cons _ (ap_cons _ (ap_cons _ rfl)))))))))))
noncomputable def f48_F_c20 (k : Nat) (G_l2 G_l4 G_l6 G_b7 : f48_S) : f48_L := .b 7 (fun σ => G_b7 (cut f48_A.blks 7 σ)) :: f48_F_b7 k G_l2 G_l4 G_l6
theorem f48_f_c20 (k : Nat) (R_l6 R_l4 R_l2 : f48_S) : f48_a k (f48_Q_c20 k R_l6 R_l4 R_l2) = f48_a k (f48_F_c20 k R_l2 R_l4 R_l6 (f48_C_b7 k R_l6 R_l4 R_l2)) := (Eq.trans (ap_blkb (C := (f48_C_b7 k R_l6 R_l4 R_l2)) (fun _ => rfl)) (ap_cons _ (f48_f_b7 k R_l6 R_l4 R_l2)))
noncomputable def f48_F_r19 (k : Nat) (G_l2 G_l4 G_l6 G_b7 G_c20 : f48_S) : f48_L := .c (f48_p 1026346191) 7 :: .j G_c20 :: f48_F_c20 k G_l2 G_l4 G_l6 G_b7
theorem f48_f_r19 (k : Nat) (R_l6 R_l4 R_l2 : f48_S) : f48_a k (f48_Q_r19 k R_l6 R_l4 R_l2) = f48_a k (f48_F_r19 k R_l2 R_l4 R_l6 (f48_C_b7 k R_l6 R_l4 R_l2) (f48_C_c20 k R_l6 R_l4 R_l2)) := (ap_cons _ (Eq.trans (ap_pass (C := (f48_C_c20 k R_l6 R_l4 R_l2)) (fun _ => rfl)) (ap_cons _ (f48_f_c20 k R_l6 R_l4 R_l2))))
noncomputable def f48_F_r17 (k : Nat) (G_l2 G_l4 G_l6 G_b7 G_r19 G_c20 : f48_S) : f48_L := .c (f48_p 513173093) 7 :: .c (f48_p 513173094) 7 :: .c (f48_p 1026346190) 7 :: .j G_r19 :: f48_F_r19 k G_l2 G_l4 G_l6 G_b7 G_c20
theorem f48_f_r17 (k : Nat) (R_l6 R_l4 R_l2 : f48_S) : f48_a k (f48_Q_r17 k R_l6 R_l4 R_l2) = f48_a k (f48_F_r17 k R_l2 R_l4 R_l6 (f48_C_b7 k R_l6 R_l4 R_l2) (f48_C_r19 k R_l6 R_l4 R_l2) (f48_C_c20 k R_l6 R_l4 R_l2)) := (ap_cons _ (Eq.trans ap_sq (ap_cons _ (Eq.trans ap_sq (ap_cons _ (Eq.trans (ap_pass (C := (f48_C_r19 k R_l6 R_l4 R_l2)) (fun _ => rfl)) (ap_cons _ (f48_f_r19 k R_l6 R_l4 R_l2))))))))
noncomputable def f48_F_l6 (k : Nat) (G_l2 G_l4 G_l6 G_r17 G_b7 G_r19 G_c20 : f48_S) : f48_L := .c (f48_p 8018328) 6 :: .c (f48_p 16036658) 6 :: .j (fun σ => f48_a k (.c (f48_p 128293272) 7 :: .c (f48_p 513173092) 7 :: .j G_r17 :: f48_F_r17 k G_l2 G_l4 G_l6 G_b7 G_r19 G_c20) .nx σ) :: f48_F_b7 k G_l2 G_l4 G_l6
theorem f48_f_l6 (k : Nat) (R_l4 R_l2 R_l6 : f48_S) : f48_a k (f48_Q_l6 k R_l4 R_l2 R_l6) = f48_a k (f48_F_l6 k R_l2 R_l4 R_l6 (f48_C_r17 k R_l6 R_l4 R_l2) (f48_C_b7 k R_l6 R_l4 R_l2) (f48_C_r19 k R_l6 R_l4 R_l2) (f48_C_c20 k R_l6 R_l4 R_l2)) := (Eq.trans ap_sq (ap_cons _ (Eq.trans ap_sq (ap_cons _ (Eq.trans ap_sq (Eq.trans (ap_bl 7) (Eq.trans (ap_j (Eq.trans ap_sq (ap_cons _ (Eq.trans ap_sq (Eq.trans ap_sq (ap_cons _ (Eq.trans (ap_pass (C := (f48_C_r17 k R_l6 R_l4 R_l2)) (fun _ => rfl)) (ap_cons _ (f48_f_r17 k R_l6 R_l4 R_l2))))))))) (ap_cons _ (f48_f_b7 k R_l6 R_l4 R_l2)))))))))
def f48_entry_B (k : Nat) (g_l0 : f48_t_l0) (a0 : Td11) (a1 : Int) : Option ((List Td30) × Unit) := (if 0 ≤ (a0.2.1.length : Int) then (if (a0.2.1.length : Int) ≤ 1073741824 then (g_l0 (List.replicate ((a0.2.1.length : Int)).toNat ((0, []) : (Int × (List Int)))) a0.1 a0.2.1 a0.2.2 a1 (a0.2.1.length : Int) 0) else none) else none)
def f48_l0_B (k : Nat) (g_c6 : f48_t_c6) (g_l2 : f48_t_l2) (y16 : (List (Int × (List Int)))) (y2_0 : (List (Int × Int))) (y2_1 : (List (Int × (Int × (Int × Int))))) (y2_2 : (List (Int × Int))) (x1 : Int) (x19 : Int) (x20 : Int) : Option ((List Td30) × Unit) := (if x20 < x19 then (if 0 ≤ x20 then (if x20 < (y2_1.length : Int) then (if ((y2_1.getD (x20).toNat (0, (0, (0, 0)))).1) = x1 then (if 0 ≤ x20 then (if x20 < (y16.length : Int) then (g_c6 (y16.set ((x20).toNat) ((((y2_1.getD (x20).toNat (0, (0, (0, 0)))).2).2).1, [x20])) y2_0 y2_1 y2_2 x1 x19 x20) else none) else none) else (g_c6 y16 y2_0 y2_1 y2_2 x1 x19 x20)) else none) else none) else (g_l2 y16 y2_0 y2_1 y2_2 true))
def f48_c6_B (k : Nat) (g_l0 : f48_t_l0) (y16 : (List (Int × (List Int)))) (y2_0 : (List (Int × Int))) (y2_1 : (List (Int × (Int × (Int × Int))))) (y2_2 : (List (Int × Int))) (x1 : Int) (x19 : Int) (x20 : Int) : Option ((List Td30) × Unit) := (g_l0 y16 y2_0 y2_1 y2_2 x1 x19 (w64 (x20 + 1)))
def f48_l2_B (k : Nat) (g_l4 : f48_t_l4) (y16 : (List (Int × (List Int)))) (y2_0 : (List (Int × Int))) (y2_1 : (List (Int × (Int × (Int × Int))))) (y2_2 : (List (Int × Int))) (x8 : Bool) : Option ((List Td30) × Unit) := (if x8 = true then (g_l4 y16 y2_0 y2_1 y2_2 (y2_1.length : Int) 0 false) else some (y16, ()))
def f48_l4_B (k : Nat) (g_l2 : f48_t_l2) (g_l6 : f48_t_l6) (y16 : (List (Int × (List Int)))) (y2_0 : (List (Int × Int))) (y2_1 : (List (Int × (Int × (Int × Int))))) (y2_2 : (List (Int × Int))) (x41 : Int) (x42 : Int) (x8 : Bool) : Option ((List Td30) × Unit) := (if x42 < x41 then (g_l6 y16 y2_0 y2_1 y2_2 x41 x42 (y2_1.length : Int) 0 (decide (x8 = true))) else (g_l2 y16 y2_0 y2_1 y2_2 (decide (x8 = true))))
def f48_l6_B (k : Nat) (g_l4 : f48_t_l4) (g_r17 : f48_t_r17) (y16 : (List (Int × (List Int)))) (y2_0 : (List (Int × Int))) (y2_1 : (List (Int × (Int × (Int × Int))))) (y2_2 : (List (Int × Int))) (x41 : Int) (x42 : Int) (x47 : Int) (x48 : Int) (x8 : Bool) : Option ((List Td30) × Unit) := (if x48 < x47 then (if 0 ≤ x48 then (if x48 < (y2_1.length : Int) then (if 0 ≤ x42 then (if x42 < (y16.length : Int) then (if (((y16.getD ((x42).toNat) (0, [])).2).length : Int) = 0 then (g_r17 ((y2_1.getD (x48).toNat (0, (0, (0, 0)))).1) (((y2_1.getD (x48).toNat (0, (0, (0, 0)))).2).1) ((((y2_1.getD (x48).toNat (0, (0, (0, 0)))).2).2).1) ((((y2_1.getD (x48).toNat (0, (0, (0, 0)))).2).2).2) y16 y2_0 y2_1 y2_2 x48 x41 x42 x47 true (decide (x8 = true))) else ((f111 k (y2_0, (y2_1, y2_2)) x42 x48).bind fun r1 => (g_r17 ((y2_1.getD (x48).toNat (0, (0, (0, 0)))).1) (((y2_1.getD (x48).toNat (0, (0, (0, 0)))).2).1) ((((y2_1.getD (x48).toNat (0, (0, (0, 0)))).2).2).1) ((((y2_1.getD (x48).toNat (0, (0, (0, 0)))).2).2).2) y16 y2_0 y2_1 y2_2 x48 x41 x42 x47 (decide (¬ (r1.1 = true))) (decide (x8 = true))))) else none) else none) else none) else none) else (g_l4 y16 y2_0 y2_1 y2_2 x41 (w64 (x42 + 1)) (decide (x8 = true))))
def f48_r17_B (k : Nat) (g_b7 : f48_t_b7) (g_r19 : f48_t_r19) (y11_0 : Int) (y11_1 : Int) (y11_2 : Int) (y11_3 : Int) (y16 : (List (Int × (List Int)))) (y2_0 : (List (Int × Int))) (y2_1 : (List (Int × (Int × (Int × Int))))) (y2_2 : (List (Int × Int))) (x10 : Int) (x41 : Int) (x42 : Int) (x47 : Int) (x66 : Bool) (x8 : Bool) : Option ((List Td30) × Unit) := (if x66 = true then (g_b7 y16 y2_0 y2_1 y2_2 x41 x42 x47 x10 (decide (x8 = true))) else (if 0 ≤ x42 then (if x42 < (y16.length : Int) then (if 0 ≤ x42 then (if x42 < (y16.length : Int) then ((f78u k ((y16.getD ((x42).toNat) (0, [])).2)).bind fun r1 => (if (r1.1.length + 1) * 8 ≤ 140737488355328 then (if 0 ≤ x10 then (if x10 < (y16.length : Int) then (if (((y16.getD ((x10).toNat) (0, [])).2).length : Int) = 0 then (g_r19 (w64 (((y16.getD ((x42).toNat) (0, [])).1) + y11_2)) y16 y2_0 y2_1 y2_2 (r1.1 ++ [x10]) x10 x41 x42 x47 (decide (x8 = true)) true) else (if 0 ≤ x10 then (if x10 < (y16.length : Int) then ((f102 k (w64 (((y16.getD ((x42).toNat) (0, [])).1) + y11_2), (r1.1 ++ [x10])) ((y16.getD ((x10).toNat) (0, [])).1, (y16.getD ((x10).toNat) (0, [])).2)).bind fun r2 => (g_r19 (w64 (((y16.getD ((x42).toNat) (0, [])).1) + y11_2)) y16 y2_0 y2_1 y2_2 (r1.1 ++ [x10]) x10 x41 x42 x47 (decide (x8 = true)) (decide (r2.1 = true)))) else none) else none)) else none) else none) else none)) else none) else none) else none) else none))
def f48_b7_B (k : Nat) (g_l6 : f48_t_l6) (y16 : (List (Int × (List Int)))) (y2_0 : (List (Int × Int))) (y2_1 : (List (Int × (Int × (Int × Int))))) (y2_2 : (List (Int × Int))) (x41 : Int) (x42 : Int) (x47 : Int) (x48 : Int) (x8 : Bool) : Option ((List Td30) × Unit) := (g_l6 y16 y2_0 y2_1 y2_2 x41 x42 x47 (w64 (x48 + 1)) (decide (x8 = true)))
def f48_r19_B (k : Nat) (g_c20 : f48_t_c20) (y12_0 : Int) (y16 : (List (Int × (List Int)))) (y2_0 : (List (Int × Int))) (y2_1 : (List (Int × (Int × (Int × Int))))) (y2_2 : (List (Int × Int))) (y80 : (List Int)) (x10 : Int) (x41 : Int) (x42 : Int) (x47 : Int) (x8 : Bool) (x99 : Bool) : Option ((List Td30) × Unit) := (if x99 = true then (if 0 ≤ x10 then (if x10 < (y16.length : Int) then (g_c20 (y16.set ((x10).toNat) (y12_0, y80)) y2_0 y2_1 y2_2 x41 x42 x47 x10 true) else none) else none) else (g_c20 y16 y2_0 y2_1 y2_2 x41 x42 x47 x10 (decide (x8 = true))))
def f48_c20_B (k : Nat) (g_b7 : f48_t_b7) (y16 : (List (Int × (List Int)))) (y2_0 : (List (Int × Int))) (y2_1 : (List (Int × (Int × (Int × Int))))) (y2_2 : (List (Int × Int))) (x41 : Int) (x42 : Int) (x47 : Int) (x48 : Int) (x8 : Bool) : Option ((List Td30) × Unit) := (g_b7 y16 y2_0 y2_1 y2_2 x41 x42 x47 x48 (decide (x8 = true)))
theorem f48_c6_P (k : Nat) (G_l0 G_l2 : f48_S) : f48_o_c6 (fun σ => f48_a k (f48_F_c6 k G_l0 G_l2) .nx σ) = f48_c6_B k (f48_o_l0 G_l0) := by kernel_rfl
def f48_c6 (k : Nat) (r_l0 : f48_t_l0) : f48_t_c6 := f48_c6_B k r_l0
theorem f48_c6_E (k : Nat) (R_l0 : f48_S) : f48_o_c6 (f48_C_c6 k R_l0) = f48_c6 k (f48_o_l0 R_l0) :=
  Eq.trans (congrArg f48_o_c6 (ap_fn (f48_f_c6 k R_l0))) ((f48_c6_P k R_l0 (f48_C_l2 k k)).trans (by rfl))
theorem f48_b7_P (k : Nat) (G_l2 G_l4 G_l6 : f48_S) : f48_o_b7 (fun σ => f48_a k (f48_F_b7 k G_l2 G_l4 G_l6) .nx σ) = f48_b7_B k (f48_o_l6 G_l6) := by kernel_rfl
def f48_b7 (k : Nat) (r_l6 : f48_t_l6) (r_l4 : f48_t_l4) (r_l2 : f48_t_l2) : f48_t_b7 := f48_b7_B k r_l6
theorem f48_b7_E (k : Nat) (R_l6 R_l4 R_l2 : f48_S) : f48_o_b7 (f48_C_b7 k R_l6 R_l4 R_l2) = f48_b7 k (f48_o_l6 R_l6) (f48_o_l4 R_l4) (f48_o_l2 R_l2) :=
  Eq.trans (congrArg f48_o_b7 (ap_fn (f48_f_b7 k R_l6 R_l4 R_l2))) ((f48_b7_P k R_l2 R_l4 R_l6).trans (by rfl))
theorem f48_c20_P (k : Nat) (G_l2 G_l4 G_l6 G_b7 : f48_S) : f48_o_c20 (fun σ => f48_a k (f48_F_c20 k G_l2 G_l4 G_l6 G_b7) .nx σ) = f48_c20_B k (f48_o_b7 G_b7) := by kernel_rfl
def f48_c20 (k : Nat) (r_l6 : f48_t_l6) (r_l4 : f48_t_l4) (r_l2 : f48_t_l2) : f48_t_c20 := f48_c20_B k (f48_b7 k r_l6 r_l4 r_l2)
theorem f48_c20_E (k : Nat) (R_l6 R_l4 R_l2 : f48_S) : f48_o_c20 (f48_C_c20 k R_l6 R_l4 R_l2) = f48_c20 k (f48_o_l6 R_l6) (f48_o_l4 R_l4) (f48_o_l2 R_l2) :=
  Eq.trans (congrArg f48_o_c20 (ap_fn (f48_f_c20 k R_l6 R_l4 R_l2))) ((f48_c20_P k R_l2 R_l4 R_l6 (f48_C_b7 k R_l6 R_l4 R_l2)).trans (by rw [f48_b7_E k R_l6 R_l4 R_l2] <;> rfl))
theorem f48_r19_P (k : Nat) (G_l2 G_l4 G_l6 G_b7 G_c20 : f48_S) : f48_o_r19 (fun σ => f48_a k (f48_F_r19 k G_l2 G_l4 G_l6 G_b7 G_c20) .nx σ) = f48_r19_B k (f48_o_c20 G_c20) := by kernel_rfl
def f48_r19 (k : Nat) (r_l6 : f48_t_l6) (r_l4 : f48_t_l4) (r_l2 : f48_t_l2) : f48_t_r19 := f48_r19_B k (f48_c20 k r_l6 r_l4 r_l2)
theorem f48_r19_E (k : Nat) (R_l6 R_l4 R_l2 : f48_S) : f48_o_r19 (f48_C_r19 k R_l6 R_l4 R_l2) = f48_r19 k (f48_o_l6 R_l6) (f48_o_l4 R_l4) (f48_o_l2 R_l2) :=
  Eq.trans (congrArg f48_o_r19 (ap_fn (f48_f_r19 k R_l6 R_l4 R_l2))) ((f48_r19_P k R_l2 R_l4 R_l6 (f48_C_b7 k R_l6 R_l4 R_l2) (f48_C_c20 k R_l6 R_l4 R_l2)).trans (by rw [f48_c20_E k R_l6 R_l4 R_l2] <;> rfl))
theorem f48_r17_P (k : Nat) (G_l2 G_l4 G_l6 G_b7 G_r19 G_c20 : f48_S) : f48_o_r17 (fun σ => f48_a k (f48_F_r17 k G_l2 G_l4 G_l6 G_b7 G_r19 G_c20) .nx σ) = f48_r17_B k (f48_o_b7 G_b7) (f48_o_r19 G_r19) := by kernel_rfl
def f48_r17 (k : Nat) (r_l6 : f48_t_l6) (r_l4 : f48_t_l4) (r_l2 : f48_t_l2) : f48_t_r17 := f48_r17_B k (f48_b7 k r_l6 r_l4 r_l2) (f48_r19 k r_l6 r_l4 r_l2)
theorem f48_r17_E (k : Nat) (R_l6 R_l4 R_l2 : f48_S) : f48_o_r17 (f48_C_r17 k R_l6 R_l4 R_l2) = f48_r17 k (f48_o_l6 R_l6) (f48_o_l4 R_l4) (f48_o_l2 R_l2) :=
  Eq.trans (congrArg f48_o_r17 (ap_fn (f48_f_r17 k R_l6 R_l4 R_l2))) ((f48_r17_P k R_l2 R_l4 R_l6 (f48_C_b7 k R_l6 R_l4 R_l2) (f48_C_r19 k R_l6 R_l4 R_l2) (f48_C_c20 k R_l6 R_l4 R_l2)).trans (by rw [f48_b7_E k R_l6 R_l4 R_l2, f48_r19_E k R_l6 R_l4 R_l2] <;> rfl))
theorem f48_l6_P (k : Nat) (G_l2 G_l4 G_l6 G_r17 G_b7 G_r19 G_c20 : f48_S) : f48_o_l6 (fun σ => f48_a k (f48_F_l6 k G_l2 G_l4 G_l6 G_r17 G_b7 G_r19 G_c20) .nx σ) = f48_l6_B k (f48_o_l4 G_l4) (f48_o_r17 G_r17) := by kernel_rfl
def f48_l6 (k : Nat) (r_l4 : f48_t_l4) (r_l2 : f48_t_l2) : Nat → f48_t_l6
  | 0 => fun _ _ _ _ _ _ _ _ _ => none
  | n + 1 => f48_l6_B k r_l4 (f48_r17 k (f48_l6 k r_l4 r_l2 n) r_l4 r_l2)
theorem f48_l6_E (k : Nat) (R_l4 R_l2 : f48_S) : ∀ n, f48_o_l6 (f48_C_l6 k R_l4 R_l2 n) = f48_l6 k (f48_o_l4 R_l4) (f48_o_l2 R_l2) n
  | 0 => rfl
  | n + 1 =>
    Eq.trans (congrArg f48_o_l6 (Eq.trans (b := fun σ => f48_a k (f48_Q_l6 k R_l4 R_l2 (f48_C_l6 k R_l4 R_l2 n)) .nx σ) (by kernel_rfl) (ap_fn (f48_f_l6 k R_l4 R_l2 (f48_C_l6 k R_l4 R_l2 n))))) ((f48_l6_P k R_l2 R_l4 (f48_C_l6 k R_l4 R_l2 n) (f48_C_r17 k (f48_C_l6 k R_l4 R_l2 n) R_l4 R_l2) (f48_C_b7 k (f48_C_l6 k R_l4 R_l2 n) R_l4 R_l2) (f48_C_r19 k (f48_C_l6 k R_l4 R_l2 n) R_l4 R_l2) (f48_C_c20 k (f48_C_l6 k R_l4 R_l2 n) R_l4 R_l2)).trans (by rw [f48_r17_E k (f48_C_l6 k R_l4 R_l2 n) R_l4 R_l2, f48_l6_E k R_l4 R_l2 n] <;> rfl))
theorem f48_l4_P (k : Nat) (G_l2 G_l4 G_l6 : f48_S) : f48_o_l4 (fun σ => f48_a k (f48_F_l4 k G_l2 G_l4 G_l6) .nx σ) = f48_l4_B k (f48_o_l2 G_l2) (f48_o_l6 G_l6) := by kernel_rfl
def f48_l4 (k : Nat) (r_l2 : f48_t_l2) : Nat → f48_t_l4
  | 0 => fun _ _ _ _ _ _ _ => none
  | n + 1 => f48_l4_B k r_l2 (f48_l6 k (f48_l4 k r_l2 n) r_l2 k)
theorem f48_l4_E (k : Nat) (R_l2 : f48_S) : ∀ n, f48_o_l4 (f48_C_l4 k R_l2 n) = f48_l4 k (f48_o_l2 R_l2) n
  | 0 => rfl
  | n + 1 =>
    Eq.trans (congrArg f48_o_l4 (Eq.trans (b := fun σ => f48_a k (f48_Q_l4 k R_l2 (f48_C_l4 k R_l2 n)) .nx σ) (by kernel_rfl) (ap_fn (f48_f_l4 k R_l2 (f48_C_l4 k R_l2 n))))) ((f48_l4_P k R_l2 (f48_C_l4 k R_l2 n) (f48_C_l6 k (f48_C_l4 k R_l2 n) R_l2 k)).trans (by rw [f48_l6_E k (f48_C_l4 k R_l2 n) R_l2 k, f48_l4_E k R_l2 n] <;> rfl))
theorem f48_l2_P (k : Nat) (G_l2 G_l4 : f48_S) : f48_o_l2 (fun σ => f48_a k (f48_F_l2 k G_l2 G_l4) .nx σ) = f48_l2_B k (f48_o_l4 G_l4) := by kernel_rfl
def f48_l2 (k : Nat) : Nat → f48_t_l2
  | 0 => fun _ _ _ _ _ => none
  | n + 1 => f48_l2_B k (f48_l4 k (f48_l2 k n) k)
theorem f48_l2_E (k : Nat) : ∀ n, f48_o_l2 (f48_C_l2 k n) = f48_l2 k n
  | 0 => rfl
  | n + 1 =>
    Eq.trans (congrArg f48_o_l2 (Eq.trans (b := fun σ => f48_a k (f48_Q_l2 k (f48_C_l2 k n)) .nx σ) (by kernel_rfl) (ap_fn (f48_f_l2 k (f48_C_l2 k n))))) ((f48_l2_P k (f48_C_l2 k n) (f48_C_l4 k (f48_C_l2 k n) k)).trans (by rw [f48_l4_E k (f48_C_l2 k n) k, f48_l2_E k n] <;> rfl))
theorem f48_l0_P (k : Nat) (G_l0 G_c6 G_l2 : f48_S) : f48_o_l0 (fun σ => f48_a k (f48_F_l0 k G_l0 G_c6 G_l2) .nx σ) = f48_l0_B k (f48_o_c6 G_c6) (f48_o_l2 G_l2) := by kernel_rfl
def f48_l0 (k : Nat) : Nat → f48_t_l0
  | 0 => fun _ _ _ _ _ _ _ => none
  | n + 1 => f48_l0_B k (f48_c6 k (f48_l0 k n)) (f48_l2 k k)
theorem f48_l0_E (k : Nat) : ∀ n, f48_o_l0 (f48_C_l0 k n) = f48_l0 k n
  | 0 => rfl
  | n + 1 =>
    Eq.trans (congrArg f48_o_l0 (Eq.trans (b := fun σ => f48_a k (f48_Q_l0 k (f48_C_l0 k n)) .nx σ) (by kernel_rfl) (ap_fn (f48_f_l0 k (f48_C_l0 k n))))) ((f48_l0_P k (f48_C_l0 k n) (f48_C_c6 k (f48_C_l0 k n)) (f48_C_l2 k k)).trans (by rw [f48_c6_E k (f48_C_l0 k n), f48_l2_E k k, f48_l0_E k n] <;> rfl))
theorem f48_entry_P (k : Nat) (G_l0 G_l2 : f48_S) (xs : DL f48_sig) : f48_a k (.c (f48_p 2) 0 :: .c (f48_p 6) 0 :: .c (f48_p 28) 0 :: .j (fun σ => f48_a k (.j (fun σ => G_l0 (cut f48_A.loops 0 σ)) :: .blk 0 :: .c (f48_p 60) 0 :: .j (fun σ => f48_a k (.j (fun σ => G_l2 (cut f48_A.loops 2 σ)) :: .blk 2 :: .c (f48_p 31) 0 :: []) .nx σ) :: .c (f48_p 31) 0 :: []) .nx σ) :: .c (f48_p 60) 0 :: .j (fun σ => f48_a k (.j (fun σ => G_l2 (cut f48_A.loops 2 σ)) :: .blk 2 :: .c (f48_p 31) 0 :: []) .nx σ) :: .c (f48_p 31) 0 :: []) .nx (σ0 107 336 f48_sig xs) = f48_entry_B k (f48_o_l0 G_l0) xs.1 xs.2.1 := by kernel_rfl
def f48 (k : Nat) (a0 : Td11) (a1 : Int) : Option ((List Td30) × Unit) := f48_entry_B k (f48_l0 k k) a0 a1
theorem f48_fe (k : Nat) : f48_a k [.c (f48_p 1) 0] = f48_a k (.c (f48_p 2) 0 :: .c (f48_p 6) 0 :: .c (f48_p 28) 0 :: .j (fun σ => f48_a k (.j (fun σ => (f48_C_l0 k k) (cut f48_A.loops 0 σ)) :: .blk 0 :: .c (f48_p 60) 0 :: .j (fun σ => f48_a k (.j (fun σ => (f48_C_l2 k k) (cut f48_A.loops 2 σ)) :: .blk 2 :: .c (f48_p 31) 0 :: []) .nx σ) :: .c (f48_p 31) 0 :: []) .nx σ) :: .c (f48_p 60) 0 :: .j (fun σ => f48_a k (.j (fun σ => (f48_C_l2 k k) (cut f48_A.loops 2 σ)) :: .blk 2 :: .c (f48_p 31) 0 :: []) .nx σ) :: .c (f48_p 31) 0 :: []) := (Eq.trans ap_sq (ap_cons _ (Eq.trans ap_sq (ap_cons _ (Eq.trans ap_sq (Eq.trans ap_sq (ap_cons _ (Eq.trans (ap_bl 0) (Eq.trans (ap_j (Eq.trans (ap_lp (C := (f48_C_l0 k)) (fun _ _ => rfl)) (ap_cons _ (ap_cons _ (Eq.trans ap_sq (Eq.trans ap_sq (ap_cons _ (Eq.trans (ap_bl 2) (Eq.trans (ap_j (Eq.trans (ap_lp (C := (f48_C_l2 k)) (fun _ _ => rfl)) (ap_cons _ (ap_cons _ (ap_cons _ rfl))))) (ap_cons _ (ap_cons _ rfl))))))))))) (ap_cons _ (Eq.trans ap_sq (Eq.trans ap_sq (ap_cons _ (Eq.trans (ap_bl 2) (Eq.trans (ap_j (Eq.trans (ap_lp (C := (f48_C_l2 k)) (fun _ _ => rfl)) (ap_cons _ (ap_cons _ (ap_cons _ rfl))))) (ap_cons _ (ap_cons _ rfl)))))))))))))))))
theorem f48_eq (k : Nat) (xs : DL f48_sig) : den T f48_Y (f48_E k) f48_A k f48_c 0 (σ0 107 336 f48_sig xs) (Kfin T f48_rs f48_ts) = f48 k xs.1 xs.2.1 :=
  Eq.trans (Eq.trans den_sb (ap_at (f48_fe k) _)) ((f48_entry_P k (f48_C_l0 k k) (f48_C_l2 k k) xs).trans (by rw [f48_l0_E k k] <;> rfl))
noncomputable def f48_con (k : Nat) : Con := ⟨f48_sig, f48_rs, fun xs => f48 k xs.1 xs.2.1⟩
theorem f48_ok (k : Nat) : PureOK Try.prog 48 f48_sig f48_rs (fun xs => f48 k xs.1 xs.2.1) :=
  (pure_of_den (k := k) (A := f48_A) (T := T) (Y := f48_Y) (E := f48_E k) (M := 336) (ts := f48_ts) T_ok ⟨f78u_ok k, f102_ok k, f111_ok k, trivial⟩ ⟨f78u_ent, f102_ent, f111_ent, trivial⟩ mixed (f := 48) (fn := Try.f48) (c := f48_c) (by kernel_rfl) (by kernel_rfl) (by kernel_rfl) (by decide) (by kernel_rfl)).congr fun xs => (f48_eq k xs).symm
theorem f48_ent : Ent Try.prog 48 := fun args w => by kernel_rfl
/-! ### terrier/terrref4.WayTo: function 35 -/
noncomputable def f35_c : Code := Try.f35.body.getD .skip
noncomputable abbrev f35_p (n : Nat) : Code := sb f35_c n
abbrev f35_sig : List PT := [(true, Tq8), (false, (.int .i64)), (false, (.int .i64))]
abbrev f35_rs : List RT := [.d true Tq29, .d false .bool]
abbrev f35_ts : List RV := [.cell 6 68, .tmp 7]
abbrev f35_S := St → Option (RDL f35_rs)
abbrev f35_L := List (Fr (RDL f35_rs))
def f35_Y : Tys := []
noncomputable def f35_E (k : Nat) : Env := [(48, .c (f48_con k)), (102, .c (f102_con k))]
def f35_A : Ann := { loops := [(0, { slots := [(2, .id), (3, .id), (6, .id), (8, .id), (17, .id), (18, .id), (19, .id)], keys := [(3, [.val false Tq1, .val false Tq5, .val false Tq1]), (6, []), (8, [.id, .val false (.int .i64)]), (17, [])] })], regs := [(7, { slots := [(2, .id), (3, .id), (6, .id), (8, .id), (10, .id), (17, .id), (18, .id), (19, .id), (48, .bool)], keys := [(3, [.val false Tq1, .val false Tq5, .val false Tq1]), (6, []), (8, [.id, .val false (.int .i64)]), (10, [.id, .val false (.int .i64)]), (17, [])] })], conds := [(8, { slots := [(2, .id), (3, .id), (6, .id), (8, .id), (17, .id), (18, .id), (19, .id)], keys := [(3, [.val false Tq1, .val false Tq5, .val false Tq1]), (6, []), (8, [.id, .val false (.int .i64)]), (17, [])] })] }
noncomputable abbrev f35_a (k : Nat) (F : f35_L) : Kont (RDL f35_rs) := ap T f35_Y (f35_E k) f35_A k (Kfin T f35_rs f35_ts) F
def f35_s_l0 (y17 : (List (Int × (List Int)))) (y3_0 : (List (Int × Int))) (y3_1 : (List (Int × (Int × (Int × Int))))) (y3_2 : (List (Int × Int))) (y8_0 : Int) (y8_1 : (List Int)) (x18 : Int) (x19 : Int) (x2 : Int) : St := mkS 56 176 [(2, aI x2), (3, aP 3), (6, aP 6), (8, aP 8), (17, aO 17), (18, aI x18), (19, aI x19)] [(3, .box [cV Tq1 y3_0, cV Tq5 y3_1, cV Tq1 y3_2]), (6, .box [cI 0, .nil]), (8, .box [cI y8_0, cV (.int .i64) y8_1]), (17, .vec Tq29 y17)]
abbrev f35_t_l0 := (List (Int × (List Int))) → (List (Int × Int)) → (List (Int × (Int × (Int × Int)))) → (List (Int × Int)) → Int → (List Int) → Int → Int → Int → Option (Td30 × Bool × Unit)
abbrev f35_o_l0 (R : f35_S) : f35_t_l0 := (fun y17 y3_0 y3_1 y3_2 y8_0 y8_1 x18 x19 x2 => R (f35_s_l0 y17 y3_0 y3_1 y3_2 y8_0 y8_1 x18 x19 x2))
noncomputable def f35_Q_l0 (k : Nat) (R_l0 : f35_S) : f35_L := [.c (f35_p 244) 0, .j (fun σ => R_l0 (cut f35_A.loops 0 σ)), .blk 0, .c (f35_p 31) 0]
noncomputable def f35_C_l0 (k : Nat) (n : Nat) (σ : St) : Option (RDL f35_rs) := loopK (fun σ K => den T f35_Y (f35_E k) f35_A k (f35_p 244) 0 σ K) (cut f35_A.loops 0) (f35_a k [.blk 0, .c (f35_p 31) 0]) n σ
def f35_s_r7 (y10_0 : Int) (y10_1 : (List Int)) (y17 : (List (Int × (List Int)))) (y3_0 : (List (Int × Int))) (y3_1 : (List (Int × (Int × (Int × Int))))) (y3_2 : (List (Int × Int))) (y8_0 : Int) (y8_1 : (List Int)) (x18 : Int) (x19 : Int) (x2 : Int) (x48 : Bool) : St := mkS 56 176 [(2, aI x2), (3, aP 3), (6, aP 6), (8, aP 8), (10, aP 10), (17, aO 17), (18, aI x18), (19, aI x19), (48, aB x48)] [(3, .box [cV Tq1 y3_0, cV Tq5 y3_1, cV Tq1 y3_2]), (6, .box [cI 0, .nil]), (8, .box [cI y8_0, cV (.int .i64) y8_1]), (10, .box [cI y10_0, cV (.int .i64) y10_1]), (17, .vec Tq29 y17)]
abbrev f35_t_r7 := Int → (List Int) → (List (Int × (List Int))) → (List (Int × Int)) → (List (Int × (Int × (Int × Int)))) → (List (Int × Int)) → Int → (List Int) → Int → Int → Int → Bool → Option (Td30 × Bool × Unit)
abbrev f35_o_r7 (R : f35_S) : f35_t_r7 := (fun y10_0 y10_1 y17 y3_0 y3_1 y3_2 y8_0 y8_1 x18 x19 x2 x48 => R (f35_s_r7 y10_0 y10_1 y17 y3_0 y3_1 y3_2 y8_0 y8_1 x18 x19 x2 x48))
noncomputable def f35_Q_r7 (k : Nat) (R_l0 : f35_S) : f35_L := [.c (f35_p 15667) 1, .blk 1, .c (f35_p 1959) 0, .j (fun σ => R_l0 (cut f35_A.loops 0 σ)), .blk 0, .c (f35_p 31) 0]
noncomputable def f35_C_r7 (k : Nat) (R_l0 : f35_S) : f35_S := fun σ => f35_a k (f35_Q_r7 k R_l0) .nx σ
def f35_s_c8 (y17 : (List (Int × (List Int)))) (y3_0 : (List (Int × Int))) (y3_1 : (List (Int × (Int × (Int × Int))))) (y3_2 : (List (Int × Int))) (y8_0 : Int) (y8_1 : (List Int)) (x18 : Int) (x19 : Int) (x2 : Int) : St := mkS 56 176 [(2, aI x2), (3, aP 3), (6, aP 6), (8, aP 8), (17, aO 17), (18, aI x18), (19, aI x19)] [(3, .box [cV Tq1 y3_0, cV Tq5 y3_1, cV Tq1 y3_2]), (6, .box [cI 0, .nil]), (8, .box [cI y8_0, cV (.int .i64) y8_1]), (17, .vec Tq29 y17)]
abbrev f35_t_c8 := (List (Int × (List Int))) → (List (Int × Int)) → (List (Int × (Int × (Int × Int)))) → (List (Int × Int)) → Int → (List Int) → Int → Int → Int → Option (Td30 × Bool × Unit)
abbrev f35_o_c8 (R : f35_S) : f35_t_c8 := (fun y17 y3_0 y3_1 y3_2 y8_0 y8_1 x18 x19 x2 => R (f35_s_c8 y17 y3_0 y3_1 y3_2 y8_0 y8_1 x18 x19 x2))
noncomputable def f35_Q_c8 (k : Nat) (R_l0 : f35_S) : f35_L := [.blk 1, .c (f35_p 1959) 0, .j (fun σ => R_l0 (cut f35_A.loops 0 σ)), .blk 0, .c (f35_p 31) 0]
noncomputable def f35_C_c8 (k : Nat) (R_l0 : f35_S) : f35_S := fun σ => f35_a k (f35_Q_c8 k R_l0) .nx σ
noncomputable def f35_F_c8 (k : Nat) (G_l0 : f35_S) : f35_L := .blk 1 :: .c (f35_p 1959) 0 :: .j (fun σ => G_l0 (cut f35_A.loops 0 σ)) :: .blk 0 :: .c (f35_p 31) 0 :: []
theorem f35_f_c8 (k : Nat) (R_l0 : f35_S) : f35_a k (f35_Q_c8 k R_l0) = f35_a k (f35_F_c8 k R_l0) := (ap_cons _ (ap_cons _ (ap_cons _ (ap_cons _ (ap_cons _ rfl)))))
noncomputable def f35_F_r7 (k : Nat) (G_l0 G_c8 : f35_S) : f35_L := .c (f35_p 15667) 1 :: .j G_c8 :: f35_F_c8 k G_l0
theorem f35_f_r7 (k : Nat) (R_l0 : f35_S) : f35_a k (f35_Q_r7 k R_l0) = f35_a k (f35_F_r7 k R_l0 (f35_C_c8 k R_l0)) := (ap_cons _ (Eq.trans (ap_pass (C := (f35_C_c8 k R_l0)) (fun _ => rfl)) (ap_cons _ (f35_f_c8 k R_l0))))
noncomputable def f35_F_l0 (k : Nat) (G_l0 G_r7 G_c8 : f35_S) : f35_L := .c (f35_p 488) 0 :: .c (f35_p 978) 0 :: .j (fun σ => f35_a k (.c (f35_p 7832) 1 :: .c (f35_p 15666) 1 :: .j G_r7 :: f35_F_r7 k G_l0 G_c8) .nx σ) :: .c (f35_p 1959) 0 :: .j (fun σ => G_l0 (cut f35_A.loops 0 σ)) :: .blk 0 :: .c (f35_p 31) 0 :: []
theorem f35_f_l0 (k : Nat) (R_l0 : f35_S) : f35_a k (f35_Q_l0 k R_l0) = f35_a k (f35_F_l0 k R_l0 (f35_C_r7 k R_l0) (f35_C_c8 k R_l0)) := (Eq.trans ap_sq (ap_cons _ (Eq.trans ap_sq (ap_cons _ (Eq.trans ap_sq (Eq.trans (ap_bl 1) (Eq.trans (ap_j (Eq.trans ap_sq (ap_cons _ (Eq.trans ap_sq (ap_cons _ (Eq.trans (ap_pass (C := (f35_C_r7 k R_l0)) (fun _ => rfl)) (ap_cons _ (f35_f_r7 k R_l0)))))))) (ap_cons _ (ap_cons _ (ap_cons _ (ap_cons _ (ap_cons _ rfl))))))))))))
def f35_entry_B (k : Nat) (g_l0 : f35_t_l0) (a0 : Td11) (a1 : Int) (a2 : Int) : Option (Td30 × Bool × Unit) := (if a1 = a2 then some ((0, []), true, ()) else ((f48 k (a0.1, (a0.2.1, a0.2.2)) a1).bind fun r1 => (g_l0 r1.1 a0.1 a0.2.1 a0.2.2 0 ([]) (r1.1.length : Int) 0 a2)))
def f35_l0_B (k : Nat) (g_r7 : f35_t_r7) (y17 : (List (Int × (List Int)))) (y3_0 : (List (Int × Int))) (y3_1 : (List (Int × (Int × (Int × Int))))) (y3_2 : (List (Int × Int))) (y8_0 : Int) (y8_1 : (List Int)) (x18 : Int) (x19 : Int) (x2 : Int) : Option (Td30 × Bool × Unit) := (if x19 < x18 then (if 0 ≤ x19 then (if x19 < (y17.length : Int) then (if 0 ≤ x19 then (if x19 < (y3_1.length : Int) then (if (((y3_1.getD (x19).toNat (0, (0, (0, 0)))).2).1) = x2 then (if 0 < (((y17.getD ((x19).toNat) (0, [])).2).length : Int) then (if (y8_1.length : Int) = 0 then (g_r7 ((y17.getD ((x19).toNat) (0, [])).1) ((y17.getD ((x19).toNat) (0, [])).2) y17 y3_0 y3_1 y3_2 y8_0 y8_1 x18 x19 x2 true) else ((f102 k ((y17.getD ((x19).toNat) (0, [])).1, (y17.getD ((x19).toNat) (0, [])).2) (y8_0, y8_1)).bind fun r1 => (g_r7 ((y17.getD ((x19).toNat) (0, [])).1) ((y17.getD ((x19).toNat) (0, [])).2) y17 y3_0 y3_1 y3_2 y8_0 y8_1 x18 x19 x2 (decide (r1.1 = true))))) else (g_r7 ((y17.getD ((x19).toNat) (0, [])).1) ((y17.getD ((x19).toNat) (0, [])).2) y17 y3_0 y3_1 y3_2 y8_0 y8_1 x18 x19 x2 false)) else (g_r7 ((y17.getD ((x19).toNat) (0, [])).1) ((y17.getD ((x19).toNat) (0, [])).2) y17 y3_0 y3_1 y3_2 y8_0 y8_1 x18 x19 x2 false)) else none) else none) else none) else none) else some ((y8_0, y8_1), decide (0 < (y8_1.length : Int)), ()))
def f35_r7_B (k : Nat) (g_c8 : f35_t_c8) (y10_0 : Int) (y10_1 : (List Int)) (y17 : (List (Int × (List Int)))) (y3_0 : (List (Int × Int))) (y3_1 : (List (Int × (Int × (Int × Int))))) (y3_2 : (List (Int × Int))) (y8_0 : Int) (y8_1 : (List Int)) (x18 : Int) (x19 : Int) (x2 : Int) (x48 : Bool) : Option (Td30 × Bool × Unit) := (if x48 = true then (g_c8 y17 y3_0 y3_1 y3_2 y10_0 y10_1 x18 x19 x2) else (g_c8 y17 y3_0 y3_1 y3_2 y8_0 y8_1 x18 x19 x2))
def f35_c8_B (k : Nat) (g_l0 : f35_t_l0) (y17 : (List (Int × (List Int)))) (y3_0 : (List (Int × Int))) (y3_1 : (List (Int × (Int × (Int × Int))))) (y3_2 : (List (Int × Int))) (y8_0 : Int) (y8_1 : (List Int)) (x18 : Int) (x19 : Int) (x2 : Int) : Option (Td30 × Bool × Unit) := (g_l0 y17 y3_0 y3_1 y3_2 y8_0 y8_1 x18 (w64 (x19 + 1)) x2)
theorem f35_c8_P (k : Nat) (G_l0 : f35_S) : f35_o_c8 (fun σ => f35_a k (f35_F_c8 k G_l0) .nx σ) = f35_c8_B k (f35_o_l0 G_l0) := by kernel_rfl
def f35_c8 (k : Nat) (r_l0 : f35_t_l0) : f35_t_c8 := f35_c8_B k r_l0
theorem f35_c8_E (k : Nat) (R_l0 : f35_S) : f35_o_c8 (f35_C_c8 k R_l0) = f35_c8 k (f35_o_l0 R_l0) :=
  Eq.trans (congrArg f35_o_c8 (ap_fn (f35_f_c8 k R_l0))) ((f35_c8_P k R_l0).trans (by rfl))
theorem f35_r7_P (k : Nat) (G_l0 G_c8 : f35_S) : f35_o_r7 (fun σ => f35_a k (f35_F_r7 k G_l0 G_c8) .nx σ) = f35_r7_B k (f35_o_c8 G_c8) := by kernel_rfl
def f35_r7 (k : Nat) (r_l0 : f35_t_l0) : f35_t_r7 := f35_r7_B k (f35_c8 k r_l0)
theorem f35_r7_E (k : Nat) (R_l0 : f35_S) : f35_o_r7 (f35_C_r7 k R_l0) = f35_r7 k (f35_o_l0 R_l0) :=
  Eq.trans (congrArg f35_o_r7 (ap_fn (f35_f_r7 k R_l0))) ((f35_r7_P k R_l0 (f35_C_c8 k R_l0)).trans (by rw [f35_c8_E k R_l0] <;> rfl))
theorem f35_l0_P (k : Nat) (G_l0 G_r7 G_c8 : f35_S) : f35_o_l0 (fun σ => f35_a k (f35_F_l0 k G_l0 G_r7 G_c8) .nx σ) = f35_l0_B k (f35_o_r7 G_r7) := by kernel_rfl
def f35_l0 (k : Nat) : Nat → f35_t_l0
  | 0 => fun _ _ _ _ _ _ _ _ _ => none
  | n + 1 => f35_l0_B k (f35_r7 k (f35_l0 k n))
theorem f35_l0_E (k : Nat) : ∀ n, f35_o_l0 (f35_C_l0 k n) = f35_l0 k n
  | 0 => rfl
  | n + 1 =>
    Eq.trans (congrArg f35_o_l0 (Eq.trans (b := fun σ => f35_a k (f35_Q_l0 k (f35_C_l0 k n)) .nx σ) (by kernel_rfl) (ap_fn (f35_f_l0 k (f35_C_l0 k n))))) ((f35_l0_P k (f35_C_l0 k n) (f35_C_r7 k (f35_C_l0 k n)) (f35_C_c8 k (f35_C_l0 k n))).trans (by rw [f35_r7_E k (f35_C_l0 k n), f35_l0_E k n] <;> rfl))
theorem f35_entry_P (k : Nat) (G_l0 : f35_S) (xs : DL f35_sig) : f35_a k (.c (f35_p 2) 0 :: .c (f35_p 6) 0 :: .c (f35_p 14) 0 :: .c (f35_p 60) 0 :: .j (fun σ => f35_a k (.j (fun σ => G_l0 (cut f35_A.loops 0 σ)) :: .blk 0 :: .c (f35_p 31) 0 :: []) .nx σ) :: .c (f35_p 31) 0 :: []) .nx (σ0 56 176 f35_sig xs) = f35_entry_B k (f35_o_l0 G_l0) xs.1 xs.2.1 xs.2.2.1 := by kernel_rfl
def f35 (k : Nat) (a0 : Td11) (a1 : Int) (a2 : Int) : Option (Td30 × Bool × Unit) := f35_entry_B k (f35_l0 k k) a0 a1 a2
theorem f35_fe (k : Nat) : f35_a k [.c (f35_p 1) 0] = f35_a k (.c (f35_p 2) 0 :: .c (f35_p 6) 0 :: .c (f35_p 14) 0 :: .c (f35_p 60) 0 :: .j (fun σ => f35_a k (.j (fun σ => (f35_C_l0 k k) (cut f35_A.loops 0 σ)) :: .blk 0 :: .c (f35_p 31) 0 :: []) .nx σ) :: .c (f35_p 31) 0 :: []) := (Eq.trans ap_sq (ap_cons _ (Eq.trans ap_sq (ap_cons _ (Eq.trans ap_sq (ap_cons _ (Eq.trans ap_sq (Eq.trans ap_sq (ap_cons _ (Eq.trans (ap_bl 0) (Eq.trans (ap_j (Eq.trans (ap_lp (C := (f35_C_l0 k)) (fun _ _ => rfl)) (ap_cons _ (ap_cons _ (ap_cons _ rfl))))) (ap_cons _ (ap_cons _ rfl)))))))))))))
theorem f35_eq (k : Nat) (xs : DL f35_sig) : den T f35_Y (f35_E k) f35_A k f35_c 0 (σ0 56 176 f35_sig xs) (Kfin T f35_rs f35_ts) = f35 k xs.1 xs.2.1 xs.2.2.1 :=
  Eq.trans (Eq.trans den_sb (ap_at (f35_fe k) _)) ((f35_entry_P k (f35_C_l0 k k) xs).trans (by rw [f35_l0_E k k] <;> rfl))
noncomputable def f35_con (k : Nat) : Con := ⟨f35_sig, f35_rs, fun xs => f35 k xs.1 xs.2.1 xs.2.2.1⟩
theorem f35_ok (k : Nat) : PureOK Try.prog 35 f35_sig f35_rs (fun xs => f35 k xs.1 xs.2.1 xs.2.2.1) :=
  (pure_of_den (k := k) (A := f35_A) (T := T) (Y := f35_Y) (E := f35_E k) (M := 176) (ts := f35_ts) T_ok ⟨f48_ok k, f102_ok k, trivial⟩ ⟨f48_ent, f102_ent, trivial⟩ mixed (f := 35) (fn := Try.f35) (c := f35_c) (by kernel_rfl) (by kernel_rfl) (by kernel_rfl) (by decide) (by kernel_rfl)).congr fun xs => (f35_eq k xs).symm
theorem f35_ent : Ent Try.prog 35 := fun args w => by kernel_rfl
/-! ### terrier/terrlaw4.triangle: function 103 -/
noncomputable def f103_c : Code := Try.f103.body.getD .skip
noncomputable abbrev f103_p (n : Nat) : Code := sb f103_c n
abbrev f103_sig : List PT := []
abbrev f103_rs : List RT := [.d true Tq8]
abbrev f103_ts : List RV := [.cell 0 64]
abbrev f103_S := St → Option (RDL f103_rs)
abbrev f103_L := List (Fr (RDL f103_rs))
def f103_Y : Tys := [(50, Tq1), (129, Tq5)]
noncomputable def f103_E (k : Nat) : Env := []
def f103_A : Ann := {}
noncomputable abbrev f103_a (k : Nat) (F : f103_L) : Kont (RDL f103_rs) := ap T f103_Y (f103_E k) f103_A k (Kfin T f103_rs f103_ts) F
def f103_entry_B (k : Nat)  : Option (Td11 × Unit) := some (([(0, 0), (1, 0), (0, 1)], ([(0, (1, (2, 0))), (1, (2, (2, 0))), (0, (2, (5, 0)))], [])), ())
theorem f103_entry_P (k : Nat) (xs : DL f103_sig) : f103_a k (.c (f103_p 1) 0 :: []) .nx (σ0 10 32 f103_sig xs) = f103_entry_B k  := by kernel_rfl
def f103 (k : Nat)  : Option (Td11 × Unit) := f103_entry_B k 
theorem f103_eq (k : Nat) (xs : DL f103_sig) : den T f103_Y (f103_E k) f103_A k f103_c 0 (σ0 10 32 f103_sig xs) (Kfin T f103_rs f103_ts) = f103 k  :=
  Eq.trans (Eq.trans den_sb (ap_at (ap_cons _ rfl) _)) ((f103_entry_P k xs).trans (by rfl))
noncomputable def f103_con (k : Nat) : Con := ⟨f103_sig, f103_rs, fun xs => f103 k ⟩
theorem f103_ok (k : Nat) : PureOK Try.prog 103 f103_sig f103_rs (fun xs => f103 k ) :=
  (pure_of_den (k := k) (A := f103_A) (T := T) (Y := f103_Y) (E := f103_E k) (M := 32) (ts := f103_ts) T_ok trivial trivial mixed (f := 103) (fn := Try.f103) (c := f103_c) (by kernel_rfl) (by kernel_rfl) (by kernel_rfl) (by decide) (by kernel_rfl)).congr fun xs => (f103_eq k xs).symm
theorem f103_ent : Ent Try.prog 103 := fun args w => by kernel_rfl
/-! ### terrier/terrlaw4.routed: function 36 -/
noncomputable def f36_c : Code := Try.f36.body.getD .skip
noncomputable abbrev f36_p (n : Nat) : Code := sb f36_c n
abbrev f36_sig : List PT := []
abbrev f36_rs : List RT := [.d false .bool]
abbrev f36_ts : List RV := [.tmp 0]
abbrev f36_S := St → Option (RDL f36_rs)
abbrev f36_L := List (Fr (RDL f36_rs))
def f36_Y : Tys := [(3, (.int .i64))]
noncomputable def f36_E (k : Nat) : Env := [(20, .c (f20_con k)), (33, .c (f33_con k)), (103, .c (f103_con k))]
def f36_A : Ann := { regs := [(2, { slots := [(0, .bool)] })] }
noncomputable abbrev f36_a (k : Nat) (F : f36_L) : Kont (RDL f36_rs) := ap T f36_Y (f36_E k) f36_A k (Kfin T f36_rs f36_ts) F
def f36_s_r2 (x0 : Bool) : St := mkS 21 64 [(0, aB x0)] []
abbrev f36_t_r2 := Bool → Option (Bool × Unit)
abbrev f36_o_r2 (R : f36_S) : f36_t_r2 := (fun x0 => R (f36_s_r2 x0))
noncomputable def f36_Q_r2 (k : Nat) : f36_L := [.c (f36_p 15) 0]
noncomputable def f36_C_r2 (k : Nat) : f36_S := fun σ => f36_a k (f36_Q_r2 k) .nx σ
noncomputable def f36_F_r2 (k : Nat) : f36_L := .c (f36_p 15) 0 :: []
theorem f36_f_r2 (k : Nat) : f36_a k (f36_Q_r2 k) = f36_a k (f36_F_r2 k) := (ap_cons _ rfl)
def f36_entry_B (k : Nat) (g_r2 : f36_t_r2)  : Option (Bool × Unit) := ((f103 k ).bind fun r1 => ((f33 k (r1.1.1, (r1.1.2.1, r1.1.2.2)) 0 2).bind fun r2 => (if r2.2.2.1 = 0 then (if r2.2.1 = 4 then ((f20 k r2.1 ([0, 1])).bind fun r3 => (g_r2 (decide (r3.1 = true)))) else (g_r2 false)) else (g_r2 false))))
def f36_r2_B (k : Nat) (x0 : Bool) : Option (Bool × Unit) := some (decide (x0 = true), ())
theorem f36_r2_P (k : Nat) : f36_o_r2 (fun σ => f36_a k (f36_F_r2 k) .nx σ) = f36_r2_B k := by kernel_rfl
def f36_r2 (k : Nat) : f36_t_r2 := f36_r2_B k
theorem f36_r2_E (k : Nat) : f36_o_r2 (f36_C_r2 k) = f36_r2 k :=
  Eq.trans (congrArg f36_o_r2 (ap_fn (f36_f_r2 k))) ((f36_r2_P k).trans (by rfl))
theorem f36_entry_P (k : Nat) (G_r2 : f36_S) (xs : DL f36_sig) : f36_a k (.c (f36_p 2) 0 :: .c (f36_p 6) 0 :: .c (f36_p 14) 0 :: .j G_r2 :: f36_F_r2 k) .nx (σ0 21 64 f36_sig xs) = f36_entry_B k (f36_o_r2 G_r2)  := by kernel_rfl
def f36 (k : Nat)  : Option (Bool × Unit) := f36_entry_B k (f36_r2 k) 
theorem f36_fe (k : Nat) : f36_a k [.c (f36_p 1) 0] = f36_a k (.c (f36_p 2) 0 :: .c (f36_p 6) 0 :: .c (f36_p 14) 0 :: .j (f36_C_r2 k) :: f36_F_r2 k) := (Eq.trans ap_sq (ap_cons _ (Eq.trans ap_sq (ap_cons _ (Eq.trans ap_sq (ap_cons _ (Eq.trans (ap_pass (C := (f36_C_r2 k)) (fun _ => rfl)) (ap_cons _ (f36_f_r2 k)))))))))
theorem f36_eq (k : Nat) (xs : DL f36_sig) : den T f36_Y (f36_E k) f36_A k f36_c 0 (σ0 21 64 f36_sig xs) (Kfin T f36_rs f36_ts) = f36 k  :=
  Eq.trans (Eq.trans den_sb (ap_at (f36_fe k) _)) ((f36_entry_P k (f36_C_r2 k) xs).trans (by rw [f36_r2_E k] <;> rfl))
noncomputable def f36_con (k : Nat) : Con := ⟨f36_sig, f36_rs, fun xs => f36 k ⟩
theorem f36_ok (k : Nat) : PureOK Try.prog 36 f36_sig f36_rs (fun xs => f36 k ) :=
  (pure_of_den (k := k) (A := f36_A) (T := T) (Y := f36_Y) (E := f36_E k) (M := 64) (ts := f36_ts) T_ok ⟨f20_ok k, f33_ok k, f103_ok k, trivial⟩ ⟨f20_ent, f33_ent, f103_ent, trivial⟩ mixed (f := 36) (fn := Try.f36) (c := f36_c) (by kernel_rfl) (by kernel_rfl) (by kernel_rfl) (by decide) (by kernel_rfl)).congr fun xs => (f36_eq k xs).symm
theorem f36_ent : Ent Try.prog 36 := fun args w => by kernel_rfl
/-! ### terrier/terrlaw4.RouteFinds: function 6 -/
noncomputable def f6_c : Code := Try.f6.body.getD .skip
noncomputable abbrev f6_p (n : Nat) : Code := sb f6_c n
abbrev f6_sig : List PT := [(true, Tq8), (false, (.int .i64)), (false, (.int .i64))]
abbrev f6_rs : List RT := [.d false .bool]
abbrev f6_ts : List RV := [.tmp 6]
abbrev f6_S := St → Option (RDL f6_rs)
abbrev f6_L := List (Fr (RDL f6_rs))
def f6_Y : Tys := [(3, (.int .i64))]
noncomputable def f6_E (k : Nat) : Env := [(20, .c (f20_con k)), (33, .c (f33_con k)), (34, .c (f34_con k)), (35, .c (f35_con k)), (36, .c (f36_con k))]
def f6_A : Ann := { conds := [(5, { slots := [(7, .id), (8, .id), (9, .id), (10, .id), (11, .id)], keys := [(11, [.id, .val false (.int .i64)]), (17, [])] })], regs := [(9, { slots := [(6, .bool)] })] }
noncomputable abbrev f6_a (k : Nat) (F : f6_L) : Kont (RDL f6_rs) := ap T f6_Y (f6_E k) f6_A k (Kfin T f6_rs f6_ts) F
def f6_s_c5 (y11_0 : Int) (y11_1 : (List Int)) (y17 : (List Int)) (x10 : Int) (x8 : Int) (x9 : Int) : St := mkS 55 176 [(7, aO 17), (8, aI x8), (9, aI x9), (10, aI x10), (11, aP 11)] [(11, .box [cI y11_0, cV (.int .i64) y11_1]), (17, .vec (.int .i64) y17)]
abbrev f6_t_c5 := Int → (List Int) → (List Int) → Int → Int → Int → Option (Bool × Unit)
abbrev f6_o_c5 (R : f6_S) : f6_t_c5 := (fun y11_0 y11_1 y17 x10 x8 x9 => R (f6_s_c5 y11_0 y11_1 y17 x10 x8 x9))
noncomputable def f6_Q_c5 (k : Nat) : f6_L := [.c (f6_p 63) 0]
noncomputable def f6_C_c5 (k : Nat) : f6_S := fun σ => f6_a k (f6_Q_c5 k) .nx σ
def f6_s_r9 (x6 : Bool) : St := mkS 55 176 [(6, aB x6)] []
abbrev f6_t_r9 := Bool → Option (Bool × Unit)
abbrev f6_o_r9 (R : f6_S) : f6_t_r9 := (fun x6 => R (f6_s_r9 x6))
noncomputable def f6_Q_r9 (k : Nat) : f6_L := [.c (f6_p 127) 0]
noncomputable def f6_C_r9 (k : Nat) : f6_S := fun σ => f6_a k (f6_Q_r9 k) .nx σ
noncomputable def f6_F_r9 (k : Nat) : f6_L := .c (f6_p 127) 0 :: []
theorem f6_f_r9 (k : Nat) : f6_a k (f6_Q_r9 k) = f6_a k (f6_F_r9 k) := (ap_cons _ rfl)
noncomputable def f6_F_c5 (k : Nat) (G_r9 : f6_S) : f6_L := .c (f6_p 126) 0 :: .j G_r9 :: f6_F_r9 k
theorem f6_f_c5 (k : Nat) : f6_a k (f6_Q_c5 k) = f6_a k (f6_F_c5 k (f6_C_r9 k)) := (Eq.trans ap_sq (ap_cons _ (Eq.trans (ap_pass (C := (f6_C_r9 k)) (fun _ => rfl)) (ap_cons _ (f6_f_r9 k)))))
def f6_entry_B (k : Nat) (g_c5 : f6_t_c5) (a0 : Td11) (a1 : Int) (a2 : Int) : Option (Bool × Unit) := ((f33 k (a0.1, (a0.2.1, a0.2.2)) a1 a2).bind fun r1 => ((f34 k (a0.1, (a0.2.1, a0.2.2)) ([a1, a2])).bind fun r2 => (if r2.1 = 0 then ((f35 k (a0.1, (a0.2.1, a0.2.2)) a1 a2).bind fun r3 => (if ¬ (r3.2.1 = true) then (g_c5 r3.1.1 r3.1.2 r1.1 17 r1.2.1 r1.2.2.1) else (g_c5 r3.1.1 r3.1.2 r1.1 r2.1 r1.2.1 r1.2.2.1))) else (g_c5 0 ([]) r1.1 r2.1 r1.2.1 r1.2.2.1))))
def f6_c5_B (k : Nat) (g_r9 : f6_t_r9) (y11_0 : Int) (y11_1 : (List Int)) (y17 : (List Int)) (x10 : Int) (x8 : Int) (x9 : Int) : Option (Bool × Unit) := ((f36 k ).bind fun r1 => (if r1.1 = true then (if x9 = x10 then (if x8 = y11_0 then ((f20 k y17 y11_1).bind fun r2 => (g_r9 (decide (r2.1 = true)))) else (g_r9 false)) else (g_r9 false)) else (g_r9 false)))
def f6_r9_B (k : Nat) (x6 : Bool) : Option (Bool × Unit) := some (decide (x6 = true), ())
theorem f6_r9_P (k : Nat) : f6_o_r9 (fun σ => f6_a k (f6_F_r9 k) .nx σ) = f6_r9_B k := by kernel_rfl
def f6_r9 (k : Nat) : f6_t_r9 := f6_r9_B k
theorem f6_r9_E (k : Nat) : f6_o_r9 (f6_C_r9 k) = f6_r9 k :=
  Eq.trans (congrArg f6_o_r9 (ap_fn (f6_f_r9 k))) ((f6_r9_P k).trans (by rfl))
theorem f6_c5_P (k : Nat) (G_r9 : f6_S) : f6_o_c5 (fun σ => f6_a k (f6_F_c5 k G_r9) .nx σ) = f6_c5_B k (f6_o_r9 G_r9) := by kernel_rfl
def f6_c5 (k : Nat) : f6_t_c5 := f6_c5_B k (f6_r9 k)
theorem f6_c5_E (k : Nat) : f6_o_c5 (f6_C_c5 k) = f6_c5 k :=
  Eq.trans (congrArg f6_o_c5 (ap_fn (f6_f_c5 k))) ((f6_c5_P k (f6_C_r9 k)).trans (by rw [f6_r9_E k] <;> rfl))
theorem f6_entry_P (k : Nat) (G_c5 G_r9 : f6_S) (xs : DL f6_sig) : f6_a k (.c (f6_p 2) 0 :: .c (f6_p 6) 0 :: .c (f6_p 14) 0 :: .c (f6_p 30) 0 :: .c (f6_p 124) 0 :: .c (f6_p 125) 0 :: .j G_c5 :: f6_F_c5 k G_r9) .nx (σ0 55 176 f6_sig xs) = f6_entry_B k (f6_o_c5 G_c5) xs.1 xs.2.1 xs.2.2.1 := by kernel_rfl
def f6 (k : Nat) (a0 : Td11) (a1 : Int) (a2 : Int) : Option (Bool × Unit) := f6_entry_B k (f6_c5 k) a0 a1 a2
theorem f6_fe (k : Nat) : f6_a k [.c (f6_p 1) 0] = f6_a k (.c (f6_p 2) 0 :: .c (f6_p 6) 0 :: .c (f6_p 14) 0 :: .c (f6_p 30) 0 :: .c (f6_p 124) 0 :: .c (f6_p 125) 0 :: .j (f6_C_c5 k) :: f6_F_c5 k (f6_C_r9 k)) := (Eq.trans ap_sq (ap_cons _ (Eq.trans ap_sq (ap_cons _ (Eq.trans ap_sq (ap_cons _ (Eq.trans ap_sq (ap_cons _ (Eq.trans ap_sq (Eq.trans ap_sq (ap_cons _ (ap_cons _ (Eq.trans (ap_pass (C := (f6_C_c5 k)) (fun _ => rfl)) (ap_cons _ (f6_f_c5 k)))))))))))))))
theorem f6_eq (k : Nat) (xs : DL f6_sig) : den T f6_Y (f6_E k) f6_A k f6_c 0 (σ0 55 176 f6_sig xs) (Kfin T f6_rs f6_ts) = f6 k xs.1 xs.2.1 xs.2.2.1 :=
  Eq.trans (Eq.trans den_sb (ap_at (f6_fe k) _)) ((f6_entry_P k (f6_C_c5 k) (f6_C_r9 k) xs).trans (by rw [f6_c5_E k] <;> rfl))
noncomputable def f6_con (k : Nat) : Con := ⟨f6_sig, f6_rs, fun xs => f6 k xs.1 xs.2.1 xs.2.2.1⟩
theorem f6_ok (k : Nat) : PureOK Try.prog 6 f6_sig f6_rs (fun xs => f6 k xs.1 xs.2.1 xs.2.2.1) :=
  (pure_of_den (k := k) (A := f6_A) (T := T) (Y := f6_Y) (E := f6_E k) (M := 176) (ts := f6_ts) T_ok ⟨f20_ok k, f33_ok k, f34_ok k, f35_ok k, f36_ok k, trivial⟩ ⟨f20_ent, f33_ent, f34_ent, f35_ent, f36_ent, trivial⟩ mixed (f := 6) (fn := Try.f6) (c := f6_c) (by kernel_rfl) (by kernel_rfl) (by kernel_rfl) (by decide) (by kernel_rfl)).congr fun xs => (f6_eq k xs).symm
theorem f6_ent : Ent Try.prog 6 := fun args w => by kernel_rfl
def Pure_RouteFinds : Prop := ∀ xs : DL f6_sig, wfs f6_sig xs → ∃ k, f6 k xs.1 xs.2.1 xs.2.2.1 = some (true, ())
end Go.Proofs.Ytpbmlhlpfbcnbaa.Rw
