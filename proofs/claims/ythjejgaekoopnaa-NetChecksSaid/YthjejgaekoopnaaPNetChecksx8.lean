-- Laid by wip/tools/myprint.py, this session's own program.
import Derived.Test.YthjejgaekoopnaaPNetChecksx0
import Derived.Test.YthjejgaekoopnaaPNetChecksx3
import Derived.Test.YthjejgaekoopnaaPNetChecksx7
namespace Go.Proofs.Ythjejgaekoopnaa.PNetChecks
open Go.RowKit Go.Proofs.YthjejgaekoopnaaW.PrintWords Go.Proofs.YthjejgaekoopnaaW.PrintLast Go.Proofs.YthjejgaekoopnaaW.PrintMore
attribute [local go_sem] max2_int min2_int max_two min_two max_three min_three max_four min_four   -- for this text's walks alone
set_option linter.unusedVariables false
set_option linter.unusedSimpArgs false

/-! ### terrlaw4_triangle: function 65 -/
def terrlaw4_triangle.f  : Option ((List (S46)) × (List (S55)) × (List (S66))) := some ((([(⟨0, 0⟩ : S46), (⟨1, 0⟩ : S46), (⟨0, 1⟩ : S46)] : List (S46))), (([(⟨0, 1, 2, 0⟩ : S55), (⟨1, 2, 2, 0⟩ : S55), (⟨0, 2, 5, 0⟩ : S55)] : List (S55))), ([] : List (S66)))
set_option maxHeartbeats 8000000 in
set_option maxRecDepth 100000 in
theorem terrlaw4_triangle.calls  (r1 : List (S46)) (r2 : List (S55)) (r3 : List (S66)) (w : World) (h : terrlaw4_triangle.f  = some (r1, r2, r3)) :
  Calls Try.prog 65 #[] w fun e w' => ∃ v0_ v1_ v2_ : Value, e = .returned (.agg #[v0_, v1_, v2_]) ∧ Kd.R k46 46 w' w.heap.size (fun _ => True) v0_ r1 ∧ Kd.R k55 55 w' w.heap.size (fun _ => True) v1_ r2 ∧ Kd.R k66 66 w' w.heap.size (fun _ => True) v2_ r3 ∧ Below w.heap.size w w' := by
 have hu53 := Try.underlying53
 have hu46 := Try.underlying46
 have hu55 := Try.underlying55
 have HB := Aside0.mk (Below.refl w.heap.size w)
 have H : (some ((([(⟨0, 0⟩ : S46), (⟨1, 0⟩ : S46), (⟨0, 1⟩ : S46)] : List (S46))), (([(⟨0, 1, 2, 0⟩ : S55), (⟨1, 2, 2, 0⟩ : S55), (⟨0, 2, 5, 0⟩ : S55)] : List (S55))), ([] : List (S66)))) = some (r1, r2, r3) := h
 clear h
 obtain ⟨y168, hy168⟩ : ∃ y_ : List (S46), y_ = (([(⟨0, 0⟩ : S46), (⟨1, 0⟩ : S46), (⟨0, 1⟩ : S46)] : List (S46))) := ⟨_, rfl⟩
 replace H : (some (y168, (([(⟨0, 1, 2, 0⟩ : S55), (⟨1, 2, 2, 0⟩ : S55), (⟨0, 2, 5, 0⟩ : S55)] : List (S55))), ([] : List (S66)))) = some (r1, r2, r3) := by first | (rw [hy168]; with_reducible exact H) | (have H2_ := (Option.bind_some _ _).symm.trans H; rw [hy168]; with_reducible exact H2_) | (have H2_ := (Option.bind_some _ _).symm.trans H; with_reducible exact H2_) | with_reducible exact H | (rw [hy168]; exact H) | exact H
 have Ny168 := Aside0.mk hy168
 clear hy168
 obtain ⟨y171, hy171⟩ : ∃ y_ : List (S55), y_ = (([(⟨0, 1, 2, 0⟩ : S55), (⟨1, 2, 2, 0⟩ : S55), (⟨0, 2, 5, 0⟩ : S55)] : List (S55))) := ⟨_, rfl⟩
 replace H : (some (y168, y171, ([] : List (S66)))) = some (r1, r2, r3) := by first | (rw [hy171]; with_reducible exact H) | (have H2_ := (Option.bind_some _ _).symm.trans H; rw [hy171]; with_reducible exact H2_) | (have H2_ := (Option.bind_some _ _).symm.trans H; with_reducible exact H2_) | with_reducible exact H | (rw [hy171]; exact H) | exact H
 have Ny171 := Aside0.mk hy171
 clear hy171
 simp only [Option.some.injEq, Prod.mk.injEq] at H
 obtain ⟨rfl, rfl, rfl⟩ := H
 go_enter Try.func65, Try.ntmps65
 go_wp2_with (first | ((with_reducible refine gate_dst (N := 0) rfl ?_); refine box_event ?hg (N := 0) ?hd (cs := #[.slice none 0 0, .slice none 0 0, .slice none 0 0]) (t := 53) ?hr ?_; (case hd => rfl); (case hg => rfl); (case hr => first | (go_simp; done) | (go_simp; rfl)); intro gb167 hg w1 hbox hb; have n0_ := Aside0.mk (below_step (by repeat (first | (with_reducible first | exact HB.out | apply below_alloc | apply pw_below_drewN | apply below_drew1) | exact HB.out)) hb); have n1_ := Aside0.mk (hbox); have n2_ := Aside0.mk ((by rw [hg]; exact (below_size (by repeat (first | (with_reducible first | exact HB.out | apply below_alloc | apply pw_below_drewN | apply below_drew1) | exact HB.out))) : w.heap.size ≤ gb167)); have n3_ := Aside0.mk ((by rw [hg]; exact (below_size (by repeat (first | (with_reducible first | exact HB.out | apply below_alloc | apply pw_below_drewN | apply below_drew1) | exact HB.out))) : w.heap.size ≤ gb167)); clear HB; have HB := n0_; have BK167 := n1_; have GW167 := n2_; have GE167 := n3_; clear n0_ n1_ n2_ n3_; clear hb hbox hg) | ((with_reducible refine gate_dst (N := 4) rfl ?_); refine Kd.R_lit k46 _ 46 ?hg (N := 4) ?hd (xs := ([(⟨0, 0⟩ : S46), (⟨1, 0⟩ : S46), (⟨0, 1⟩ : S46)] : List (S46))) (inner := [.int .i64 0, .int .i64 0, .int .i64 1, .int .i64 0, .int .i64 0, .int .i64 1]) (ok := fun _ => True) (okp := fun _ => True) ?hr ?hp (fun _ hk => hk) trivial (Below.refl _ _) (Nat.le_refl _) (by simp) ?_; (case hd => rfl); (case hg => rfl); (case hr => first | (go_simp; done) | (go_simp; rfl)); (case hp => exact (Reps.c2 (show Kd.M k46 _ _ _ (⟨0, 0⟩ : S46) [.int .i64 0, .int .i64 0] from (k46_mkM _ _ _ (⟨0, 0⟩ : S46) )) (Reps.c2 (show Kd.M k46 _ _ _ (⟨1, 0⟩ : S46) [.int .i64 1, .int .i64 0] from (k46_mkM _ _ _ (⟨1, 0⟩ : S46) )) (Reps.c2 (show Kd.M k46 _ _ _ (⟨0, 1⟩ : S46) [.int .i64 0, .int .i64 1] from (k46_mkM _ _ _ (⟨0, 1⟩ : S46) )) (Reps.none _ _))))); intro v169 w2 ho3 hb hg_ hnew_; clear hg_ hnew_; (first | rw [← Ny168.out] at ho3 | (simp only [Int.reduceToNat] at ho3; rw [← Ny168.out] at ho3)); have n0_ := Aside0.mk (Kd.R_lower ho3 (below_size (by repeat (first | (with_reducible first | exact HB.out | apply below_alloc | apply pw_below_drewN | apply below_drew1 | refine below_set ?_ GE167.out) | exact HB.out)))); have n1_ := Aside0.mk (blk_below (g := gb167) (o := .cells #[.slice none 0 0, .slice none 0 0, .slice none 0 0] 53 (0, 0)) (by (with_reducible repeat (first | refine blk_drewN ?_ _ | refine blk_drew ?_ | refine blk_alloc ?_ _)); exact BK167.out) hb); have n2_ := Aside0.mk (below_step (by repeat (first | (with_reducible first | exact HB.out | apply below_alloc | apply pw_below_drewN | apply below_drew1 | refine below_set ?_ GE167.out) | exact HB.out)) hb); clear BK167; clear HB; have HO170 := n0_; have BK167 := n1_; have HB := n2_; clear n0_ n1_ n2_; clear hb ho3) | ((with_reducible refine gate_dst (N := 8) rfl ?_); refine Kd.R_lit k55 _ 55 ?hg (N := 8) ?hd (xs := ([(⟨0, 1, 2, 0⟩ : S55), (⟨1, 2, 2, 0⟩ : S55), (⟨0, 2, 5, 0⟩ : S55)] : List (S55))) (inner := [.int .i64 0, .int .i64 1, .int .i64 2, .int .i64 0, .int .i64 1, .int .i64 2, .int .i64 2, .int .i64 0, .int .i64 0, .int .i64 2, .int .i64 5, .int .i64 0]) (ok := fun _ => True) (okp := fun _ => True) ?hr ?hp (fun _ hk => hk) trivial (Below.refl _ _) (Nat.le_refl _) (by simp) ?_; (case hd => rfl); (case hg => rfl); (case hr => first | (go_simp; done) | (go_simp; rfl)); (case hp => exact (Reps.c4 (show Kd.M k55 _ _ _ (⟨0, 1, 2, 0⟩ : S55) [.int .i64 0, .int .i64 1, .int .i64 2, .int .i64 0] from (k55_mkM _ _ _ (⟨0, 1, 2, 0⟩ : S55) )) (Reps.c4 (show Kd.M k55 _ _ _ (⟨1, 2, 2, 0⟩ : S55) [.int .i64 1, .int .i64 2, .int .i64 2, .int .i64 0] from (k55_mkM _ _ _ (⟨1, 2, 2, 0⟩ : S55) )) (Reps.c4 (show Kd.M k55 _ _ _ (⟨0, 2, 5, 0⟩ : S55) [.int .i64 0, .int .i64 2, .int .i64 5, .int .i64 0] from (k55_mkM _ _ _ (⟨0, 2, 5, 0⟩ : S55) )) (Reps.none _ _))))); intro v172 w4 ho5 hb hg_ hnew_; clear hg_ hnew_; (first | rw [← Ny171.out] at ho5 | (simp only [Int.reduceToNat] at ho5; rw [← Ny171.out] at ho5)); have n0_ := Aside0.mk (Kd.R_below (by (with_reducible repeat (first | apply Kd.R_alloc | apply Kd.R_drewN | apply Kd.R_drew)); exact HO170.out) hb); have n1_ := Aside0.mk (Kd.R_lower ho5 (below_size (by repeat (first | (with_reducible first | exact HB.out | apply below_alloc | apply pw_below_drewN | apply below_drew1 | refine below_set ?_ GE167.out) | exact HB.out)))); have n2_ := Aside0.mk (blk_below (g := gb167) (o := .cells #[.slice none 0 0, .slice none 0 0, .slice none 0 0] 53 (0, 0)) (by (with_reducible repeat (first | refine blk_drewN ?_ _ | refine blk_drew ?_ | refine blk_alloc ?_ _)); exact BK167.out) hb); have n3_ := Aside0.mk (below_step (by repeat (first | (with_reducible first | exact HB.out | apply below_alloc | apply pw_below_drewN | apply below_drew1 | refine below_set ?_ GE167.out) | exact HB.out)) hb); clear HO170; clear BK167; clear HB; have HO170 := n0_; have HO173 := n1_; have BK167 := n2_; have HB := n3_; clear n0_ n1_ n2_ n3_; clear hb ho5; obtain ⟨Ao6, co6, eo6⟩ := Kd.R_slice HO173.out; subst eo6; obtain ⟨Ao7, co7, eo7⟩ := Kd.R_slice HO170.out; subst eo7; have hcz8_0 : w4.cell? ⟨gb167, 0, none⟩ = some (.slice none 0 0) := (blk_cell BK167.out 0).trans rfl; have hcz8_1 : w4.cell? ⟨gb167, 1, none⟩ = some (.slice none 0 0) := (blk_cell BK167.out 1).trans rfl; have hcz8_2 : w4.cell? ⟨gb167, 2, none⟩ = some (.slice none 0 0) := (blk_cell BK167.out 2).trans rfl; have hfz8_0 := blk_frozen BK167.out 0; have hfz8_1 := blk_frozen BK167.out 1; have hfz8_2 := blk_frozen BK167.out 2))
 refine bodyPost_ret (results_cell_row rfl _ _ gb167 53 #[.slice Ao7 y168.length co7, .slice Ao6 y171.length co6, .slice none 0 0] (0, 0) _ rfl (by (with_reducible repeat (first | refine blk_drewN ?_ _ | refine blk_drew ?_ | refine blk_alloc ?_ _)); refine blk_put (cs := #[.slice Ao7 y168.length co7, .slice Ao6 y171.length co6, .slice none 0 0]) ?_ 2 _ rfl; (with_reducible repeat (first | refine blk_drewN ?_ _ | refine blk_drew ?_ | refine blk_alloc ?_ _)); refine blk_put (cs := #[.slice Ao7 y168.length co7, .slice none 0 0, .slice none 0 0]) ?_ 1 _ rfl; (with_reducible repeat (first | refine blk_drewN ?_ _ | refine blk_drew ?_ | refine blk_alloc ?_ _)); refine blk_put (cs := #[.slice none 0 0, .slice none 0 0, .slice none 0 0]) ?_ 0 _ rfl; (with_reducible repeat (first | refine blk_drewN ?_ _ | refine blk_drew ?_ | refine blk_alloc ?_ _)); exact BK167.out) Try.underlying53 rfl (by kernel_rfl)) rfl ?_
 exact ⟨_, _, _, by first | rfl | (simp [errW_none, errW_some] <;> rfl) | (simp [*, errW_none, errW_some] <;> rfl), by (with_reducible repeat (first | apply Kd.R_alloc | apply Kd.R_drewN | apply Kd.R_drew)); exact Kd.R_mono (Kd.R_far (p := ⟨gb167, 2, none⟩) (Kd.R_far (p := ⟨gb167, 1, none⟩) (Kd.R_far (p := ⟨gb167, 0, none⟩) (Kd.R_types HO170.out BK167.out (by decide)) (fun _ hk => hk.2) (.slice Ao7 y168.length co7)) (fun _ hk => hk.2) (.slice Ao6 y171.length co6)) (fun _ hk => hk.2) (.slice none 0 0)) (fun _ hk => trivial), by (with_reducible repeat (first | apply Kd.R_alloc | apply Kd.R_drewN | apply Kd.R_drew)); exact Kd.R_mono (Kd.R_far (p := ⟨gb167, 2, none⟩) (Kd.R_far (p := ⟨gb167, 1, none⟩) (Kd.R_far (p := ⟨gb167, 0, none⟩) (Kd.R_types HO173.out BK167.out (by decide)) (fun _ hk => hk.2) (.slice Ao7 y168.length co7)) (fun _ hk => hk.2) (.slice Ao6 y171.length co6)) (fun _ hk => hk.2) (.slice none 0 0)) (fun _ hk => trivial), by first | exact Kd.R_nil _ _ _ _ _ | exact Kd.N_nil _ _ _ _ _ | exact Kd.V_nil _ _ _ _ _ | exact Kd.Q_nil _ _ _ _ _ | exact Kd.S_nil _ _ _ _ _, by repeat (first | (with_reducible first | exact HB.out | apply below_alloc | apply pw_below_drewN | apply below_drew1 | refine below_set ?_ GE167.out) | exact HB.out)⟩

/-! ### terrlaw4_netted: function 32 -/
def terrlaw4_netted.f (k : Nat)  : Option (Bool) := (terrlaw4_triangle.f).bind fun bt174 => ((net_Cost.f k bt174.1 bt174.2.1 bt174.2.2 (([0, 1] : List Int))).bind fun bt186 => (if bt186.2 = 0 then (if bt186.1 = 4 then ((terrlaw4_triangle.f).bind fun bt188 => ((net_Out.f k bt188.1 bt188.2.1 bt188.2.2 0).bind fun t197 => ((slices_Equal_int_int.f k t197 (([0, 2] : List Int))).bind fun t203 => (some t203)))) else (some false)) else (some false)))
theorem terrlaw4_netted.mono : ∀ k, LeO (terrlaw4_netted.f k ) (terrlaw4_netted.f (k + 1) ) := by
 intro  k
 unfold terrlaw4_netted.f
 repeat' first
   | (with_reducible exact net_Cost.mono _ _ _ _ _)
   | (with_reducible exact net_Out.mono _ _ _ _ _)
   | (with_reducible exact slices_Equal_int_int.mono _ _ _)
   | (with_reducible exact LeO.refl _)
   | (with_reducible exact LeO.none _)
   | (with_reducible refine LeO.ite ?_ ?_)
   | (with_reducible refine LeO.bind ?_ (fun _ => ?_))
   | exact net_Cost.mono _ _ _ _ _
   | exact net_Out.mono _ _ _ _ _
   | exact slices_Equal_int_int.mono _ _ _
   | exact LeO.none _
   | refine LeO.ite ?_ ?_
   | refine LeO.bind ?_ (fun _ => ?_)
set_option maxHeartbeats 8000000 in
set_option maxRecDepth 100000 in
theorem terrlaw4_netted.calls (k : Nat)  (r : Bool) (w : World) (h : terrlaw4_netted.f k  = some r) :
  Calls Try.prog 32 #[] w fun e w' => e = .returned (.bool r) ∧ Below w.heap.size w w' := by
 have HB := Aside0.mk (Below.refl w.heap.size w)
 have H : ((terrlaw4_triangle.f).bind fun bt174 => ((net_Cost.f k bt174.1 bt174.2.1 bt174.2.2 (([0, 1] : List Int))).bind fun bt186 => (if bt186.2 = 0 then (if bt186.1 = 4 then ((terrlaw4_triangle.f).bind fun bt188 => ((net_Out.f k bt188.1 bt188.2.1 bt188.2.2 0).bind fun t197 => ((slices_Equal_int_int.f k t197 (([0, 2] : List Int))).bind fun t203 => (some t203)))) else (some false)) else (some false)))) = some r := h
 clear h
 replace H := Option.bind_eq_some_iff.mp H
 obtain ⟨⟨t174, t177, t180⟩, A10, H⟩ := H
 replace H : ((net_Cost.f k t174 t177 t180 (([0, 1] : List Int))).bind fun bt186 => (if bt186.2 = 0 then (if bt186.1 = 4 then ((terrlaw4_triangle.f).bind fun bt188 => ((net_Out.f k bt188.1 bt188.2.1 bt188.2.2 0).bind fun t197 => ((slices_Equal_int_int.f k t197 (([0, 2] : List Int))).bind fun t203 => (some t203)))) else (some false)) else (some false))) = some r := H
 have A1 := Aside0.mk A10
 clear A10
 obtain ⟨y183, hy183⟩ : ∃ y_ : List Int, y_ = (([0, 1] : List Int)) := ⟨_, rfl⟩
 replace H : ((net_Cost.f k t174 t177 t180 y183).bind fun bt186 => (if bt186.2 = 0 then (if bt186.1 = 4 then ((terrlaw4_triangle.f).bind fun bt188 => ((net_Out.f k bt188.1 bt188.2.1 bt188.2.2 0).bind fun t197 => ((slices_Equal_int_int.f k t197 (([0, 2] : List Int))).bind fun t203 => (some t203)))) else (some false)) else (some false))) = some r := by first | (rw [hy183]; with_reducible exact H) | (have H2_ := (Option.bind_some _ _).symm.trans H; rw [hy183]; with_reducible exact H2_) | (have H2_ := (Option.bind_some _ _).symm.trans H; with_reducible exact H2_) | with_reducible exact H | (rw [hy183]; exact H) | exact H
 have Ny183 := Aside0.mk hy183
 clear hy183
 replace H := Option.bind_eq_some_iff.mp H
 obtain ⟨⟨t186, t187⟩, A20, H⟩ := H
 replace H : (if t187 = 0 then (if t186 = 4 then ((terrlaw4_triangle.f).bind fun bt188 => ((net_Out.f k bt188.1 bt188.2.1 bt188.2.2 0).bind fun t197 => ((slices_Equal_int_int.f k t197 (([0, 2] : List Int))).bind fun t203 => (some t203)))) else (some false)) else (some false)) = some r := H
 have A2 := Aside0.mk A20
 clear A20
 by_cases c3 : t187 = 0
 ·
  rw [if_pos c3] at H
  have c3b0 : (t187 == 0) = true := beq_iff_eq.mpr c3
  have c3b1 : (t187 != 0) = false := bne_eq_false_iff_eq.mpr c3
  clear c3
  by_cases c4 : t186 = 4
  ·
   rw [if_pos c4] at H
   have c4b0 : (t186 == 4) = true := beq_iff_eq.mpr c4
   have c4b1 : (t186 != 4) = false := bne_eq_false_iff_eq.mpr c4
   clear c4
   replace H := Option.bind_eq_some_iff.mp H
   obtain ⟨⟨t188, t191, t194⟩, A50, H⟩ := H
   replace H : ((net_Out.f k t188 t191 t194 0).bind fun t197 => ((slices_Equal_int_int.f k t197 (([0, 2] : List Int))).bind fun t203 => (some t203))) = some r := H
   have A5 := Aside0.mk A50
   clear A50
   replace H := Option.bind_eq_some_iff.mp H
   obtain ⟨t197, A60, H⟩ := H
   replace H : ((slices_Equal_int_int.f k t197 (([0, 2] : List Int))).bind fun t203 => (some t203)) = some r := H
   have A6 := Aside0.mk A60
   clear A60
   obtain ⟨y200, hy200⟩ : ∃ y_ : List Int, y_ = (([0, 2] : List Int)) := ⟨_, rfl⟩
   replace H : ((slices_Equal_int_int.f k t197 y200).bind fun t203 => (some t203)) = some r := by first | (rw [hy200]; with_reducible exact H) | (have H2_ := (Option.bind_some _ _).symm.trans H; rw [hy200]; with_reducible exact H2_) | (have H2_ := (Option.bind_some _ _).symm.trans H; with_reducible exact H2_) | with_reducible exact H | (rw [hy200]; exact H) | exact H
   have Ny200 := Aside0.mk hy200
   clear hy200
   replace H := Option.bind_eq_some_iff.mp H
   obtain ⟨t203, A70, H⟩ := H
   replace H : (some t203) = some r := H
   have A7 := Aside0.mk A70
   clear A70
   obtain rfl := Option.some.inj H
   go_enter Try.func32, Try.ntmps32
   go_wp2_with (first | ((with_reducible refine gate_callee (f := 65) rfl ?_); refine goesL_ (some 4) rfl rfl Try.func65 (by kernel_rfl) rfl #[] rfl (by (try simp only [List.map_toArray, List.map_cons, List.map_nil]); first | done | rfl | (simp only [List.length_drop, List.length_take]; rfl)) ?_; (with_reducible refine (terrlaw4_triangle.calls  t174 t177 t180 _ A1.out).mono ?_); rintro e w8 ⟨v175, v178, v181, rfl, ho0, ho1, ho2, hb⟩; refine ⟨_, rfl, ?_⟩; have n0_ := Aside0.mk (Kd.R_lower ho0 (below_size (by repeat (first | (with_reducible first | exact HB.out | apply below_alloc | apply pw_below_drewN | apply below_drew1) | exact HB.out)))); have n1_ := Aside0.mk (Kd.R_lower ho1 (below_size (by repeat (first | (with_reducible first | exact HB.out | apply below_alloc | apply pw_below_drewN | apply below_drew1) | exact HB.out)))); have n2_ := Aside0.mk (Kd.R_lower ho2 (below_size (by repeat (first | (with_reducible first | exact HB.out | apply below_alloc | apply pw_below_drewN | apply below_drew1) | exact HB.out)))); have n3_ := Aside0.mk (below_step (by repeat (first | (with_reducible first | exact HB.out | apply below_alloc | apply pw_below_drewN | apply below_drew1) | exact HB.out)) hb); clear HB; have HO176 := n0_; have HO179 := n1_; have HO182 := n2_; have HB := n3_; clear n0_ n1_ n2_ n3_; (try clear hb); (try clear hb2); (try clear hk); (try clear hi); (try clear ho0); (try clear ho1); (try clear ho2)) | ((with_reducible refine gate_dst (N := 5) rfl ?_); (try (refine gate_guard (by rfl) ?_; dsimp only)); refine Kd.R_lit (Kd.int .i64) _ 3 ?hg (N := 5) ?hd (xs := ([0, 1] : List Int)) (inner := [.int .i64 0, .int .i64 1]) (ok := fun _ => True) (okp := fun _ => True) ?hr ?hp (fun _ hk => hk) trivial (Below.refl _ _) (Nat.le_refl _) (by simp) ?_; (case hd => rfl); (case hg => rfl); (case hr => first | (go_simp; done) | (go_simp; rfl)); (case hp => exact (Reps.one (show Kd.M (Kd.int .i64) _ _ _ 0 [.int .i64 0] from rfl) (Reps.one (show Kd.M (Kd.int .i64) _ _ _ 1 [.int .i64 1] from rfl) (Reps.none _ _)))); intro v184 w9 ho10 hb hg_ hnew_; clear hg_ hnew_; (first | rw [← Ny183.out] at ho10 | (simp only [Int.reduceToNat] at ho10; rw [← Ny183.out] at ho10)); have n0_ := Aside0.mk (Kd.R_below (by (with_reducible repeat (first | apply Kd.R_alloc | apply Kd.R_drewN | apply Kd.R_drew)); exact HO176.out) hb); have n1_ := Aside0.mk (Kd.R_below (by (with_reducible repeat (first | apply Kd.R_alloc | apply Kd.R_drewN | apply Kd.R_drew)); exact HO179.out) hb); have n2_ := Aside0.mk (Kd.R_below (by (with_reducible repeat (first | apply Kd.R_alloc | apply Kd.R_drewN | apply Kd.R_drew)); exact HO182.out) hb); have n3_ := Aside0.mk (Kd.R_lower ho10 (below_size (by repeat (first | (with_reducible first | exact HB.out | apply below_alloc | apply pw_below_drewN | apply below_drew1) | exact HB.out)))); have n4_ := Aside0.mk (below_step (by repeat (first | (with_reducible first | exact HB.out | apply below_alloc | apply pw_below_drewN | apply below_drew1) | exact HB.out)) hb); clear HO176; clear HO179; clear HO182; clear HB; have HO176 := n0_; have HO179 := n1_; have HO182 := n2_; have HO185 := n3_; have HB := n4_; clear n0_ n1_ n2_ n3_ n4_; clear hb ho10; obtain ⟨Ao11, co11, eo11⟩ := Kd.R_slice HO176.out; subst eo11; obtain ⟨Ao12, co12, eo12⟩ := Kd.R_slice HO179.out; subst eo12; obtain ⟨Ao13, co13, eo13⟩ := Kd.R_slice HO182.out; subst eo13; obtain ⟨Ao14, co14, eo14⟩ := Kd.R_slice HO185.out; subst eo14) | ((with_reducible refine gate_callee (f := 40) rfl ?_); refine goesL_ (some 6) rfl rfl Try.func40 (by kernel_rfl) rfl #[.agg #[.slice Ao11 t174.length co11, .slice Ao12 t177.length co12, .slice Ao13 t180.length co13], .slice Ao14 y183.length co14] rfl (by (try simp only [List.map_toArray, List.map_cons, List.map_nil]); first | done | rfl | (simp only [List.length_drop, List.length_take]; rfl)) ?_; (with_reducible refine (net_Cost.calls k _ _ t174 _ _ t177 _ _ t180 _ _ y183 t186 t187 _ ?side1 ?side2 ?side3 ?side4 ?side5 ?side6 ?side7 ?side8 A2.out).mono ?_); (case side1 => repeat (first | exact (Kd.R_reads' HO176.out).2.2 | (with_reducible refine Kd.C_alloc ?_ _) | (with_reducible refine Kd.C_drewN ?_ _) | (with_reducible refine Kd.C_drew ?_))); (case side2 => exact (Kd.R_reads' HO176.out).2.1); (case side3 => repeat (first | exact (Kd.R_reads' HO179.out).2.2 | (with_reducible refine Kd.C_alloc ?_ _) | (with_reducible refine Kd.C_drewN ?_ _) | (with_reducible refine Kd.C_drew ?_))); (case side4 => exact (Kd.R_reads' HO179.out).2.1); (case side5 => repeat (first | exact (Kd.R_reads' HO182.out).2.2 | (with_reducible refine Kd.C_alloc ?_ _) | (with_reducible refine Kd.C_drewN ?_ _) | (with_reducible refine Kd.C_drew ?_))); (case side6 => exact (Kd.R_reads' HO182.out).2.1); (case side7 => repeat (first | exact (Kd.R_reads' HO185.out).2.2 | (with_reducible refine Kd.C_alloc ?_ _) | (with_reducible refine Kd.C_drewN ?_ _) | (with_reducible refine Kd.C_drew ?_))); (case side8 => exact (Kd.R_reads' HO185.out).2.1); rintro e w15 ⟨rfl, hb⟩; refine ⟨_, rfl, ?_⟩; have n0_ := Aside0.mk (Kd.R_below (by (with_reducible repeat (first | apply Kd.R_alloc | apply Kd.R_drewN | apply Kd.R_drew)); exact HO176.out) hb); have n1_ := Aside0.mk (Kd.R_below (by (with_reducible repeat (first | apply Kd.R_alloc | apply Kd.R_drewN | apply Kd.R_drew)); exact HO179.out) hb); have n2_ := Aside0.mk (Kd.R_below (by (with_reducible repeat (first | apply Kd.R_alloc | apply Kd.R_drewN | apply Kd.R_drew)); exact HO182.out) hb); have n3_ := Aside0.mk (Kd.R_below (by (with_reducible repeat (first | apply Kd.R_alloc | apply Kd.R_drewN | apply Kd.R_drew)); exact HO185.out) hb); have n4_ := Aside0.mk (below_step (by repeat (first | (with_reducible first | exact HB.out | apply below_alloc | apply pw_below_drewN | apply below_drew1) | exact HB.out)) hb); clear HO176; clear HO179; clear HO182; clear HO185; clear HB; have HO176 := n0_; have HO179 := n1_; have HO182 := n2_; have HO185 := n3_; have HB := n4_; clear n0_ n1_ n2_ n3_ n4_; (try clear hb); (try clear hb2); (try clear hk); (try clear hi)) | (go_at_call 65; (with_reducible refine (terrlaw4_triangle.calls  t188 t191 t194 _ A5.out).mono ?_); rintro e w16 ⟨v189, v192, v195, rfl, ho0, ho1, ho2, hb⟩; have n0_ := Aside0.mk (Kd.R_elder' (by (with_reducible repeat (first | apply Kd.R_alloc | apply Kd.R_drewN | apply Kd.R_drew)); exact HO176.out) (Kd.R_base ho0) hb); have n1_ := Aside0.mk (Kd.R_elder' (by (with_reducible repeat (first | apply Kd.R_alloc | apply Kd.R_drewN | apply Kd.R_drew)); exact HO179.out) (Kd.R_base ho1) hb); have n2_ := Aside0.mk (Kd.R_elder' (by (with_reducible repeat (first | apply Kd.R_alloc | apply Kd.R_drewN | apply Kd.R_drew)); exact HO182.out) (Kd.R_base ho2) hb); have n3_ := Aside0.mk (Kd.R_below (by (with_reducible repeat (first | apply Kd.R_alloc | apply Kd.R_drewN | apply Kd.R_drew)); exact HO185.out) hb); have n4_ := Aside0.mk (Kd.R_lower (Kd.R_new' ho0 (Kd.R_lt (by (with_reducible repeat (first | apply Kd.R_alloc | apply Kd.R_drewN | apply Kd.R_drew)); exact HO176.out))) (below_size (by repeat (first | (with_reducible first | exact HB.out | apply below_alloc | apply pw_below_drewN | apply below_drew1) | exact HB.out)))); have n5_ := Aside0.mk (Kd.R_lower (Kd.R_new' ho1 (Kd.R_lt (by (with_reducible repeat (first | apply Kd.R_alloc | apply Kd.R_drewN | apply Kd.R_drew)); exact HO179.out))) (below_size (by repeat (first | (with_reducible first | exact HB.out | apply below_alloc | apply pw_below_drewN | apply below_drew1) | exact HB.out)))); have n6_ := Aside0.mk (Kd.R_lower (Kd.R_new' ho2 (Kd.R_lt (by (with_reducible repeat (first | apply Kd.R_alloc | apply Kd.R_drewN | apply Kd.R_drew)); exact HO182.out))) (below_size (by repeat (first | (with_reducible first | exact HB.out | apply below_alloc | apply pw_below_drewN | apply below_drew1) | exact HB.out)))); have n7_ := Aside0.mk (below_step (by repeat (first | (with_reducible first | exact HB.out | apply below_alloc | apply pw_below_drewN | apply below_drew1) | exact HB.out)) hb); clear HO176; clear HO179; clear HO182; clear HO185; clear HB; have HO176 := n0_; have HO179 := n1_; have HO182 := n2_; have HO185 := n3_; have HO190 := n4_; have HO193 := n5_; have HO196 := n6_; have HB := n7_; clear n0_ n1_ n2_ n3_ n4_ n5_ n6_ n7_; (try clear hb); (try clear hb2); (try clear hk); (try clear hi); (try clear ho0); (try clear ho1); (try clear ho2); obtain ⟨Ao17, co17, eo17⟩ := Kd.R_slice HO190.out; subst eo17; obtain ⟨Ao18, co18, eo18⟩ := Kd.R_slice HO193.out; subst eo18; obtain ⟨Ao19, co19, eo19⟩ := Kd.R_slice HO196.out; subst eo19) | (go_at_call 36; (with_reducible refine (net_Out.calls k _ _ t188 _ _ t191 _ _ t194 0 t197 _ ?side1 ?side2 ?side3 ?side4 ?side5 ?side6 A6.out).mono ?_); (case side1 => repeat (first | exact (Kd.R_reads' HO190.out).2.2 | (with_reducible refine Kd.C_alloc ?_ _) | (with_reducible refine Kd.C_drewN ?_ _) | (with_reducible refine Kd.C_drew ?_))); (case side2 => exact (Kd.R_reads' HO190.out).2.1); (case side3 => repeat (first | exact (Kd.R_reads' HO193.out).2.2 | (with_reducible refine Kd.C_alloc ?_ _) | (with_reducible refine Kd.C_drewN ?_ _) | (with_reducible refine Kd.C_drew ?_))); (case side4 => exact (Kd.R_reads' HO193.out).2.1); (case side5 => repeat (first | exact (Kd.R_reads' HO196.out).2.2 | (with_reducible refine Kd.C_alloc ?_ _) | (with_reducible refine Kd.C_drewN ?_ _) | (with_reducible refine Kd.C_drew ?_))); (case side6 => exact (Kd.R_reads' HO196.out).2.1); rintro e w20 ⟨v198, rfl, ho0, hb⟩; have n0_ := Aside0.mk (Kd.R_below (by (with_reducible repeat (first | apply Kd.R_alloc | apply Kd.R_drewN | apply Kd.R_drew)); exact HO176.out) hb); have n1_ := Aside0.mk (Kd.R_below (by (with_reducible repeat (first | apply Kd.R_alloc | apply Kd.R_drewN | apply Kd.R_drew)); exact HO179.out) hb); have n2_ := Aside0.mk (Kd.R_below (by (with_reducible repeat (first | apply Kd.R_alloc | apply Kd.R_drewN | apply Kd.R_drew)); exact HO182.out) hb); have n3_ := Aside0.mk (Kd.R_elder' (by (with_reducible repeat (first | apply Kd.R_alloc | apply Kd.R_drewN | apply Kd.R_drew)); exact HO185.out) (Kd.R_base ho0) hb); have n4_ := Aside0.mk (Kd.R_below (by (with_reducible repeat (first | apply Kd.R_alloc | apply Kd.R_drewN | apply Kd.R_drew)); exact HO190.out) hb); have n5_ := Aside0.mk (Kd.R_below (by (with_reducible repeat (first | apply Kd.R_alloc | apply Kd.R_drewN | apply Kd.R_drew)); exact HO193.out) hb); have n6_ := Aside0.mk (Kd.R_below (by (with_reducible repeat (first | apply Kd.R_alloc | apply Kd.R_drewN | apply Kd.R_drew)); exact HO196.out) hb); have n7_ := Aside0.mk (Kd.R_lower (Kd.R_new' ho0 (Kd.R_lt (by (with_reducible repeat (first | apply Kd.R_alloc | apply Kd.R_drewN | apply Kd.R_drew)); exact HO185.out))) (below_size (by repeat (first | (with_reducible first | exact HB.out | apply below_alloc | apply pw_below_drewN | apply below_drew1) | exact HB.out)))); have n8_ := Aside0.mk (below_step (by repeat (first | (with_reducible first | exact HB.out | apply below_alloc | apply pw_below_drewN | apply below_drew1) | exact HB.out)) hb); clear HO176; clear HO179; clear HO182; clear HO185; clear HO190; clear HO193; clear HO196; clear HB; have HO176 := n0_; have HO179 := n1_; have HO182 := n2_; have HO185 := n3_; have HO190 := n4_; have HO193 := n5_; have HO196 := n6_; have HO199 := n7_; have HB := n8_; clear n0_ n1_ n2_ n3_ n4_ n5_ n6_ n7_ n8_; (try clear hb); (try clear hb2); (try clear hk); (try clear hi); (try clear ho0)) | ((with_reducible refine gate_dst (N := 18) rfl ?_); (try (refine gate_guard (by rfl) ?_; dsimp only)); refine Kd.R_lit (Kd.int .i64) _ 3 ?hg (N := 18) ?hd (xs := ([0, 2] : List Int)) (inner := [.int .i64 0, .int .i64 2]) (ok := fun _ => True) (okp := fun _ => True) ?hr ?hp (fun _ hk => hk) trivial (Below.refl _ _) (Nat.le_refl _) (by simp) ?_; (case hd => rfl); (case hg => rfl); (case hr => first | (go_simp; done) | (go_simp; rfl)); (case hp => exact (Reps.one (show Kd.M (Kd.int .i64) _ _ _ 0 [.int .i64 0] from rfl) (Reps.one (show Kd.M (Kd.int .i64) _ _ _ 2 [.int .i64 2] from rfl) (Reps.none _ _)))); intro v201 w21 ho22 hb hg_ hnew_; clear hg_ hnew_; (first | rw [← Ny200.out] at ho22 | (simp only [Int.reduceToNat] at ho22; rw [← Ny200.out] at ho22)); have n0_ := Aside0.mk (Kd.R_below (by (with_reducible repeat (first | apply Kd.R_alloc | apply Kd.R_drewN | apply Kd.R_drew)); exact HO176.out) hb); have n1_ := Aside0.mk (Kd.R_below (by (with_reducible repeat (first | apply Kd.R_alloc | apply Kd.R_drewN | apply Kd.R_drew)); exact HO179.out) hb); have n2_ := Aside0.mk (Kd.R_below (by (with_reducible repeat (first | apply Kd.R_alloc | apply Kd.R_drewN | apply Kd.R_drew)); exact HO182.out) hb); have n3_ := Aside0.mk (Kd.R_elder' (by (with_reducible repeat (first | apply Kd.R_alloc | apply Kd.R_drewN | apply Kd.R_drew)); exact HO185.out) (Kd.R_base ho22) hb); have n4_ := Aside0.mk (Kd.R_below (by (with_reducible repeat (first | apply Kd.R_alloc | apply Kd.R_drewN | apply Kd.R_drew)); exact HO190.out) hb); have n5_ := Aside0.mk (Kd.R_below (by (with_reducible repeat (first | apply Kd.R_alloc | apply Kd.R_drewN | apply Kd.R_drew)); exact HO193.out) hb); have n6_ := Aside0.mk (Kd.R_below (by (with_reducible repeat (first | apply Kd.R_alloc | apply Kd.R_drewN | apply Kd.R_drew)); exact HO196.out) hb); have n7_ := Aside0.mk (Kd.R_elder' (by (with_reducible repeat (first | apply Kd.R_alloc | apply Kd.R_drewN | apply Kd.R_drew)); exact HO199.out) (Kd.R_base ho22) hb); have n8_ := Aside0.mk (Kd.R_lower (Kd.R_new' (Kd.R_new' ho22 (Kd.R_lt (by (with_reducible repeat (first | apply Kd.R_alloc | apply Kd.R_drewN | apply Kd.R_drew)); exact HO185.out))) (Kd.R_lt (by (with_reducible repeat (first | apply Kd.R_alloc | apply Kd.R_drewN | apply Kd.R_drew)); exact HO199.out))) (below_size (by repeat (first | (with_reducible first | exact HB.out | apply below_alloc | apply pw_below_drewN | apply below_drew1) | exact HB.out)))); have n9_ := Aside0.mk (below_step (by repeat (first | (with_reducible first | exact HB.out | apply below_alloc | apply pw_below_drewN | apply below_drew1) | exact HB.out)) hb); clear HO176; clear HO179; clear HO182; clear HO185; clear HO190; clear HO193; clear HO196; clear HO199; clear HB; have HO176 := n0_; have HO179 := n1_; have HO182 := n2_; have HO185 := n3_; have HO190 := n4_; have HO193 := n5_; have HO196 := n6_; have HO199 := n7_; have HO202 := n8_; have HB := n9_; clear n0_ n1_ n2_ n3_ n4_ n5_ n6_ n7_ n8_ n9_; clear hb ho22; obtain ⟨Ao23, co23, eo23⟩ := Kd.R_slice HO199.out; subst eo23; obtain ⟨Ao24, co24, eo24⟩ := Kd.R_slice HO202.out; subst eo24) | (go_at_call 35; (with_reducible refine (slices_Equal_int_int.calls k _ _ t197 _ _ y200 t203 _ ?side1 ?side2 ?side3 ?side4 A7.out).mono ?_); (case side1 => repeat (first | exact (Kd.R_reads' HO199.out).2.2 | (with_reducible refine Kd.C_alloc ?_ _) | (with_reducible refine Kd.C_drewN ?_ _) | (with_reducible refine Kd.C_drew ?_))); (case side2 => exact (Kd.R_reads' HO199.out).2.1); (case side3 => repeat (first | exact (Kd.R_reads' HO202.out).2.2 | (with_reducible refine Kd.C_alloc ?_ _) | (with_reducible refine Kd.C_drewN ?_ _) | (with_reducible refine Kd.C_drew ?_))); (case side4 => exact (Kd.R_reads' HO202.out).2.1); rintro e w' ⟨rfl, ⟨nd, rfl⟩⟩))
   go_ret
   exact ⟨by first | rfl | (simp [errW_none, errW_some] <;> rfl) | (simp [*, errW_none, errW_some] <;> rfl), by repeat (first | (with_reducible first | exact HB.out | apply below_alloc | apply pw_below_drewN | apply below_drew1) | exact HB.out)⟩
  ·
   rw [if_neg c4] at H
   have c4b0 : (t186 == 4) = false := beq_eq_false_iff_ne.mpr c4
   have c4b1 : (t186 != 4) = true := bne_iff_ne.mpr c4
   obtain rfl := Option.some.inj H
   go_enter Try.func32, Try.ntmps32
   go_wp2_with (first | ((with_reducible refine gate_callee (f := 65) rfl ?_); refine goesL_ (some 4) rfl rfl Try.func65 (by kernel_rfl) rfl #[] rfl (by (try simp only [List.map_toArray, List.map_cons, List.map_nil]); first | done | rfl | (simp only [List.length_drop, List.length_take]; rfl)) ?_; (with_reducible refine (terrlaw4_triangle.calls  t174 t177 t180 _ A1.out).mono ?_); rintro e w25 ⟨v175, v178, v181, rfl, ho0, ho1, ho2, hb⟩; refine ⟨_, rfl, ?_⟩; have n0_ := Aside0.mk (Kd.R_lower ho0 (below_size (by repeat (first | (with_reducible first | exact HB.out | apply below_alloc | apply pw_below_drewN | apply below_drew1) | exact HB.out)))); have n1_ := Aside0.mk (Kd.R_lower ho1 (below_size (by repeat (first | (with_reducible first | exact HB.out | apply below_alloc | apply pw_below_drewN | apply below_drew1) | exact HB.out)))); have n2_ := Aside0.mk (Kd.R_lower ho2 (below_size (by repeat (first | (with_reducible first | exact HB.out | apply below_alloc | apply pw_below_drewN | apply below_drew1) | exact HB.out)))); have n3_ := Aside0.mk (below_step (by repeat (first | (with_reducible first | exact HB.out | apply below_alloc | apply pw_below_drewN | apply below_drew1) | exact HB.out)) hb); clear HB; have HO176 := n0_; have HO179 := n1_; have HO182 := n2_; have HB := n3_; clear n0_ n1_ n2_ n3_; (try clear hb); (try clear hb2); (try clear hk); (try clear hi); (try clear ho0); (try clear ho1); (try clear ho2)) | ((with_reducible refine gate_dst (N := 5) rfl ?_); (try (refine gate_guard (by rfl) ?_; dsimp only)); refine Kd.R_lit (Kd.int .i64) _ 3 ?hg (N := 5) ?hd (xs := ([0, 1] : List Int)) (inner := [.int .i64 0, .int .i64 1]) (ok := fun _ => True) (okp := fun _ => True) ?hr ?hp (fun _ hk => hk) trivial (Below.refl _ _) (Nat.le_refl _) (by simp) ?_; (case hd => rfl); (case hg => rfl); (case hr => first | (go_simp; done) | (go_simp; rfl)); (case hp => exact (Reps.one (show Kd.M (Kd.int .i64) _ _ _ 0 [.int .i64 0] from rfl) (Reps.one (show Kd.M (Kd.int .i64) _ _ _ 1 [.int .i64 1] from rfl) (Reps.none _ _)))); intro v184 w26 ho27 hb hg_ hnew_; clear hg_ hnew_; (first | rw [← Ny183.out] at ho27 | (simp only [Int.reduceToNat] at ho27; rw [← Ny183.out] at ho27)); have n0_ := Aside0.mk (Kd.R_below (by (with_reducible repeat (first | apply Kd.R_alloc | apply Kd.R_drewN | apply Kd.R_drew)); exact HO176.out) hb); have n1_ := Aside0.mk (Kd.R_below (by (with_reducible repeat (first | apply Kd.R_alloc | apply Kd.R_drewN | apply Kd.R_drew)); exact HO179.out) hb); have n2_ := Aside0.mk (Kd.R_below (by (with_reducible repeat (first | apply Kd.R_alloc | apply Kd.R_drewN | apply Kd.R_drew)); exact HO182.out) hb); have n3_ := Aside0.mk (Kd.R_lower ho27 (below_size (by repeat (first | (with_reducible first | exact HB.out | apply below_alloc | apply pw_below_drewN | apply below_drew1) | exact HB.out)))); have n4_ := Aside0.mk (below_step (by repeat (first | (with_reducible first | exact HB.out | apply below_alloc | apply pw_below_drewN | apply below_drew1) | exact HB.out)) hb); clear HO176; clear HO179; clear HO182; clear HB; have HO176 := n0_; have HO179 := n1_; have HO182 := n2_; have HO185 := n3_; have HB := n4_; clear n0_ n1_ n2_ n3_ n4_; clear hb ho27; obtain ⟨Ao28, co28, eo28⟩ := Kd.R_slice HO176.out; subst eo28; obtain ⟨Ao29, co29, eo29⟩ := Kd.R_slice HO179.out; subst eo29; obtain ⟨Ao30, co30, eo30⟩ := Kd.R_slice HO182.out; subst eo30; obtain ⟨Ao31, co31, eo31⟩ := Kd.R_slice HO185.out; subst eo31) | ((with_reducible refine gate_callee (f := 40) rfl ?_); refine goesL_ (some 6) rfl rfl Try.func40 (by kernel_rfl) rfl #[.agg #[.slice Ao28 t174.length co28, .slice Ao29 t177.length co29, .slice Ao30 t180.length co30], .slice Ao31 y183.length co31] rfl (by (try simp only [List.map_toArray, List.map_cons, List.map_nil]); first | done | rfl | (simp only [List.length_drop, List.length_take]; rfl)) ?_; (with_reducible refine (net_Cost.calls k _ _ t174 _ _ t177 _ _ t180 _ _ y183 t186 t187 _ ?side1 ?side2 ?side3 ?side4 ?side5 ?side6 ?side7 ?side8 A2.out).mono ?_); (case side1 => repeat (first | exact (Kd.R_reads' HO176.out).2.2 | (with_reducible refine Kd.C_alloc ?_ _) | (with_reducible refine Kd.C_drewN ?_ _) | (with_reducible refine Kd.C_drew ?_))); (case side2 => exact (Kd.R_reads' HO176.out).2.1); (case side3 => repeat (first | exact (Kd.R_reads' HO179.out).2.2 | (with_reducible refine Kd.C_alloc ?_ _) | (with_reducible refine Kd.C_drewN ?_ _) | (with_reducible refine Kd.C_drew ?_))); (case side4 => exact (Kd.R_reads' HO179.out).2.1); (case side5 => repeat (first | exact (Kd.R_reads' HO182.out).2.2 | (with_reducible refine Kd.C_alloc ?_ _) | (with_reducible refine Kd.C_drewN ?_ _) | (with_reducible refine Kd.C_drew ?_))); (case side6 => exact (Kd.R_reads' HO182.out).2.1); (case side7 => repeat (first | exact (Kd.R_reads' HO185.out).2.2 | (with_reducible refine Kd.C_alloc ?_ _) | (with_reducible refine Kd.C_drewN ?_ _) | (with_reducible refine Kd.C_drew ?_))); (case side8 => exact (Kd.R_reads' HO185.out).2.1); rintro e w32 ⟨rfl, hb⟩; refine ⟨_, rfl, ?_⟩; have n0_ := Aside0.mk (Kd.R_below (by (with_reducible repeat (first | apply Kd.R_alloc | apply Kd.R_drewN | apply Kd.R_drew)); exact HO176.out) hb); have n1_ := Aside0.mk (Kd.R_below (by (with_reducible repeat (first | apply Kd.R_alloc | apply Kd.R_drewN | apply Kd.R_drew)); exact HO179.out) hb); have n2_ := Aside0.mk (Kd.R_below (by (with_reducible repeat (first | apply Kd.R_alloc | apply Kd.R_drewN | apply Kd.R_drew)); exact HO182.out) hb); have n3_ := Aside0.mk (Kd.R_below (by (with_reducible repeat (first | apply Kd.R_alloc | apply Kd.R_drewN | apply Kd.R_drew)); exact HO185.out) hb); have n4_ := Aside0.mk (below_step (by repeat (first | (with_reducible first | exact HB.out | apply below_alloc | apply pw_below_drewN | apply below_drew1) | exact HB.out)) hb); clear HO176; clear HO179; clear HO182; clear HO185; clear HB; have HO176 := n0_; have HO179 := n1_; have HO182 := n2_; have HO185 := n3_; have HB := n4_; clear n0_ n1_ n2_ n3_ n4_; (try clear hb); (try clear hb2); (try clear hk); (try clear hi)))
   go_ret
   exact ⟨by first | rfl | (simp [errW_none, errW_some] <;> rfl) | (simp [*, errW_none, errW_some] <;> rfl), by repeat (first | (with_reducible first | exact HB.out | apply below_alloc | apply pw_below_drewN | apply below_drew1) | exact HB.out)⟩
 ·
  rw [if_neg c3] at H
  have c3b0 : (t187 == 0) = false := beq_eq_false_iff_ne.mpr c3
  have c3b1 : (t187 != 0) = true := bne_iff_ne.mpr c3
  obtain rfl := Option.some.inj H
  go_enter Try.func32, Try.ntmps32
  go_wp2_with (first | ((with_reducible refine gate_callee (f := 65) rfl ?_); refine goesL_ (some 4) rfl rfl Try.func65 (by kernel_rfl) rfl #[] rfl (by (try simp only [List.map_toArray, List.map_cons, List.map_nil]); first | done | rfl | (simp only [List.length_drop, List.length_take]; rfl)) ?_; (with_reducible refine (terrlaw4_triangle.calls  t174 t177 t180 _ A1.out).mono ?_); rintro e w33 ⟨v175, v178, v181, rfl, ho0, ho1, ho2, hb⟩; refine ⟨_, rfl, ?_⟩; have n0_ := Aside0.mk (Kd.R_lower ho0 (below_size (by repeat (first | (with_reducible first | exact HB.out | apply below_alloc | apply pw_below_drewN | apply below_drew1) | exact HB.out)))); have n1_ := Aside0.mk (Kd.R_lower ho1 (below_size (by repeat (first | (with_reducible first | exact HB.out | apply below_alloc | apply pw_below_drewN | apply below_drew1) | exact HB.out)))); have n2_ := Aside0.mk (Kd.R_lower ho2 (below_size (by repeat (first | (with_reducible first | exact HB.out | apply below_alloc | apply pw_below_drewN | apply below_drew1) | exact HB.out)))); have n3_ := Aside0.mk (below_step (by repeat (first | (with_reducible first | exact HB.out | apply below_alloc | apply pw_below_drewN | apply below_drew1) | exact HB.out)) hb); clear HB; have HO176 := n0_; have HO179 := n1_; have HO182 := n2_; have HB := n3_; clear n0_ n1_ n2_ n3_; (try clear hb); (try clear hb2); (try clear hk); (try clear hi); (try clear ho0); (try clear ho1); (try clear ho2)) | ((with_reducible refine gate_dst (N := 5) rfl ?_); (try (refine gate_guard (by rfl) ?_; dsimp only)); refine Kd.R_lit (Kd.int .i64) _ 3 ?hg (N := 5) ?hd (xs := ([0, 1] : List Int)) (inner := [.int .i64 0, .int .i64 1]) (ok := fun _ => True) (okp := fun _ => True) ?hr ?hp (fun _ hk => hk) trivial (Below.refl _ _) (Nat.le_refl _) (by simp) ?_; (case hd => rfl); (case hg => rfl); (case hr => first | (go_simp; done) | (go_simp; rfl)); (case hp => exact (Reps.one (show Kd.M (Kd.int .i64) _ _ _ 0 [.int .i64 0] from rfl) (Reps.one (show Kd.M (Kd.int .i64) _ _ _ 1 [.int .i64 1] from rfl) (Reps.none _ _)))); intro v184 w34 ho35 hb hg_ hnew_; clear hg_ hnew_; (first | rw [← Ny183.out] at ho35 | (simp only [Int.reduceToNat] at ho35; rw [← Ny183.out] at ho35)); have n0_ := Aside0.mk (Kd.R_below (by (with_reducible repeat (first | apply Kd.R_alloc | apply Kd.R_drewN | apply Kd.R_drew)); exact HO176.out) hb); have n1_ := Aside0.mk (Kd.R_below (by (with_reducible repeat (first | apply Kd.R_alloc | apply Kd.R_drewN | apply Kd.R_drew)); exact HO179.out) hb); have n2_ := Aside0.mk (Kd.R_below (by (with_reducible repeat (first | apply Kd.R_alloc | apply Kd.R_drewN | apply Kd.R_drew)); exact HO182.out) hb); have n3_ := Aside0.mk (Kd.R_lower ho35 (below_size (by repeat (first | (with_reducible first | exact HB.out | apply below_alloc | apply pw_below_drewN | apply below_drew1) | exact HB.out)))); have n4_ := Aside0.mk (below_step (by repeat (first | (with_reducible first | exact HB.out | apply below_alloc | apply pw_below_drewN | apply below_drew1) | exact HB.out)) hb); clear HO176; clear HO179; clear HO182; clear HB; have HO176 := n0_; have HO179 := n1_; have HO182 := n2_; have HO185 := n3_; have HB := n4_; clear n0_ n1_ n2_ n3_ n4_; clear hb ho35; obtain ⟨Ao36, co36, eo36⟩ := Kd.R_slice HO176.out; subst eo36; obtain ⟨Ao37, co37, eo37⟩ := Kd.R_slice HO179.out; subst eo37; obtain ⟨Ao38, co38, eo38⟩ := Kd.R_slice HO182.out; subst eo38; obtain ⟨Ao39, co39, eo39⟩ := Kd.R_slice HO185.out; subst eo39) | ((with_reducible refine gate_callee (f := 40) rfl ?_); refine goesL_ (some 6) rfl rfl Try.func40 (by kernel_rfl) rfl #[.agg #[.slice Ao36 t174.length co36, .slice Ao37 t177.length co37, .slice Ao38 t180.length co38], .slice Ao39 y183.length co39] rfl (by (try simp only [List.map_toArray, List.map_cons, List.map_nil]); first | done | rfl | (simp only [List.length_drop, List.length_take]; rfl)) ?_; (with_reducible refine (net_Cost.calls k _ _ t174 _ _ t177 _ _ t180 _ _ y183 t186 t187 _ ?side1 ?side2 ?side3 ?side4 ?side5 ?side6 ?side7 ?side8 A2.out).mono ?_); (case side1 => repeat (first | exact (Kd.R_reads' HO176.out).2.2 | (with_reducible refine Kd.C_alloc ?_ _) | (with_reducible refine Kd.C_drewN ?_ _) | (with_reducible refine Kd.C_drew ?_))); (case side2 => exact (Kd.R_reads' HO176.out).2.1); (case side3 => repeat (first | exact (Kd.R_reads' HO179.out).2.2 | (with_reducible refine Kd.C_alloc ?_ _) | (with_reducible refine Kd.C_drewN ?_ _) | (with_reducible refine Kd.C_drew ?_))); (case side4 => exact (Kd.R_reads' HO179.out).2.1); (case side5 => repeat (first | exact (Kd.R_reads' HO182.out).2.2 | (with_reducible refine Kd.C_alloc ?_ _) | (with_reducible refine Kd.C_drewN ?_ _) | (with_reducible refine Kd.C_drew ?_))); (case side6 => exact (Kd.R_reads' HO182.out).2.1); (case side7 => repeat (first | exact (Kd.R_reads' HO185.out).2.2 | (with_reducible refine Kd.C_alloc ?_ _) | (with_reducible refine Kd.C_drewN ?_ _) | (with_reducible refine Kd.C_drew ?_))); (case side8 => exact (Kd.R_reads' HO185.out).2.1); rintro e w40 ⟨rfl, hb⟩; refine ⟨_, rfl, ?_⟩; have n0_ := Aside0.mk (Kd.R_below (by (with_reducible repeat (first | apply Kd.R_alloc | apply Kd.R_drewN | apply Kd.R_drew)); exact HO176.out) hb); have n1_ := Aside0.mk (Kd.R_below (by (with_reducible repeat (first | apply Kd.R_alloc | apply Kd.R_drewN | apply Kd.R_drew)); exact HO179.out) hb); have n2_ := Aside0.mk (Kd.R_below (by (with_reducible repeat (first | apply Kd.R_alloc | apply Kd.R_drewN | apply Kd.R_drew)); exact HO182.out) hb); have n3_ := Aside0.mk (Kd.R_below (by (with_reducible repeat (first | apply Kd.R_alloc | apply Kd.R_drewN | apply Kd.R_drew)); exact HO185.out) hb); have n4_ := Aside0.mk (below_step (by repeat (first | (with_reducible first | exact HB.out | apply below_alloc | apply pw_below_drewN | apply below_drew1) | exact HB.out)) hb); clear HO176; clear HO179; clear HO182; clear HO185; clear HB; have HO176 := n0_; have HO179 := n1_; have HO182 := n2_; have HO185 := n3_; have HB := n4_; clear n0_ n1_ n2_ n3_ n4_; (try clear hb); (try clear hb2); (try clear hk); (try clear hi)))
  go_ret
  exact ⟨by first | rfl | (simp [errW_none, errW_some] <;> rfl) | (simp [*, errW_none, errW_some] <;> rfl), by repeat (first | (with_reducible first | exact HB.out | apply below_alloc | apply pw_below_drewN | apply below_drew1) | exact HB.out)⟩

/-! ### terrref4_PointOK: function 71 -/
def terrref4_PointOK.f (a0_0 : Int) (a0_1 : Int) : Option (Bool) := if a0_0 ≥ (-1048576) then (if a0_0 ≤ 1048576 then (if a0_1 ≥ (-1048576) then (some (decide (a0_1 ≤ 1048576))) else (some false)) else (some false)) else (some false)
set_option maxHeartbeats 8000000 in
set_option maxRecDepth 100000 in
theorem terrref4_PointOK.calls (a0_0 : Int) (a0_1 : Int) (r : Bool) (w : World) (h : terrref4_PointOK.f a0_0 a0_1 = some r) :
  Calls Try.prog 71 #[.agg #[.int .i64 a0_0, .int .i64 a0_1]] w fun e w' => e = .returned (.bool r) ∧ Below w.heap.size w w' := by
 have hu46 := Try.underlying46
 have HB := Aside0.mk (Below.refl w.heap.size w)
 have H : (if a0_0 ≥ (-1048576) then (if a0_0 ≤ 1048576 then (if a0_1 ≥ (-1048576) then (some (decide (a0_1 ≤ 1048576))) else (some false)) else (some false)) else (some false)) = some r := h
 clear h
 by_cases c2 : a0_0 ≥ (-1048576)
 ·
  rw [if_pos c2] at H
  have c2b0 : decide ((-1048576) ≤ a0_0) = true := decide_eq_true c2
  clear c2
  by_cases c3 : a0_0 ≤ 1048576
  ·
   rw [if_pos c3] at H
   have c3b0 : decide (a0_0 ≤ 1048576) = true := decide_eq_true c3
   clear c3
   by_cases c4 : a0_1 ≥ (-1048576)
   ·
    rw [if_pos c4] at H
    have c4b0 : decide ((-1048576) ≤ a0_1) = true := decide_eq_true c4
    clear c4
    obtain rfl := Option.some.inj H
    go_enter Try.func71, Try.ntmps71
    go_wp2_with (first | ((with_reducible refine gate_dst (N := 1) rfl ?_); refine box_event ?hg (N := 1) ?hd (cs := #[.int .i64 a0_0, .int .i64 a0_1]) (t := 46) ?hr ?_; (case hd => rfl); (case hg => rfl); (case hr => first | (go_simp; done) | (go_simp; rfl)); intro gb204 hg w5 hbox hb; have n0_ := Aside0.mk (below_step (by repeat (first | (with_reducible first | exact HB.out | apply below_alloc | apply pw_below_drewN | apply below_drew1) | exact HB.out)) hb); have n1_ := Aside0.mk (hbox); have n2_ := Aside0.mk ((by rw [hg]; exact (below_size (by repeat (first | (with_reducible first | exact HB.out | apply below_alloc | apply pw_below_drewN | apply below_drew1) | exact HB.out))) : w.heap.size ≤ gb204)); have n3_ := Aside0.mk ((by rw [hg]; exact (below_size (by repeat (first | (with_reducible first | exact HB.out | apply below_alloc | apply pw_below_drewN | apply below_drew1) | exact HB.out))) : w.heap.size ≤ gb204)); clear HB; have HB := n0_; have BK204 := n1_; have GW204 := n2_; have GE204 := n3_; clear n0_ n1_ n2_ n3_; clear hb hbox hg; have hcz6_0 : w5.cell? ⟨gb204, 0, none⟩ = some (.int .i64 a0_0) := (blk_cell BK204.out 0).trans rfl; have hcz6_1 : w5.cell? ⟨gb204, 1, none⟩ = some (.int .i64 a0_1) := (blk_cell BK204.out 1).trans rfl; have hfz6_0 := blk_frozen BK204.out 0; have hfz6_1 := blk_frozen BK204.out 1))
    go_ret
    exact ⟨by first | rfl | (simp [errW_none, errW_some] <;> rfl) | (simp [*, errW_none, errW_some] <;> rfl), by repeat (first | (with_reducible first | exact HB.out | apply below_alloc | apply pw_below_drewN | apply below_drew1 | refine below_set ?_ GE204.out) | exact HB.out)⟩
   ·
    rw [if_neg c4] at H
    have c4b0 : decide ((-1048576) ≤ a0_1) = false := decide_eq_false c4
    clear c4
    obtain rfl := Option.some.inj H
    go_enter Try.func71, Try.ntmps71
    go_wp2_with (first | ((with_reducible refine gate_dst (N := 1) rfl ?_); refine box_event ?hg (N := 1) ?hd (cs := #[.int .i64 a0_0, .int .i64 a0_1]) (t := 46) ?hr ?_; (case hd => rfl); (case hg => rfl); (case hr => first | (go_simp; done) | (go_simp; rfl)); intro gb204 hg w7 hbox hb; have n0_ := Aside0.mk (below_step (by repeat (first | (with_reducible first | exact HB.out | apply below_alloc | apply pw_below_drewN | apply below_drew1) | exact HB.out)) hb); have n1_ := Aside0.mk (hbox); have n2_ := Aside0.mk ((by rw [hg]; exact (below_size (by repeat (first | (with_reducible first | exact HB.out | apply below_alloc | apply pw_below_drewN | apply below_drew1) | exact HB.out))) : w.heap.size ≤ gb204)); have n3_ := Aside0.mk ((by rw [hg]; exact (below_size (by repeat (first | (with_reducible first | exact HB.out | apply below_alloc | apply pw_below_drewN | apply below_drew1) | exact HB.out))) : w.heap.size ≤ gb204)); clear HB; have HB := n0_; have BK204 := n1_; have GW204 := n2_; have GE204 := n3_; clear n0_ n1_ n2_ n3_; clear hb hbox hg; have hcz8_0 : w7.cell? ⟨gb204, 0, none⟩ = some (.int .i64 a0_0) := (blk_cell BK204.out 0).trans rfl; have hcz8_1 : w7.cell? ⟨gb204, 1, none⟩ = some (.int .i64 a0_1) := (blk_cell BK204.out 1).trans rfl; have hfz8_0 := blk_frozen BK204.out 0; have hfz8_1 := blk_frozen BK204.out 1))
    go_ret
    exact ⟨by first | rfl | (simp [errW_none, errW_some] <;> rfl) | (simp [*, errW_none, errW_some] <;> rfl), by repeat (first | (with_reducible first | exact HB.out | apply below_alloc | apply pw_below_drewN | apply below_drew1 | refine below_set ?_ GE204.out) | exact HB.out)⟩
  ·
   rw [if_neg c3] at H
   have c3b0 : decide (a0_0 ≤ 1048576) = false := decide_eq_false c3
   clear c3
   obtain rfl := Option.some.inj H
   go_enter Try.func71, Try.ntmps71
   go_wp2_with (first | ((with_reducible refine gate_dst (N := 1) rfl ?_); refine box_event ?hg (N := 1) ?hd (cs := #[.int .i64 a0_0, .int .i64 a0_1]) (t := 46) ?hr ?_; (case hd => rfl); (case hg => rfl); (case hr => first | (go_simp; done) | (go_simp; rfl)); intro gb204 hg w9 hbox hb; have n0_ := Aside0.mk (below_step (by repeat (first | (with_reducible first | exact HB.out | apply below_alloc | apply pw_below_drewN | apply below_drew1) | exact HB.out)) hb); have n1_ := Aside0.mk (hbox); have n2_ := Aside0.mk ((by rw [hg]; exact (below_size (by repeat (first | (with_reducible first | exact HB.out | apply below_alloc | apply pw_below_drewN | apply below_drew1) | exact HB.out))) : w.heap.size ≤ gb204)); have n3_ := Aside0.mk ((by rw [hg]; exact (below_size (by repeat (first | (with_reducible first | exact HB.out | apply below_alloc | apply pw_below_drewN | apply below_drew1) | exact HB.out))) : w.heap.size ≤ gb204)); clear HB; have HB := n0_; have BK204 := n1_; have GW204 := n2_; have GE204 := n3_; clear n0_ n1_ n2_ n3_; clear hb hbox hg; have hcz10_0 : w9.cell? ⟨gb204, 0, none⟩ = some (.int .i64 a0_0) := (blk_cell BK204.out 0).trans rfl; have hcz10_1 : w9.cell? ⟨gb204, 1, none⟩ = some (.int .i64 a0_1) := (blk_cell BK204.out 1).trans rfl; have hfz10_0 := blk_frozen BK204.out 0; have hfz10_1 := blk_frozen BK204.out 1))
   go_ret
   exact ⟨by first | rfl | (simp [errW_none, errW_some] <;> rfl) | (simp [*, errW_none, errW_some] <;> rfl), by repeat (first | (with_reducible first | exact HB.out | apply below_alloc | apply pw_below_drewN | apply below_drew1 | refine below_set ?_ GE204.out) | exact HB.out)⟩
 ·
  rw [if_neg c2] at H
  have c2b0 : decide ((-1048576) ≤ a0_0) = false := decide_eq_false c2
  clear c2
  obtain rfl := Option.some.inj H
  go_enter Try.func71, Try.ntmps71
  go_wp2_with (first | ((with_reducible refine gate_dst (N := 1) rfl ?_); refine box_event ?hg (N := 1) ?hd (cs := #[.int .i64 a0_0, .int .i64 a0_1]) (t := 46) ?hr ?_; (case hd => rfl); (case hg => rfl); (case hr => first | (go_simp; done) | (go_simp; rfl)); intro gb204 hg w11 hbox hb; have n0_ := Aside0.mk (below_step (by repeat (first | (with_reducible first | exact HB.out | apply below_alloc | apply pw_below_drewN | apply below_drew1) | exact HB.out)) hb); have n1_ := Aside0.mk (hbox); have n2_ := Aside0.mk ((by rw [hg]; exact (below_size (by repeat (first | (with_reducible first | exact HB.out | apply below_alloc | apply pw_below_drewN | apply below_drew1) | exact HB.out))) : w.heap.size ≤ gb204)); have n3_ := Aside0.mk ((by rw [hg]; exact (below_size (by repeat (first | (with_reducible first | exact HB.out | apply below_alloc | apply pw_below_drewN | apply below_drew1) | exact HB.out))) : w.heap.size ≤ gb204)); clear HB; have HB := n0_; have BK204 := n1_; have GW204 := n2_; have GE204 := n3_; clear n0_ n1_ n2_ n3_; clear hb hbox hg; have hcz12_0 : w11.cell? ⟨gb204, 0, none⟩ = some (.int .i64 a0_0) := (blk_cell BK204.out 0).trans rfl; have hcz12_1 : w11.cell? ⟨gb204, 1, none⟩ = some (.int .i64 a0_1) := (blk_cell BK204.out 1).trans rfl; have hfz12_0 := blk_frozen BK204.out 0; have hfz12_1 := blk_frozen BK204.out 1))
  go_ret
  exact ⟨by first | rfl | (simp [errW_none, errW_some] <;> rfl) | (simp [*, errW_none, errW_some] <;> rfl), by repeat (first | (with_reducible first | exact HB.out | apply below_alloc | apply pw_below_drewN | apply below_drew1 | refine below_set ?_ GE204.out) | exact HB.out)⟩

/-! ### terrref4_NetFault: function 34 -/
/-- A valid point. -/
def okPt (x y : Int) : Prop := -1048576 ≤ x ∧ x ≤ 1048576 ∧ -1048576 ≤ y ∧ y ≤ 1048576
instance (x y : Int) : Decidable (okPt x y) := by unfold okPt; infer_instance
def nfNodes : List (Int × Int) → List S46 → Int
  | _, [] => 0
  | s, p :: r => if ¬ okPt p.f0 p.f1 then 1 else if (p.f0, p.f1) ∈ s then 5 else nfNodes (s ++ [(p.f0, p.f1)]) r
def inr (k : Int) (n : Nat) : Prop := 0 ≤ k ∧ k < (n : Int)
instance (k : Int) (n : Nat) : Decidable (inr k n) := by unfold inr; infer_instance
def nfEdges (n : Nat) : List S55 → Int
  | [] => 0
  | e :: r => if ¬ inr e.f0 n ∨ ¬ inr e.f1 n ∨ e.f2 < 0 ∨ 1099511627776 < e.f2 then 1 else if e.f0 = e.f1 then 11 else nfEdges n r
def nfBans (E : List S55) : List (Int × Int) → List S66 → Int
  | _, [] => 0
  | s, b :: r => if ¬ inr b.f0 E.length ∨ ¬ inr b.f1 E.length then 1 else if (rd_T55 E b.f0).f1 ≠ (rd_T55 E b.f1).f0 then 9 else if (b.f0, b.f1) ∈ s then 5 else nfBans E (s ++ [(b.f0, b.f1)]) r
/-- What is wrong with a network (0: nothing). -/
def netChk (N : List S46) (E : List S55) (B : List S66) : Int :=
  if 200 < N.length ∨ 600 < E.length ∨ 600 < B.length then 2 else if nfNodes [] N ≠ 0 then nfNodes [] N else if nfEdges N.length E ≠ 0 then nfEdges N.length E else nfBans E [] B
def NetWf (N : List S46) (B : List S66) : Prop := (∀ x ∈ N, (Lit.int .i64 x.f0).wf = true ∧ (Lit.int .i64 x.f1).wf = true) ∧ ∀ x ∈ B, (Lit.int .i64 x.f0).wf = true ∧ (Lit.int .i64 x.f1).wf = true
instance (N : List S46) (B : List S66) : Decidable (NetWf N B) := by unfold NetWf; infer_instance
theorem ptOk_sem {w : World} (x y : Int) : ∀ W, Below w.heap.size w W → Calls Try.prog 71 #[.agg #[.int .i64 x, .int .i64 y]] W fun e W' => e = .returned (.bool (decide (okPt x y))) ∧ Below W.heap.size W W' := fun W _ => by
  refine terrref4_PointOK.calls x y _ W ?_
  unfold terrref4_PointOK.f okPt
  by_cases h1 : -1048576 ≤ x
  · by_cases h2 : x ≤ 1048576
    · by_cases h3 : -1048576 ≤ y
      · rw [if_pos h1, if_pos h2, if_pos h3]
        simp [h1, h2, h3]
      · rw [if_pos h1, if_pos h2, if_neg h3]
        simp [h3]
    · rw [if_pos h1, if_neg h2]
      simp [h2]
  · rw [if_neg h1]
    simp [h1]
theorem in_sem {w : World} (k : Int) (n : Nat) : ∀ W, Below w.heap.size w W → Calls Try.prog 72 #[.int .i64 k, .int .i64 (n : Int)] W fun e W' => e = .returned (.bool (decide (inr k n))) ∧ Below W.heap.size W W' := fun W _ => by
  by_cases h : 0 ≤ k
  · have h0 : decide (0 ≤ k) = true := decide_eq_true h
    have e : decide (inr k n) = decide (k < (n : Int)) := by unfold inr; simp [h]
    rw [e]
    go_enter Try.func72, Try.ntmps72
    go_wp2
    go_ret
    exact ⟨rfl, Below.refl _ _⟩
  · have h0 : decide (0 ≤ k) = false := decide_eq_false h
    have e : decide (inr k n) = false := by unfold inr; simp [h]
    rw [e]
    go_enter Try.func72, Try.ntmps72
    go_wp2
    go_ret
    exact ⟨rfl, Below.refl _ _⟩
theorem netChk_eq {N : List S46} {E : List S55} {B : List S66} (h : N.length ≤ 200 ∧ E.length ≤ 600 ∧ B.length ≤ 600) : netChk N E B = if nfNodes [] N ≠ 0 then nfNodes [] N else if nfEdges N.length E ≠ 0 then nfEdges N.length E else nfBans E [] B := if_neg (by omega)
theorem drop_head_ {α : Type} (z : α) {l : List α} {n : Nat} (h : n < l.length) : l.drop n = l.getD n z :: l.drop (n + 1) := by
  rw [List.drop_eq_getElem_cons h, List.getD_eq_getElem?_getD, List.getElem?_eq_getElem h]
  rfl
theorem nfNodes_step {N r : List S46} {n : Nat} {s : List (Int × Int)} {p0 p1 : Int} (h : N.drop n = N.getD n z46 :: r) (h0 : (rd_T46 N (n : Int)).f0 = p0) (h1 : (rd_T46 N (n : Int)).f1 = p1) :
    nfNodes s (N.drop n) = if ¬ okPt p0 p1 then 1 else if (p0, p1) ∈ s then 5 else nfNodes (s ++ [(p0, p1)]) r := by
  subst h0 h1
  rw [h]
  rfl
theorem nfEdges_step {E r : List S55} {n m : Nat} {p0 p1 p2 : Int} (h : E.drop n = E.getD n z55 :: r) (h0 : (rd_T55 E (n : Int)).f0 = p0) (h1 : (rd_T55 E (n : Int)).f1 = p1) (h2 : (rd_T55 E (n : Int)).f2 = p2) :
    nfEdges m (E.drop n) = if ¬ inr p0 m ∨ ¬ inr p1 m ∨ p2 < 0 ∨ 1099511627776 < p2 then 1 else if p0 = p1 then 11 else nfEdges m r := by
  subst h0 h1 h2
  rw [h]
  rfl
theorem nfBans_step {E : List S55} {B r : List S66} {n : Nat} {s : List (Int × Int)} {p0 p1 : Int} (h : B.drop n = B.getD n z66 :: r) (h0 : (rd_T66 B (n : Int)).f0 = p0) (h1 : (rd_T66 B (n : Int)).f1 = p1) :
    nfBans E s (B.drop n) = if ¬ inr p0 E.length ∨ ¬ inr p1 E.length then 1 else if (rd_T55 E p0).f1 ≠ (rd_T55 E p1).f0 then 9 else if (p0, p1) ∈ s then 5 else nfBans E (s ++ [(p0, p1)]) r := by
  subst h0 h1
  rw [h]
  rfl
theorem wrap_succ_ {n : Nat} (h : n < 9223372036854775807) : wrap64 ((n : Int) + 1) = ((n + 1 : Nat) : Int) := by unfold wrap64; omega
section
variable {A0 A1 A2 : Option Addr} {c0 c1 c2 : Nat} {N : List S46} {E : List S55} {B : List S66} {w : World}
set_option maxHeartbeats 40000000 in
set_option maxRecDepth 100000 in
theorem nf_large (b0 b1 b2 : Bool) (h0 : decide (200 < N.length) = b0) (h1 : decide (600 < E.length) = b1) (h2 : decide (600 < B.length) = b2) (h : (b0 || b1 || b2) = true) :
    Calls Try.prog 34 #[.agg #[.slice A0 N.length c0, .slice A1 E.length c1, .slice A2 B.length c2]] w fun e w' => e = .returned (.int .i64 2) ∧ Below w.heap.size w w' := by
  have hu53 := Try.underlying53
  have h0' : decide (200 < (N.length : Int)) = b0 := by rw [← h0]; exact decide_eq_decide.mpr (by omega)
  have h1' : decide (600 < (E.length : Int)) = b1 := by rw [← h1]; exact decide_eq_decide.mpr (by omega)
  have h2' : decide (600 < (B.length : Int)) = b2 := by rw [← h2]; exact decide_eq_decide.mpr (by omega)
  cases b0 <;> cases b1 <;> cases b2 <;> first
    | (exact absurd h (by decide))
    | (go_enter Try.func34, Try.ntmps34
       go_upto_region 1 with (first | ((with_reducible refine gate_dst (N := 1) rfl ?_); (try (refine gate_guard (by rfl) ?_; dsimp only)); refine box_event ?hg (N := 1) ?hd (cs := #[.slice A0 N.length c0, .slice A1 E.length c1, .slice A2 B.length c2]) (t := 53) ?hr ?_; (case hd => rfl); (case hg => rfl); (case hr => first | (go_simp; done) | (go_simp; rfl)); intro gb hg w3 hbox hb; have GE := Aside0.mk ((Nat.le_of_eq hg.symm) : w.heap.size ≤ gb); have HB : Aside0 (Below w.heap.size w w3 ∧ w3.heap[gb]? = some (.cells #[.slice A0 N.length c0, .slice A1 E.length c1, .slice A2 B.length c2] 53 (0, 0)) ∧ True) := ⟨hb, hbox, trivial⟩; clear hb hbox hg))
       (try simp only [Act.put, List.setIfInBounds_toArray, List.set_cons_zero, List.set_cons_succ])
       obtain ⟨hcz0, hcz1, hcz2, hfz0, hfz1, hfz2⟩ := Sets.net_cells HB.out.2.1
       go_wp2
       go_ret
       exact ⟨rfl, HB.out.1⟩)
set_option maxHeartbeats 40000000 in
set_option maxRecDepth 100000 in
theorem nf_main (hr0 : Kd.C k46 w A0 N.length N) (hr1 : Kd.C k55 w A1 E.length E) (hr2 : Kd.C k66 w A2 B.length B) (h0 : N.length ≤ 200) (h1 : E.length ≤ 600) (h2 : B.length ≤ 600) (q : NetWf N B) :
    Calls Try.prog 34 #[.agg #[.slice A0 N.length c0, .slice A1 E.length c1, .slice A2 B.length c2]] w fun e w' => e = .returned (.int .i64 (netChk N E B)) ∧ Below w.heap.size w w' := by
  have hu53 := Try.underlying53
  have hu46 := Try.underlying46
  have hu55 := Try.underlying55
  have hu66 := Try.underlying66
  have HR0 := Aside0.mk hr0; have HR1 := Aside0.mk hr1; have HR2 := Aside0.mk hr2
  have HH := Aside0.mk (And.intro h0 (And.intro h1 h2))
  have HQ := Aside0.mk q
  have h0' : decide (200 < (N.length : Int)) = false := decide_eq_false (by omega)
  have h1' : decide (600 < (E.length : Int)) = false := decide_eq_false (by omega)
  have h2' : decide (600 < (B.length : Int)) = false := decide_eq_false (by omega)
  have C71 := Aside0.mk (ptOk_sem (w := w)); have C72 := Aside0.mk (in_sem (w := w))
  obtain ⟨R, HE⟩ : ∃ R, Aside0 (netChk N E B = R) := ⟨_, ⟨rfl⟩⟩
  rw [HE.out]
  clear h0 h1 h2 q hr0 hr1 hr2
  go_enter Try.func34, Try.ntmps34
  go_upto_region 1 with (first | ((with_reducible refine gate_dst (N := 1) rfl ?_); (try (refine gate_guard (by rfl) ?_; dsimp only)); refine box_event ?hg (N := 1) ?hd (cs := #[.slice A0 N.length c0, .slice A1 E.length c1, .slice A2 B.length c2]) (t := 53) ?hr ?_; (case hd => rfl); (case hg => rfl); (case hr => first | (go_simp; done) | (go_simp; rfl)); intro gb hg w3 hbox hb; have GE := Aside0.mk ((Nat.le_of_eq hg.symm) : w.heap.size ≤ gb); have HB : Aside0 (Below w.heap.size w w3 ∧ w3.heap[gb]? = some (.cells #[.slice A0 N.length c0, .slice A1 E.length c1, .slice A2 B.length c2] 53 (0, 0)) ∧ True) := ⟨hb, hbox, trivial⟩; clear hb hbox hg))
  (try simp only [Act.put, List.setIfInBounds_toArray, List.set_cons_zero, List.set_cons_succ])
  obtain ⟨hcz0, hcz1, hcz2, hfz0, hfz1, hfz2⟩ := Sets.net_cells HB.out.2.1
  go_wp2_with (first | ((with_reducible refine gate_dst (N := 28) rfl ?_); refine Sets.make_at (t := 46) _ rfl rfl ?_; intro gm hgm w4 hs hb; have GM := Aside0.mk ((by rw [hgm]; exact below_size HB.out.1) : w.heap.size ≤ gm); have NE := Aside0.mk ((by rw [hgm]; exact Nat.ne_of_lt (blk_lt HB.out.2.1)) : gb ≠ gm); have n2_ := Aside0.mk (And.intro (below_step HB.out.1 hb) (And.intro (blk_below HB.out.2.1 hb) hs)); clear HB hcz0 hcz1 hcz2 hfz0 hfz1 hfz2 hs hb hgm; have HB := n2_; clear n2_; obtain ⟨hcz0, hcz1, hcz2, hfz0, hfz1, hfz2⟩ := Sets.net_cells HB.out.2.1))
  go_loopg [32] N.length (fun kq v32 w' => ∃ (n : Nat) (s : List (Int × Int)), v32 = .int .i64 (n : Int) ∧ Aside0 (nfNodes s (N.drop n) = nfNodes [] N) ∧ Aside0 (n + kq = N.length) ∧ Aside0 (Below w.heap.size w w' ∧ w'.heap[gb]? = some (.cells #[.slice A0 N.length c0, .slice A1 E.length c1, .slice A2 B.length c2] 53 (0, 0)) ∧ Sets.IsSet w' 46 gm n s))
  case atStart => exact ⟨0, [], rfl, ⟨rfl⟩, ⟨by omega⟩, HB⟩
  case round =>
    clear hcz0 hcz1 hcz2 hfz0 hfz1 hfz2 HB
    obtain ⟨n, s, rfl, HA, HN, HB⟩ := hrel
    obtain ⟨hcz0, hcz1, hcz2, hfz0, hfz1, hfz2⟩ := Sets.net_cells HB.out.2.1
    by_cases hlt : n < N.length
    · have hk := HN.out
      obtain ⟨k1, rfl⟩ : ∃ k1, gk = k1 + 1 := ⟨gk - 1, by omega⟩
      clear hk
      have HS := Aside0.mk (drop_head_ z46 hlt)
      obtain ⟨ad, e1, hx0, hx1⟩ := at_T46 HR0.out (n : Int) (by omega) (by omega)
      replace hx0 := (HB.out.1.cell (World.block_lt_of_cell? w _ hx0)).trans hx0
      replace hx1 := (HB.out.1.cell (World.block_lt_of_cell? w _ hx1)).trans hx1
      simp only [Int.toNat_natCast] at hx0 hx1
      cases e1
      generalize hp0 : (rd_T46 N (n : Int)).f0 = p0 at *
      generalize hp1 : (rd_T46 N (n : Int)).f1 = p1 at *
      have HW := Aside0.mk (HQ.out.1 _ (List.getElem_mem hlt))
      rw [show N[n] = rd_T46 N (n : Int) from by simp [rd_T46, hlt], hp0, hp1] at HW
      have HX := Aside0.mk (nfNodes_step (s := s) HS.out hp0 hp1)
      rw [HA.out] at HX
      clear hp0 hp1 HS HA
      by_cases hok : okPt p0 p1
      · have d0 : decide (okPt p0 p1) = true := decide_eq_true hok
        have HX1 := Aside0.mk (HX.out.trans (if_neg (not_not_intro hok)))
        clear HX hok
        by_cases hin : (p0, p1) ∈ s
        · have d1 : decide ((p0, p1) ∈ s) = true := decide_eq_true hin
          go_wp2_with (first | ((with_reducible refine gate_dst (N := 5) rfl ?_); refine box_event ?hg (N := 5) ?hd (cs := #[.int .i64 0, .int .i64 0]) (t := 46) ?hr ?_; (case hd => rfl); (case hg => rfl); (case hr => first | (go_simp; done) | (go_simp; rfl)); intro gp hgp w5 hbox hb; obtain ⟨hpz0, hpz1, hpf0, hpf1⟩ := Sets.cells2 hbox; have HP1 := Aside0.mk hgp; have HP2 := Aside0.mk hbox; have HP3 := Aside0.mk hb; clear hgp hbox hb) | ((with_reducible refine gate_store (t := 46) (p := 5) rfl ?_); refine store_event (t := 46) (p := 5) (v := ?vo_5) (w1 := ((w5.setCell ⟨gp, 0, none⟩ (.int .i64 p0)).setCell ⟨gp, 1, none⟩ (.int .i64 p1))) ?hg ?ho ?hn ?hr ?_; (case ho => rfl); (case hg => rfl); (case hn => rfl); (case hr => first | (go_simp; done) | (go_simp; rfl)); intro w6 hw; have BP : w6.heap[gp]? = some (.cells #[.int .i64 p0, .int .i64 p1] 46 (0, 0)) := (by rw [hw]; exact (blk_set (blk_set HP2.out 0 _) 1 _)); have hb6 : Below _ _ w6 := (by rw [hw]; exact ((HP3.out.setCell (Nat.le_of_eq HP1.out.symm) _).setCell (Nat.le_of_eq HP1.out.symm) _)); have n_ := Aside0.mk (And.intro (below_step HB.out.1 hb6) (And.intro (blk_below HB.out.2.1 hb6) (Sets.IsSet.below HB.out.2.2 hb6))); have n2_ := Aside0.mk (And.intro n_.out.1 (And.intro n_.out.2.1 (And.intro n_.out.2.2 BP))); clear HB hcz0 hcz1 hcz2 hfz0 hfz1 hfz2 hpz0 hpz1 hpf0 hpf1 hx0 hx1 HP1 HP2 HP3 hw hb6 BP n_; have HB := n2_; clear n2_; obtain ⟨hcz0, hcz1, hcz2, hfz0, hfz1, hfz2⟩ := Sets.net_cells HB.out.2.1; obtain ⟨hpz0, hpz1, hpf0, hpf1⟩ := Sets.cells2 HB.out.2.2.2) | (go_at_call 71; (with_reducible refine (C71.out _ _ _ ?side).mono ?_); (case side => exact HB.out.1); rintro e w7 ⟨rfl, hb⟩; have n_ := Aside0.mk (And.intro (below_step HB.out.1 hb) (And.intro (blk_below HB.out.2.1 hb) (And.intro (Sets.IsSet.below HB.out.2.2.1 hb) (blk_below HB.out.2.2.2 hb)))); clear HB hcz0 hcz1 hcz2 hfz0 hfz1 hfz2 hpz0 hpz1 hpf0 hpf1 hb; have HB := n_; clear n_; obtain ⟨hcz0, hcz1, hcz2, hfz0, hfz1, hfz2⟩ := Sets.net_cells HB.out.2.1; obtain ⟨hpz0, hpz1, hpf0, hpf1⟩ := Sets.cells2 HB.out.2.2.2) | (at_lookup; refine Sets.lookup_at rfl _ rfl _ _ rfl Sets.two_Point Try.underlying4 Try.underlying99 gm n s p0 p1 rfl HB.out.2.2.1 rfl HW.out.1 HW.out.2 ?_) | (at_mapUpdate; refine Sets.update_at rfl _ rfl _ _ _ rfl Sets.two_Point Try.underlying4 Try.underlying99 gm n s p0 p1 (by have := HH.out; unfold maxLen; omega) rfl HB.out.2.2.1 rfl rfl HW.out.1 HW.out.2 ?_; intro w8 hs hgw; have n_ := Aside0.mk (And.intro (HB.out.1.grown hgw (below_size HB.out.1) (fun k hk => by cases hk; exact GM.out)) (And.intro (blk_grown HB.out.2.1 hgw (fun h => NE.out (Option.some.inj h))) hs)); clear HB hcz0 hcz1 hcz2 hfz0 hfz1 hfz2 hpz0 hpz1 hpf0 hpf1 hs hgw; have HB := n_; clear n_; obtain ⟨hcz0, hcz1, hcz2, hfz0, hfz1, hfz2⟩ := Sets.net_cells HB.out.2.1))
          go_ret
          exact ⟨by have e := HX1.out; rw [if_pos hin] at e; rw [← HE.out, netChk_eq HH.out, e]; rfl, HB.out.1⟩
        · have d1 : decide ((p0, p1) ∈ s) = false := decide_eq_false hin
          have HX2 := Aside0.mk (HX1.out.trans (if_neg hin))
          clear HX1 hin
          go_wp2_with (first | ((with_reducible refine gate_dst (N := 5) rfl ?_); refine box_event ?hg (N := 5) ?hd (cs := #[.int .i64 0, .int .i64 0]) (t := 46) ?hr ?_; (case hd => rfl); (case hg => rfl); (case hr => first | (go_simp; done) | (go_simp; rfl)); intro gp hgp w5 hbox hb; obtain ⟨hpz0, hpz1, hpf0, hpf1⟩ := Sets.cells2 hbox; have HP1 := Aside0.mk hgp; have HP2 := Aside0.mk hbox; have HP3 := Aside0.mk hb; clear hgp hbox hb) | ((with_reducible refine gate_store (t := 46) (p := 5) rfl ?_); refine store_event (t := 46) (p := 5) (v := ?vo_5) (w1 := ((w5.setCell ⟨gp, 0, none⟩ (.int .i64 p0)).setCell ⟨gp, 1, none⟩ (.int .i64 p1))) ?hg ?ho ?hn ?hr ?_; (case ho => rfl); (case hg => rfl); (case hn => rfl); (case hr => first | (go_simp; done) | (go_simp; rfl)); intro w6 hw; have BP : w6.heap[gp]? = some (.cells #[.int .i64 p0, .int .i64 p1] 46 (0, 0)) := (by rw [hw]; exact (blk_set (blk_set HP2.out 0 _) 1 _)); have hb6 : Below _ _ w6 := (by rw [hw]; exact ((HP3.out.setCell (Nat.le_of_eq HP1.out.symm) _).setCell (Nat.le_of_eq HP1.out.symm) _)); have n_ := Aside0.mk (And.intro (below_step HB.out.1 hb6) (And.intro (blk_below HB.out.2.1 hb6) (Sets.IsSet.below HB.out.2.2 hb6))); have n2_ := Aside0.mk (And.intro n_.out.1 (And.intro n_.out.2.1 (And.intro n_.out.2.2 BP))); clear HB hcz0 hcz1 hcz2 hfz0 hfz1 hfz2 hpz0 hpz1 hpf0 hpf1 hx0 hx1 HP1 HP2 HP3 hw hb6 BP n_; have HB := n2_; clear n2_; obtain ⟨hcz0, hcz1, hcz2, hfz0, hfz1, hfz2⟩ := Sets.net_cells HB.out.2.1; obtain ⟨hpz0, hpz1, hpf0, hpf1⟩ := Sets.cells2 HB.out.2.2.2) | (go_at_call 71; (with_reducible refine (C71.out _ _ _ ?side).mono ?_); (case side => exact HB.out.1); rintro e w7 ⟨rfl, hb⟩; have n_ := Aside0.mk (And.intro (below_step HB.out.1 hb) (And.intro (blk_below HB.out.2.1 hb) (And.intro (Sets.IsSet.below HB.out.2.2.1 hb) (blk_below HB.out.2.2.2 hb)))); clear HB hcz0 hcz1 hcz2 hfz0 hfz1 hfz2 hpz0 hpz1 hpf0 hpf1 hb; have HB := n_; clear n_; obtain ⟨hcz0, hcz1, hcz2, hfz0, hfz1, hfz2⟩ := Sets.net_cells HB.out.2.1; obtain ⟨hpz0, hpz1, hpf0, hpf1⟩ := Sets.cells2 HB.out.2.2.2) | (at_lookup; refine Sets.lookup_at rfl _ rfl _ _ rfl Sets.two_Point Try.underlying4 Try.underlying99 gm n s p0 p1 rfl HB.out.2.2.1 rfl HW.out.1 HW.out.2 ?_) | (at_mapUpdate; refine Sets.update_at rfl _ rfl _ _ _ rfl Sets.two_Point Try.underlying4 Try.underlying99 gm n s p0 p1 (by have := HH.out; unfold maxLen; omega) rfl HB.out.2.2.1 rfl rfl HW.out.1 HW.out.2 ?_; intro w8 hs hgw; have n_ := Aside0.mk (And.intro (HB.out.1.grown hgw (below_size HB.out.1) (fun k hk => by cases hk; exact GM.out)) (And.intro (blk_grown HB.out.2.1 hgw (fun h => NE.out (Option.some.inj h))) hs)); clear HB hcz0 hcz1 hcz2 hfz0 hfz1 hfz2 hpz0 hpz1 hpf0 hpf1 hs hgw; have HB := n_; clear n_; obtain ⟨hcz0, hcz1, hcz2, hfz0, hfz1, hfz2⟩ := Sets.net_cells HB.out.2.1))
          go_roundg k1
          case measure => omega
          case rel => have hb_ := HH.out; exact ⟨n + 1, s ++ [(p0, p1)], by first | (rw [wrap_succ_ (by omega)]; done) | go_num, ⟨HX2.out.symm⟩, ⟨by have := HN.out; omega⟩, HB⟩
      · have d0 : decide (okPt p0 p1) = false := decide_eq_false hok
        go_wp2_with (first | ((with_reducible refine gate_dst (N := 5) rfl ?_); refine box_event ?hg (N := 5) ?hd (cs := #[.int .i64 0, .int .i64 0]) (t := 46) ?hr ?_; (case hd => rfl); (case hg => rfl); (case hr => first | (go_simp; done) | (go_simp; rfl)); intro gp hgp w5 hbox hb; obtain ⟨hpz0, hpz1, hpf0, hpf1⟩ := Sets.cells2 hbox; have HP1 := Aside0.mk hgp; have HP2 := Aside0.mk hbox; have HP3 := Aside0.mk hb; clear hgp hbox hb) | ((with_reducible refine gate_store (t := 46) (p := 5) rfl ?_); refine store_event (t := 46) (p := 5) (v := ?vo_5) (w1 := ((w5.setCell ⟨gp, 0, none⟩ (.int .i64 p0)).setCell ⟨gp, 1, none⟩ (.int .i64 p1))) ?hg ?ho ?hn ?hr ?_; (case ho => rfl); (case hg => rfl); (case hn => rfl); (case hr => first | (go_simp; done) | (go_simp; rfl)); intro w6 hw; have BP : w6.heap[gp]? = some (.cells #[.int .i64 p0, .int .i64 p1] 46 (0, 0)) := (by rw [hw]; exact (blk_set (blk_set HP2.out 0 _) 1 _)); have hb6 : Below _ _ w6 := (by rw [hw]; exact ((HP3.out.setCell (Nat.le_of_eq HP1.out.symm) _).setCell (Nat.le_of_eq HP1.out.symm) _)); have n_ := Aside0.mk (And.intro (below_step HB.out.1 hb6) (And.intro (blk_below HB.out.2.1 hb6) (Sets.IsSet.below HB.out.2.2 hb6))); have n2_ := Aside0.mk (And.intro n_.out.1 (And.intro n_.out.2.1 (And.intro n_.out.2.2 BP))); clear HB hcz0 hcz1 hcz2 hfz0 hfz1 hfz2 hpz0 hpz1 hpf0 hpf1 hx0 hx1 HP1 HP2 HP3 hw hb6 BP n_; have HB := n2_; clear n2_; obtain ⟨hcz0, hcz1, hcz2, hfz0, hfz1, hfz2⟩ := Sets.net_cells HB.out.2.1; obtain ⟨hpz0, hpz1, hpf0, hpf1⟩ := Sets.cells2 HB.out.2.2.2) | (go_at_call 71; (with_reducible refine (C71.out _ _ _ ?side).mono ?_); (case side => exact HB.out.1); rintro e w7 ⟨rfl, hb⟩; have n_ := Aside0.mk (And.intro (below_step HB.out.1 hb) (And.intro (blk_below HB.out.2.1 hb) (And.intro (Sets.IsSet.below HB.out.2.2.1 hb) (blk_below HB.out.2.2.2 hb)))); clear HB hcz0 hcz1 hcz2 hfz0 hfz1 hfz2 hpz0 hpz1 hpf0 hpf1 hb; have HB := n_; clear n_; obtain ⟨hcz0, hcz1, hcz2, hfz0, hfz1, hfz2⟩ := Sets.net_cells HB.out.2.1; obtain ⟨hpz0, hpz1, hpf0, hpf1⟩ := Sets.cells2 HB.out.2.2.2) | (at_lookup; refine Sets.lookup_at rfl _ rfl _ _ rfl Sets.two_Point Try.underlying4 Try.underlying99 gm n s p0 p1 rfl HB.out.2.2.1 rfl HW.out.1 HW.out.2 ?_) | (at_mapUpdate; refine Sets.update_at rfl _ rfl _ _ _ rfl Sets.two_Point Try.underlying4 Try.underlying99 gm n s p0 p1 (by have := HH.out; unfold maxLen; omega) rfl HB.out.2.2.1 rfl rfl HW.out.1 HW.out.2 ?_; intro w8 hs hgw; have n_ := Aside0.mk (And.intro (HB.out.1.grown hgw (below_size HB.out.1) (fun k hk => by cases hk; exact GM.out)) (And.intro (blk_grown HB.out.2.1 hgw (fun h => NE.out (Option.some.inj h))) hs)); clear HB hcz0 hcz1 hcz2 hfz0 hfz1 hfz2 hpz0 hpz1 hpf0 hpf1 hs hgw; have HB := n_; clear n_; obtain ⟨hcz0, hcz1, hcz2, hfz0, hfz1, hfz2⟩ := Sets.net_cells HB.out.2.1))
        go_ret
        exact ⟨by have e := HX.out; rw [if_pos hok] at e; rw [← HE.out, netChk_eq HH.out, e]; rfl, HB.out.1⟩
    · have HZ : Aside0 (nfNodes [] N = 0) := ⟨by rw [← HA.out, List.drop_of_length_le (by omega)]; rfl⟩
      have n_ := Aside0.mk (And.intro HB.out.1 (And.intro HB.out.2.1 trivial))
      clear HB HA HN
      have HB := n_
      clear n_
      go_wp2
      go_loopg [50] E.length (fun kq v50 w' => ∃ n : Nat, v50 = .int .i64 (n : Int) ∧ Aside0 (nfEdges N.length (E.drop n) = nfEdges N.length E) ∧ Aside0 (n + kq = E.length) ∧ Aside0 (Below w.heap.size w w' ∧ w'.heap[gb]? = some (.cells #[.slice A0 N.length c0, .slice A1 E.length c1, .slice A2 B.length c2] 53 (0, 0)) ∧ True))
      case atStart => exact ⟨0, rfl, ⟨rfl⟩, ⟨by omega⟩, HB⟩
      case round =>
        clear hcz0 hcz1 hcz2 hfz0 hfz1 hfz2 HB
        obtain ⟨n, rfl, HA, HN, HB⟩ := hrel
        obtain ⟨hcz0, hcz1, hcz2, hfz0, hfz1, hfz2⟩ := Sets.net_cells HB.out.2.1
        by_cases hlt : n < E.length
        · have hk := HN.out
          obtain ⟨k1, rfl⟩ : ∃ k1, gk = k1 + 1 := ⟨gk - 1, by omega⟩
          clear hk
          have HS := Aside0.mk (drop_head_ z55 hlt)
          obtain ⟨ad, e1, hx0, hx1, hx2, hx3⟩ := at_T55 HR1.out (n : Int) (by omega) (by omega)
          replace hx0 := (HB.out.1.cell (World.block_lt_of_cell? w _ hx0)).trans hx0
          replace hx1 := (HB.out.1.cell (World.block_lt_of_cell? w _ hx1)).trans hx1
          replace hx2 := (HB.out.1.cell (World.block_lt_of_cell? w _ hx2)).trans hx2
          replace hx3 := (HB.out.1.cell (World.block_lt_of_cell? w _ hx3)).trans hx3
          simp only [Int.toNat_natCast] at hx0 hx1 hx2 hx3
          cases e1
          generalize hp0 : (rd_T55 E (n : Int)).f0 = p0 at *
          generalize hp1 : (rd_T55 E (n : Int)).f1 = p1 at *
          generalize hp2 : (rd_T55 E (n : Int)).f2 = p2 at *
          generalize hp3 : (rd_T55 E (n : Int)).f3 = p3 at *
          have HX := Aside0.mk (nfEdges_step (m := N.length) HS.out hp0 hp1 hp2)
          rw [HA.out] at HX
          clear hp0 hp1 hp2 hp3 HS HA
          by_cases hc : ¬ (inr p0 N.length)
          · have d0 : decide (inr p0 N.length) = false := decide_eq_false hc
            go_wp2_with (first | ((with_reducible refine gate_dst (N := 8) rfl ?_); refine box_event ?hg (N := 8) ?hd (cs := #[.int .i64 0, .int .i64 0, .int .i64 0, .int .i64 0]) (t := 55) ?hr ?_; (case hd => rfl); (case hg => rfl); (case hr => first | (go_simp; done) | (go_simp; rfl)); intro gp hgp w5 hbox hb; obtain ⟨hpz0, hpz1, hpz2, hpz3, hpf0, hpf1, hpf2, hpf3⟩ := Sets.cells4 hbox; have HP1 := Aside0.mk hgp; have HP2 := Aside0.mk hbox; have HP3 := Aside0.mk hb; clear hgp hbox hb) | ((with_reducible refine gate_store (t := 55) (p := 8) rfl ?_); refine store_event (t := 55) (p := 8) (v := ?vo_8) (w1 := ((((w5.setCell ⟨gp, 0, none⟩ (.int .i64 p0)).setCell ⟨gp, 1, none⟩ (.int .i64 p1)).setCell ⟨gp, 2, none⟩ (.int .i64 p2)).setCell ⟨gp, 3, none⟩ (.int .i64 p3))) ?hg ?ho ?hn ?hr ?_; (case ho => rfl); (case hg => rfl); (case hn => rfl); (case hr => first | (go_simp; done) | (go_simp; rfl)); intro w6 hw; have BP : w6.heap[gp]? = some (.cells #[.int .i64 p0, .int .i64 p1, .int .i64 p2, .int .i64 p3] 55 (0, 0)) := (by rw [hw]; exact (blk_set (blk_set (blk_set (blk_set HP2.out 0 _) 1 _) 2 _) 3 _)); have hb6 : Below _ _ w6 := (by rw [hw]; exact ((((HP3.out.setCell (Nat.le_of_eq HP1.out.symm) _).setCell (Nat.le_of_eq HP1.out.symm) _).setCell (Nat.le_of_eq HP1.out.symm) _).setCell (Nat.le_of_eq HP1.out.symm) _)); have n_ := Aside0.mk (And.intro (below_step HB.out.1 hb6) (And.intro (blk_below HB.out.2.1 hb6) trivial)); have n2_ := Aside0.mk (And.intro n_.out.1 (And.intro n_.out.2.1 BP)); clear HB hcz0 hcz1 hcz2 hfz0 hfz1 hfz2 hpz0 hpz1 hpz2 hpz3 hpf0 hpf1 hpf2 hpf3 hx0 hx1 hx2 hx3 HP1 HP2 HP3 hw hb6 BP n_; have HB := n2_; clear n2_; obtain ⟨hcz0, hcz1, hcz2, hfz0, hfz1, hfz2⟩ := Sets.net_cells HB.out.2.1; obtain ⟨hpz0, hpz1, hpz2, hpz3, hpf0, hpf1, hpf2, hpf3⟩ := Sets.cells4 HB.out.2.2) | (go_at_call 72; (with_reducible refine (C72.out _ _ _ ?side).mono ?_); (case side => exact HB.out.1); rintro e w7 ⟨rfl, hb⟩; have n_ := Aside0.mk (And.intro (below_step HB.out.1 hb) (And.intro (blk_below HB.out.2.1 hb) (blk_below HB.out.2.2 hb))); clear HB hcz0 hcz1 hcz2 hfz0 hfz1 hfz2 hpz0 hpz1 hpz2 hpz3 hpf0 hpf1 hpf2 hpf3 hb; have HB := n_; clear n_; obtain ⟨hcz0, hcz1, hcz2, hfz0, hfz1, hfz2⟩ := Sets.net_cells HB.out.2.1; obtain ⟨hpz0, hpz1, hpz2, hpz3, hpf0, hpf1, hpf2, hpf3⟩ := Sets.cells4 HB.out.2.2))
            go_ret
            exact ⟨by have e := HX.out; rw [if_pos (Or.inl hc)] at e; rw [← HE.out, netChk_eq HH.out, HZ.out, e]; rfl, HB.out.1⟩
          · have d0 : decide (inr p0 N.length) = true := decide_eq_true (Decidable.not_not.mp hc)
            have hn0 := hc
            clear hc
            by_cases hc : ¬ (inr p1 N.length)
            · have d1 : decide (inr p1 N.length) = false := decide_eq_false hc
              go_wp2_with (first | ((with_reducible refine gate_dst (N := 8) rfl ?_); refine box_event ?hg (N := 8) ?hd (cs := #[.int .i64 0, .int .i64 0, .int .i64 0, .int .i64 0]) (t := 55) ?hr ?_; (case hd => rfl); (case hg => rfl); (case hr => first | (go_simp; done) | (go_simp; rfl)); intro gp hgp w5 hbox hb; obtain ⟨hpz0, hpz1, hpz2, hpz3, hpf0, hpf1, hpf2, hpf3⟩ := Sets.cells4 hbox; have HP1 := Aside0.mk hgp; have HP2 := Aside0.mk hbox; have HP3 := Aside0.mk hb; clear hgp hbox hb) | ((with_reducible refine gate_store (t := 55) (p := 8) rfl ?_); refine store_event (t := 55) (p := 8) (v := ?vo_8) (w1 := ((((w5.setCell ⟨gp, 0, none⟩ (.int .i64 p0)).setCell ⟨gp, 1, none⟩ (.int .i64 p1)).setCell ⟨gp, 2, none⟩ (.int .i64 p2)).setCell ⟨gp, 3, none⟩ (.int .i64 p3))) ?hg ?ho ?hn ?hr ?_; (case ho => rfl); (case hg => rfl); (case hn => rfl); (case hr => first | (go_simp; done) | (go_simp; rfl)); intro w6 hw; have BP : w6.heap[gp]? = some (.cells #[.int .i64 p0, .int .i64 p1, .int .i64 p2, .int .i64 p3] 55 (0, 0)) := (by rw [hw]; exact (blk_set (blk_set (blk_set (blk_set HP2.out 0 _) 1 _) 2 _) 3 _)); have hb6 : Below _ _ w6 := (by rw [hw]; exact ((((HP3.out.setCell (Nat.le_of_eq HP1.out.symm) _).setCell (Nat.le_of_eq HP1.out.symm) _).setCell (Nat.le_of_eq HP1.out.symm) _).setCell (Nat.le_of_eq HP1.out.symm) _)); have n_ := Aside0.mk (And.intro (below_step HB.out.1 hb6) (And.intro (blk_below HB.out.2.1 hb6) trivial)); have n2_ := Aside0.mk (And.intro n_.out.1 (And.intro n_.out.2.1 BP)); clear HB hcz0 hcz1 hcz2 hfz0 hfz1 hfz2 hpz0 hpz1 hpz2 hpz3 hpf0 hpf1 hpf2 hpf3 hx0 hx1 hx2 hx3 HP1 HP2 HP3 hw hb6 BP n_; have HB := n2_; clear n2_; obtain ⟨hcz0, hcz1, hcz2, hfz0, hfz1, hfz2⟩ := Sets.net_cells HB.out.2.1; obtain ⟨hpz0, hpz1, hpz2, hpz3, hpf0, hpf1, hpf2, hpf3⟩ := Sets.cells4 HB.out.2.2) | (go_at_call 72; (with_reducible refine (C72.out _ _ _ ?side).mono ?_); (case side => exact HB.out.1); rintro e w7 ⟨rfl, hb⟩; have n_ := Aside0.mk (And.intro (below_step HB.out.1 hb) (And.intro (blk_below HB.out.2.1 hb) (blk_below HB.out.2.2 hb))); clear HB hcz0 hcz1 hcz2 hfz0 hfz1 hfz2 hpz0 hpz1 hpz2 hpz3 hpf0 hpf1 hpf2 hpf3 hb; have HB := n_; clear n_; obtain ⟨hcz0, hcz1, hcz2, hfz0, hfz1, hfz2⟩ := Sets.net_cells HB.out.2.1; obtain ⟨hpz0, hpz1, hpz2, hpz3, hpf0, hpf1, hpf2, hpf3⟩ := Sets.cells4 HB.out.2.2))
              go_ret
              exact ⟨by have e := HX.out; rw [if_pos (Or.inr (Or.inl hc))] at e; rw [← HE.out, netChk_eq HH.out, HZ.out, e]; rfl, HB.out.1⟩
            · have d1 : decide (inr p1 N.length) = true := decide_eq_true (Decidable.not_not.mp hc)
              have hn1 := hc
              clear hc
              by_cases hc : (p2 < 0)
              · have d2 : decide (p2 < 0) = true := decide_eq_true hc
                go_wp2_with (first | ((with_reducible refine gate_dst (N := 8) rfl ?_); refine box_event ?hg (N := 8) ?hd (cs := #[.int .i64 0, .int .i64 0, .int .i64 0, .int .i64 0]) (t := 55) ?hr ?_; (case hd => rfl); (case hg => rfl); (case hr => first | (go_simp; done) | (go_simp; rfl)); intro gp hgp w5 hbox hb; obtain ⟨hpz0, hpz1, hpz2, hpz3, hpf0, hpf1, hpf2, hpf3⟩ := Sets.cells4 hbox; have HP1 := Aside0.mk hgp; have HP2 := Aside0.mk hbox; have HP3 := Aside0.mk hb; clear hgp hbox hb) | ((with_reducible refine gate_store (t := 55) (p := 8) rfl ?_); refine store_event (t := 55) (p := 8) (v := ?vo_8) (w1 := ((((w5.setCell ⟨gp, 0, none⟩ (.int .i64 p0)).setCell ⟨gp, 1, none⟩ (.int .i64 p1)).setCell ⟨gp, 2, none⟩ (.int .i64 p2)).setCell ⟨gp, 3, none⟩ (.int .i64 p3))) ?hg ?ho ?hn ?hr ?_; (case ho => rfl); (case hg => rfl); (case hn => rfl); (case hr => first | (go_simp; done) | (go_simp; rfl)); intro w6 hw; have BP : w6.heap[gp]? = some (.cells #[.int .i64 p0, .int .i64 p1, .int .i64 p2, .int .i64 p3] 55 (0, 0)) := (by rw [hw]; exact (blk_set (blk_set (blk_set (blk_set HP2.out 0 _) 1 _) 2 _) 3 _)); have hb6 : Below _ _ w6 := (by rw [hw]; exact ((((HP3.out.setCell (Nat.le_of_eq HP1.out.symm) _).setCell (Nat.le_of_eq HP1.out.symm) _).setCell (Nat.le_of_eq HP1.out.symm) _).setCell (Nat.le_of_eq HP1.out.symm) _)); have n_ := Aside0.mk (And.intro (below_step HB.out.1 hb6) (And.intro (blk_below HB.out.2.1 hb6) trivial)); have n2_ := Aside0.mk (And.intro n_.out.1 (And.intro n_.out.2.1 BP)); clear HB hcz0 hcz1 hcz2 hfz0 hfz1 hfz2 hpz0 hpz1 hpz2 hpz3 hpf0 hpf1 hpf2 hpf3 hx0 hx1 hx2 hx3 HP1 HP2 HP3 hw hb6 BP n_; have HB := n2_; clear n2_; obtain ⟨hcz0, hcz1, hcz2, hfz0, hfz1, hfz2⟩ := Sets.net_cells HB.out.2.1; obtain ⟨hpz0, hpz1, hpz2, hpz3, hpf0, hpf1, hpf2, hpf3⟩ := Sets.cells4 HB.out.2.2) | (go_at_call 72; (with_reducible refine (C72.out _ _ _ ?side).mono ?_); (case side => exact HB.out.1); rintro e w7 ⟨rfl, hb⟩; have n_ := Aside0.mk (And.intro (below_step HB.out.1 hb) (And.intro (blk_below HB.out.2.1 hb) (blk_below HB.out.2.2 hb))); clear HB hcz0 hcz1 hcz2 hfz0 hfz1 hfz2 hpz0 hpz1 hpz2 hpz3 hpf0 hpf1 hpf2 hpf3 hb; have HB := n_; clear n_; obtain ⟨hcz0, hcz1, hcz2, hfz0, hfz1, hfz2⟩ := Sets.net_cells HB.out.2.1; obtain ⟨hpz0, hpz1, hpz2, hpz3, hpf0, hpf1, hpf2, hpf3⟩ := Sets.cells4 HB.out.2.2))
                go_ret
                exact ⟨by have e := HX.out; rw [if_pos (Or.inr (Or.inr (Or.inl hc)))] at e; rw [← HE.out, netChk_eq HH.out, HZ.out, e]; rfl, HB.out.1⟩
              · have d2 : decide (p2 < 0) = false := decide_eq_false hc
                have hn2 := hc
                clear hc
                by_cases hc : (1099511627776 < p2)
                · have d3 : decide (1099511627776 < p2) = true := decide_eq_true hc
                  go_wp2_with (first | ((with_reducible refine gate_dst (N := 8) rfl ?_); refine box_event ?hg (N := 8) ?hd (cs := #[.int .i64 0, .int .i64 0, .int .i64 0, .int .i64 0]) (t := 55) ?hr ?_; (case hd => rfl); (case hg => rfl); (case hr => first | (go_simp; done) | (go_simp; rfl)); intro gp hgp w5 hbox hb; obtain ⟨hpz0, hpz1, hpz2, hpz3, hpf0, hpf1, hpf2, hpf3⟩ := Sets.cells4 hbox; have HP1 := Aside0.mk hgp; have HP2 := Aside0.mk hbox; have HP3 := Aside0.mk hb; clear hgp hbox hb) | ((with_reducible refine gate_store (t := 55) (p := 8) rfl ?_); refine store_event (t := 55) (p := 8) (v := ?vo_8) (w1 := ((((w5.setCell ⟨gp, 0, none⟩ (.int .i64 p0)).setCell ⟨gp, 1, none⟩ (.int .i64 p1)).setCell ⟨gp, 2, none⟩ (.int .i64 p2)).setCell ⟨gp, 3, none⟩ (.int .i64 p3))) ?hg ?ho ?hn ?hr ?_; (case ho => rfl); (case hg => rfl); (case hn => rfl); (case hr => first | (go_simp; done) | (go_simp; rfl)); intro w6 hw; have BP : w6.heap[gp]? = some (.cells #[.int .i64 p0, .int .i64 p1, .int .i64 p2, .int .i64 p3] 55 (0, 0)) := (by rw [hw]; exact (blk_set (blk_set (blk_set (blk_set HP2.out 0 _) 1 _) 2 _) 3 _)); have hb6 : Below _ _ w6 := (by rw [hw]; exact ((((HP3.out.setCell (Nat.le_of_eq HP1.out.symm) _).setCell (Nat.le_of_eq HP1.out.symm) _).setCell (Nat.le_of_eq HP1.out.symm) _).setCell (Nat.le_of_eq HP1.out.symm) _)); have n_ := Aside0.mk (And.intro (below_step HB.out.1 hb6) (And.intro (blk_below HB.out.2.1 hb6) trivial)); have n2_ := Aside0.mk (And.intro n_.out.1 (And.intro n_.out.2.1 BP)); clear HB hcz0 hcz1 hcz2 hfz0 hfz1 hfz2 hpz0 hpz1 hpz2 hpz3 hpf0 hpf1 hpf2 hpf3 hx0 hx1 hx2 hx3 HP1 HP2 HP3 hw hb6 BP n_; have HB := n2_; clear n2_; obtain ⟨hcz0, hcz1, hcz2, hfz0, hfz1, hfz2⟩ := Sets.net_cells HB.out.2.1; obtain ⟨hpz0, hpz1, hpz2, hpz3, hpf0, hpf1, hpf2, hpf3⟩ := Sets.cells4 HB.out.2.2) | (go_at_call 72; (with_reducible refine (C72.out _ _ _ ?side).mono ?_); (case side => exact HB.out.1); rintro e w7 ⟨rfl, hb⟩; have n_ := Aside0.mk (And.intro (below_step HB.out.1 hb) (And.intro (blk_below HB.out.2.1 hb) (blk_below HB.out.2.2 hb))); clear HB hcz0 hcz1 hcz2 hfz0 hfz1 hfz2 hpz0 hpz1 hpz2 hpz3 hpf0 hpf1 hpf2 hpf3 hb; have HB := n_; clear n_; obtain ⟨hcz0, hcz1, hcz2, hfz0, hfz1, hfz2⟩ := Sets.net_cells HB.out.2.1; obtain ⟨hpz0, hpz1, hpz2, hpz3, hpf0, hpf1, hpf2, hpf3⟩ := Sets.cells4 HB.out.2.2))
                  go_ret
                  exact ⟨by have e := HX.out; rw [if_pos (Or.inr (Or.inr (Or.inr hc)))] at e; rw [← HE.out, netChk_eq HH.out, HZ.out, e]; rfl, HB.out.1⟩
                · have d3 : decide (1099511627776 < p2) = false := decide_eq_false hc
                  have hn3 := hc
                  clear hc
                  have HX1 := Aside0.mk (HX.out.trans (if_neg (fun h => by rcases h with h | h | h | h; exact hn0 h; exact hn1 h; exact hn2 h; exact hn3 h)))
                  clear HX hn0 hn1 hn2 hn3
                  by_cases hc : p0 = p1
                  · have d4 : (p0 == p1) = true := beq_iff_eq.mpr hc
                    go_wp2_with (first | ((with_reducible refine gate_dst (N := 8) rfl ?_); refine box_event ?hg (N := 8) ?hd (cs := #[.int .i64 0, .int .i64 0, .int .i64 0, .int .i64 0]) (t := 55) ?hr ?_; (case hd => rfl); (case hg => rfl); (case hr => first | (go_simp; done) | (go_simp; rfl)); intro gp hgp w5 hbox hb; obtain ⟨hpz0, hpz1, hpz2, hpz3, hpf0, hpf1, hpf2, hpf3⟩ := Sets.cells4 hbox; have HP1 := Aside0.mk hgp; have HP2 := Aside0.mk hbox; have HP3 := Aside0.mk hb; clear hgp hbox hb) | ((with_reducible refine gate_store (t := 55) (p := 8) rfl ?_); refine store_event (t := 55) (p := 8) (v := ?vo_8) (w1 := ((((w5.setCell ⟨gp, 0, none⟩ (.int .i64 p0)).setCell ⟨gp, 1, none⟩ (.int .i64 p1)).setCell ⟨gp, 2, none⟩ (.int .i64 p2)).setCell ⟨gp, 3, none⟩ (.int .i64 p3))) ?hg ?ho ?hn ?hr ?_; (case ho => rfl); (case hg => rfl); (case hn => rfl); (case hr => first | (go_simp; done) | (go_simp; rfl)); intro w6 hw; have BP : w6.heap[gp]? = some (.cells #[.int .i64 p0, .int .i64 p1, .int .i64 p2, .int .i64 p3] 55 (0, 0)) := (by rw [hw]; exact (blk_set (blk_set (blk_set (blk_set HP2.out 0 _) 1 _) 2 _) 3 _)); have hb6 : Below _ _ w6 := (by rw [hw]; exact ((((HP3.out.setCell (Nat.le_of_eq HP1.out.symm) _).setCell (Nat.le_of_eq HP1.out.symm) _).setCell (Nat.le_of_eq HP1.out.symm) _).setCell (Nat.le_of_eq HP1.out.symm) _)); have n_ := Aside0.mk (And.intro (below_step HB.out.1 hb6) (And.intro (blk_below HB.out.2.1 hb6) trivial)); have n2_ := Aside0.mk (And.intro n_.out.1 (And.intro n_.out.2.1 BP)); clear HB hcz0 hcz1 hcz2 hfz0 hfz1 hfz2 hpz0 hpz1 hpz2 hpz3 hpf0 hpf1 hpf2 hpf3 hx0 hx1 hx2 hx3 HP1 HP2 HP3 hw hb6 BP n_; have HB := n2_; clear n2_; obtain ⟨hcz0, hcz1, hcz2, hfz0, hfz1, hfz2⟩ := Sets.net_cells HB.out.2.1; obtain ⟨hpz0, hpz1, hpz2, hpz3, hpf0, hpf1, hpf2, hpf3⟩ := Sets.cells4 HB.out.2.2) | (go_at_call 72; (with_reducible refine (C72.out _ _ _ ?side).mono ?_); (case side => exact HB.out.1); rintro e w7 ⟨rfl, hb⟩; have n_ := Aside0.mk (And.intro (below_step HB.out.1 hb) (And.intro (blk_below HB.out.2.1 hb) (blk_below HB.out.2.2 hb))); clear HB hcz0 hcz1 hcz2 hfz0 hfz1 hfz2 hpz0 hpz1 hpz2 hpz3 hpf0 hpf1 hpf2 hpf3 hb; have HB := n_; clear n_; obtain ⟨hcz0, hcz1, hcz2, hfz0, hfz1, hfz2⟩ := Sets.net_cells HB.out.2.1; obtain ⟨hpz0, hpz1, hpz2, hpz3, hpf0, hpf1, hpf2, hpf3⟩ := Sets.cells4 HB.out.2.2))
                    go_ret
                    exact ⟨by have e := HX1.out; rw [if_pos hc] at e; rw [← HE.out, netChk_eq HH.out, HZ.out, e]; rfl, HB.out.1⟩
                  · have d4 : (p0 == p1) = false := beq_eq_false_iff_ne.mpr hc
                    have HX2 := Aside0.mk (HX1.out.trans (if_neg hc))
                    clear HX1 hc
                    go_wp2_with (first | ((with_reducible refine gate_dst (N := 8) rfl ?_); refine box_event ?hg (N := 8) ?hd (cs := #[.int .i64 0, .int .i64 0, .int .i64 0, .int .i64 0]) (t := 55) ?hr ?_; (case hd => rfl); (case hg => rfl); (case hr => first | (go_simp; done) | (go_simp; rfl)); intro gp hgp w5 hbox hb; obtain ⟨hpz0, hpz1, hpz2, hpz3, hpf0, hpf1, hpf2, hpf3⟩ := Sets.cells4 hbox; have HP1 := Aside0.mk hgp; have HP2 := Aside0.mk hbox; have HP3 := Aside0.mk hb; clear hgp hbox hb) | ((with_reducible refine gate_store (t := 55) (p := 8) rfl ?_); refine store_event (t := 55) (p := 8) (v := ?vo_8) (w1 := ((((w5.setCell ⟨gp, 0, none⟩ (.int .i64 p0)).setCell ⟨gp, 1, none⟩ (.int .i64 p1)).setCell ⟨gp, 2, none⟩ (.int .i64 p2)).setCell ⟨gp, 3, none⟩ (.int .i64 p3))) ?hg ?ho ?hn ?hr ?_; (case ho => rfl); (case hg => rfl); (case hn => rfl); (case hr => first | (go_simp; done) | (go_simp; rfl)); intro w6 hw; have BP : w6.heap[gp]? = some (.cells #[.int .i64 p0, .int .i64 p1, .int .i64 p2, .int .i64 p3] 55 (0, 0)) := (by rw [hw]; exact (blk_set (blk_set (blk_set (blk_set HP2.out 0 _) 1 _) 2 _) 3 _)); have hb6 : Below _ _ w6 := (by rw [hw]; exact ((((HP3.out.setCell (Nat.le_of_eq HP1.out.symm) _).setCell (Nat.le_of_eq HP1.out.symm) _).setCell (Nat.le_of_eq HP1.out.symm) _).setCell (Nat.le_of_eq HP1.out.symm) _)); have n_ := Aside0.mk (And.intro (below_step HB.out.1 hb6) (And.intro (blk_below HB.out.2.1 hb6) trivial)); have n2_ := Aside0.mk (And.intro n_.out.1 (And.intro n_.out.2.1 BP)); clear HB hcz0 hcz1 hcz2 hfz0 hfz1 hfz2 hpz0 hpz1 hpz2 hpz3 hpf0 hpf1 hpf2 hpf3 hx0 hx1 hx2 hx3 HP1 HP2 HP3 hw hb6 BP n_; have HB := n2_; clear n2_; obtain ⟨hcz0, hcz1, hcz2, hfz0, hfz1, hfz2⟩ := Sets.net_cells HB.out.2.1; obtain ⟨hpz0, hpz1, hpz2, hpz3, hpf0, hpf1, hpf2, hpf3⟩ := Sets.cells4 HB.out.2.2) | (go_at_call 72; (with_reducible refine (C72.out _ _ _ ?side).mono ?_); (case side => exact HB.out.1); rintro e w7 ⟨rfl, hb⟩; have n_ := Aside0.mk (And.intro (below_step HB.out.1 hb) (And.intro (blk_below HB.out.2.1 hb) (blk_below HB.out.2.2 hb))); clear HB hcz0 hcz1 hcz2 hfz0 hfz1 hfz2 hpz0 hpz1 hpz2 hpz3 hpf0 hpf1 hpf2 hpf3 hb; have HB := n_; clear n_; obtain ⟨hcz0, hcz1, hcz2, hfz0, hfz1, hfz2⟩ := Sets.net_cells HB.out.2.1; obtain ⟨hpz0, hpz1, hpz2, hpz3, hpf0, hpf1, hpf2, hpf3⟩ := Sets.cells4 HB.out.2.2))
                    go_roundg k1
                    case measure => omega
                    case rel => have hb_ := HH.out; exact ⟨n + 1, by first | (rw [wrap_succ_ (by omega)]; done) | go_num, ⟨HX2.out.symm⟩, ⟨by have := HN.out; omega⟩, ⟨HB.out.1, HB.out.2.1, trivial⟩⟩
        · have HY : Aside0 (nfEdges N.length E = 0) := ⟨by rw [← HA.out, List.drop_of_length_le (by omega)]; rfl⟩
          clear HA HN
          clear GM NE
          go_wp2_with (first | ((with_reducible refine gate_dst (N := 84) rfl ?_); refine Sets.make_at (t := 66) _ rfl rfl ?_; intro gm hgm w4 hs hb; have GM := Aside0.mk ((by rw [hgm]; exact below_size HB.out.1) : w.heap.size ≤ gm); have NE := Aside0.mk ((by rw [hgm]; exact Nat.ne_of_lt (blk_lt HB.out.2.1)) : gb ≠ gm); have n2_ := Aside0.mk (And.intro (below_step HB.out.1 hb) (And.intro (blk_below HB.out.2.1 hb) hs)); clear HB hcz0 hcz1 hcz2 hfz0 hfz1 hfz2 hs hb hgm; have HB := n2_; clear n2_; obtain ⟨hcz0, hcz1, hcz2, hfz0, hfz1, hfz2⟩ := Sets.net_cells HB.out.2.1))
          go_loopg [88] B.length (fun kq v88 w' => ∃ (n : Nat) (s : List (Int × Int)), v88 = .int .i64 (n : Int) ∧ Aside0 (nfBans E s (B.drop n) = nfBans E [] B) ∧ Aside0 (n + kq = B.length) ∧ Aside0 (Below w.heap.size w w' ∧ w'.heap[gb]? = some (.cells #[.slice A0 N.length c0, .slice A1 E.length c1, .slice A2 B.length c2] 53 (0, 0)) ∧ Sets.IsSet w' 66 gm n s))
          case atStart => exact ⟨0, [], rfl, ⟨rfl⟩, ⟨by omega⟩, HB⟩
          case round =>
            clear hcz0 hcz1 hcz2 hfz0 hfz1 hfz2 HB
            obtain ⟨n, s, rfl, HA, HN, HB⟩ := hrel
            obtain ⟨hcz0, hcz1, hcz2, hfz0, hfz1, hfz2⟩ := Sets.net_cells HB.out.2.1
            by_cases hlt : n < B.length
            · have hk := HN.out
              obtain ⟨k1, rfl⟩ : ∃ k1, gk = k1 + 1 := ⟨gk - 1, by omega⟩
              clear hk
              have HS := Aside0.mk (drop_head_ z66 hlt)
              obtain ⟨ad, e1, hx0, hx1⟩ := at_T66 HR2.out (n : Int) (by omega) (by omega)
              replace hx0 := (HB.out.1.cell (World.block_lt_of_cell? w _ hx0)).trans hx0
              replace hx1 := (HB.out.1.cell (World.block_lt_of_cell? w _ hx1)).trans hx1
              simp only [Int.toNat_natCast] at hx0 hx1
              cases e1
              generalize hp0 : (rd_T66 B (n : Int)).f0 = p0 at *
              generalize hp1 : (rd_T66 B (n : Int)).f1 = p1 at *
              have HW := Aside0.mk (HQ.out.2 _ (List.getElem_mem hlt))
              rw [show B[n] = rd_T66 B (n : Int) from by simp [rd_T66, hlt], hp0, hp1] at HW
              have HX := Aside0.mk (nfBans_step (E := E) (s := s) HS.out hp0 hp1)
              rw [HA.out] at HX
              clear hp0 hp1 HS HA
              by_cases hc : ¬ (inr p0 E.length)
              · have d0 : decide (inr p0 E.length) = false := decide_eq_false hc
                go_wp2_with (first | ((with_reducible refine gate_dst (N := 11) rfl ?_); refine box_event ?hg (N := 11) ?hd (cs := #[.int .i64 0, .int .i64 0]) (t := 66) ?hr ?_; (case hd => rfl); (case hg => rfl); (case hr => first | (go_simp; done) | (go_simp; rfl)); intro gp hgp w5 hbox hb; obtain ⟨hpz0, hpz1, hpf0, hpf1⟩ := Sets.cells2 hbox; have HP1 := Aside0.mk hgp; have HP2 := Aside0.mk hbox; have HP3 := Aside0.mk hb; clear hgp hbox hb) | ((with_reducible refine gate_store (t := 66) (p := 11) rfl ?_); refine store_event (t := 66) (p := 11) (v := ?vo_11) (w1 := ((w5.setCell ⟨gp, 0, none⟩ (.int .i64 p0)).setCell ⟨gp, 1, none⟩ (.int .i64 p1))) ?hg ?ho ?hn ?hr ?_; (case ho => rfl); (case hg => rfl); (case hn => rfl); (case hr => first | (go_simp; done) | (go_simp; rfl)); intro w6 hw; have BP : w6.heap[gp]? = some (.cells #[.int .i64 p0, .int .i64 p1] 66 (0, 0)) := (by rw [hw]; exact (blk_set (blk_set HP2.out 0 _) 1 _)); have hb6 : Below _ _ w6 := (by rw [hw]; exact ((HP3.out.setCell (Nat.le_of_eq HP1.out.symm) _).setCell (Nat.le_of_eq HP1.out.symm) _)); have n_ := Aside0.mk (And.intro (below_step HB.out.1 hb6) (And.intro (blk_below HB.out.2.1 hb6) (Sets.IsSet.below HB.out.2.2 hb6))); have n2_ := Aside0.mk (And.intro n_.out.1 (And.intro n_.out.2.1 (And.intro n_.out.2.2 BP))); clear HB hcz0 hcz1 hcz2 hfz0 hfz1 hfz2 hpz0 hpz1 hpf0 hpf1 hx0 hx1 HP1 HP2 HP3 hw hb6 BP n_; have HB := n2_; clear n2_; obtain ⟨hcz0, hcz1, hcz2, hfz0, hfz1, hfz2⟩ := Sets.net_cells HB.out.2.1; obtain ⟨hpz0, hpz1, hpf0, hpf1⟩ := Sets.cells2 HB.out.2.2.2) | (go_at_call 72; (with_reducible refine (C72.out _ _ _ ?side).mono ?_); (case side => exact HB.out.1); rintro e w7 ⟨rfl, hb⟩; have n_ := Aside0.mk (And.intro (below_step HB.out.1 hb) (And.intro (blk_below HB.out.2.1 hb) (And.intro (Sets.IsSet.below HB.out.2.2.1 hb) (blk_below HB.out.2.2.2 hb)))); clear HB hcz0 hcz1 hcz2 hfz0 hfz1 hfz2 hpz0 hpz1 hpf0 hpf1 hb; have HB := n_; clear n_; obtain ⟨hcz0, hcz1, hcz2, hfz0, hfz1, hfz2⟩ := Sets.net_cells HB.out.2.1; obtain ⟨hpz0, hpz1, hpf0, hpf1⟩ := Sets.cells2 HB.out.2.2.2))
                go_ret
                exact ⟨by have e := HX.out; rw [if_pos (Or.inl hc)] at e; rw [← HE.out, netChk_eq HH.out, HZ.out, HY.out, e]; rfl, HB.out.1⟩
              · have d0 : decide (inr p0 E.length) = true := decide_eq_true (Decidable.not_not.mp hc)
                have hn0 := Decidable.not_not.mp hc
                clear hc
                by_cases hc : ¬ (inr p1 E.length)
                · have d1 : decide (inr p1 E.length) = false := decide_eq_false hc
                  go_wp2_with (first | ((with_reducible refine gate_dst (N := 11) rfl ?_); refine box_event ?hg (N := 11) ?hd (cs := #[.int .i64 0, .int .i64 0]) (t := 66) ?hr ?_; (case hd => rfl); (case hg => rfl); (case hr => first | (go_simp; done) | (go_simp; rfl)); intro gp hgp w5 hbox hb; obtain ⟨hpz0, hpz1, hpf0, hpf1⟩ := Sets.cells2 hbox; have HP1 := Aside0.mk hgp; have HP2 := Aside0.mk hbox; have HP3 := Aside0.mk hb; clear hgp hbox hb) | ((with_reducible refine gate_store (t := 66) (p := 11) rfl ?_); refine store_event (t := 66) (p := 11) (v := ?vo_11) (w1 := ((w5.setCell ⟨gp, 0, none⟩ (.int .i64 p0)).setCell ⟨gp, 1, none⟩ (.int .i64 p1))) ?hg ?ho ?hn ?hr ?_; (case ho => rfl); (case hg => rfl); (case hn => rfl); (case hr => first | (go_simp; done) | (go_simp; rfl)); intro w6 hw; have BP : w6.heap[gp]? = some (.cells #[.int .i64 p0, .int .i64 p1] 66 (0, 0)) := (by rw [hw]; exact (blk_set (blk_set HP2.out 0 _) 1 _)); have hb6 : Below _ _ w6 := (by rw [hw]; exact ((HP3.out.setCell (Nat.le_of_eq HP1.out.symm) _).setCell (Nat.le_of_eq HP1.out.symm) _)); have n_ := Aside0.mk (And.intro (below_step HB.out.1 hb6) (And.intro (blk_below HB.out.2.1 hb6) (Sets.IsSet.below HB.out.2.2 hb6))); have n2_ := Aside0.mk (And.intro n_.out.1 (And.intro n_.out.2.1 (And.intro n_.out.2.2 BP))); clear HB hcz0 hcz1 hcz2 hfz0 hfz1 hfz2 hpz0 hpz1 hpf0 hpf1 hx0 hx1 HP1 HP2 HP3 hw hb6 BP n_; have HB := n2_; clear n2_; obtain ⟨hcz0, hcz1, hcz2, hfz0, hfz1, hfz2⟩ := Sets.net_cells HB.out.2.1; obtain ⟨hpz0, hpz1, hpf0, hpf1⟩ := Sets.cells2 HB.out.2.2.2) | (go_at_call 72; (with_reducible refine (C72.out _ _ _ ?side).mono ?_); (case side => exact HB.out.1); rintro e w7 ⟨rfl, hb⟩; have n_ := Aside0.mk (And.intro (below_step HB.out.1 hb) (And.intro (blk_below HB.out.2.1 hb) (And.intro (Sets.IsSet.below HB.out.2.2.1 hb) (blk_below HB.out.2.2.2 hb)))); clear HB hcz0 hcz1 hcz2 hfz0 hfz1 hfz2 hpz0 hpz1 hpf0 hpf1 hb; have HB := n_; clear n_; obtain ⟨hcz0, hcz1, hcz2, hfz0, hfz1, hfz2⟩ := Sets.net_cells HB.out.2.1; obtain ⟨hpz0, hpz1, hpf0, hpf1⟩ := Sets.cells2 HB.out.2.2.2))
                  go_ret
                  exact ⟨by have e := HX.out; rw [if_pos (Or.inr hc)] at e; rw [← HE.out, netChk_eq HH.out, HZ.out, HY.out, e]; rfl, HB.out.1⟩
                · have d1 : decide (inr p1 E.length) = true := decide_eq_true (Decidable.not_not.mp hc)
                  have hn1 := Decidable.not_not.mp hc
                  clear hc
                  have HX1 := Aside0.mk (HX.out.trans (if_neg (fun h => by rcases h with h | h; exact h hn0; exact h hn1)))
                  clear HX
                  go_upto_region 32 with (first | ((with_reducible refine gate_dst (N := 11) rfl ?_); refine box_event ?hg (N := 11) ?hd (cs := #[.int .i64 0, .int .i64 0]) (t := 66) ?hr ?_; (case hd => rfl); (case hg => rfl); (case hr => first | (go_simp; done) | (go_simp; rfl)); intro gp hgp w5 hbox hb; obtain ⟨hpz0, hpz1, hpf0, hpf1⟩ := Sets.cells2 hbox; have HP1 := Aside0.mk hgp; have HP2 := Aside0.mk hbox; have HP3 := Aside0.mk hb; clear hgp hbox hb) | ((with_reducible refine gate_store (t := 66) (p := 11) rfl ?_); refine store_event (t := 66) (p := 11) (v := ?vo_11) (w1 := ((w5.setCell ⟨gp, 0, none⟩ (.int .i64 p0)).setCell ⟨gp, 1, none⟩ (.int .i64 p1))) ?hg ?ho ?hn ?hr ?_; (case ho => rfl); (case hg => rfl); (case hn => rfl); (case hr => first | (go_simp; done) | (go_simp; rfl)); intro w6 hw; have BP : w6.heap[gp]? = some (.cells #[.int .i64 p0, .int .i64 p1] 66 (0, 0)) := (by rw [hw]; exact (blk_set (blk_set HP2.out 0 _) 1 _)); have hb6 : Below _ _ w6 := (by rw [hw]; exact ((HP3.out.setCell (Nat.le_of_eq HP1.out.symm) _).setCell (Nat.le_of_eq HP1.out.symm) _)); have n_ := Aside0.mk (And.intro (below_step HB.out.1 hb6) (And.intro (blk_below HB.out.2.1 hb6) (Sets.IsSet.below HB.out.2.2 hb6))); have n2_ := Aside0.mk (And.intro n_.out.1 (And.intro n_.out.2.1 (And.intro n_.out.2.2 BP))); clear HB hcz0 hcz1 hcz2 hfz0 hfz1 hfz2 hpz0 hpz1 hpf0 hpf1 hx0 hx1 HP1 HP2 HP3 hw hb6 BP n_; have HB := n2_; clear n2_; obtain ⟨hcz0, hcz1, hcz2, hfz0, hfz1, hfz2⟩ := Sets.net_cells HB.out.2.1; obtain ⟨hpz0, hpz1, hpf0, hpf1⟩ := Sets.cells2 HB.out.2.2.2) | (go_at_call 72; (with_reducible refine (C72.out _ _ _ ?side).mono ?_); (case side => exact HB.out.1); rintro e w7 ⟨rfl, hb⟩; have n_ := Aside0.mk (And.intro (below_step HB.out.1 hb) (And.intro (blk_below HB.out.2.1 hb) (And.intro (Sets.IsSet.below HB.out.2.2.1 hb) (blk_below HB.out.2.2.2 hb)))); clear HB hcz0 hcz1 hcz2 hfz0 hfz1 hfz2 hpz0 hpz1 hpf0 hpf1 hb; have HB := n_; clear n_; obtain ⟨hcz0, hcz1, hcz2, hfz0, hfz1, hfz2⟩ := Sets.net_cells HB.out.2.1; obtain ⟨hpz0, hpz1, hpf0, hpf1⟩ := Sets.cells2 HB.out.2.2.2))
                  (try simp only [Act.put, List.setIfInBounds_toArray, List.set_cons_zero, List.set_cons_succ])
                  obtain ⟨ad1, e2, -, hy1, -, -⟩ := at_T55 HR1.out p0 hn0.1 hn0.2
                  obtain ⟨ad2, e3, hy2, -, -, -⟩ := at_T55 HR1.out p1 hn1.1 hn1.2
                  cases e2
                  obtain rfl : ad1 = ad2 := by injection e3
                  replace hy1 := (HB.out.1.cell (World.block_lt_of_cell? w _ hy1)).trans hy1
                  replace hy2 := (HB.out.1.cell (World.block_lt_of_cell? w _ hy2)).trans hy2
                  have i0 := eq_true hn0.1; have i1 := eq_true hn0.2; have i2 := eq_true hn1.1; have i3 := eq_true hn1.2
                  have i4 := decide_eq_true hn0.1; have i5 := decide_eq_true hn0.2; have i6 := decide_eq_true hn1.1; have i7 := decide_eq_true hn1.2
                  generalize (rd_T55 E p0).f1 = u at *
                  generalize (rd_T55 E p1).f0 = v at *
                  by_cases hu : u = v
                  · have d4 : (u == v) = true := beq_iff_eq.mpr hu
                    have d5 : (u != v) = false := bne_eq_false_iff_eq.mpr hu
                    have HX2 := Aside0.mk (HX1.out.trans (if_neg (not_not_intro hu)))
                    clear HX1 hu hn0 hn1
                    go_region
                    have n_ := Aside0.mk (And.intro (below_drew1 HB.out.1) (And.intro (blk_drew HB.out.2.1) (And.intro (Sets.IsSet.drew HB.out.2.2.1) (blk_drew HB.out.2.2.2))))
                    clear HB hcz0 hcz1 hcz2 hfz0 hfz1 hfz2 hpz0 hpz1 hpf0 hpf1 hy1 hy2
                    have HB := n_
                    clear n_
                    generalize w7.drew = w9 at HB ⊢
                    obtain ⟨hcz0, hcz1, hcz2, hfz0, hfz1, hfz2⟩ := Sets.net_cells HB.out.2.1
                    obtain ⟨hpz0, hpz1, hpf0, hpf1⟩ := Sets.cells2 HB.out.2.2.2
                    by_cases hin : (p0, p1) ∈ s
                    · have d6 : decide ((p0, p1) ∈ s) = true := decide_eq_true hin
                      go_wp2_with (first | (at_lookup; refine Sets.lookup_at rfl _ rfl _ _ rfl Sets.two_Ban Try.underlying4 Try.underlying101 gm n s p0 p1 rfl HB.out.2.2.1 rfl HW.out.1 HW.out.2 ?_) | (at_mapUpdate; refine Sets.update_at rfl _ rfl _ _ _ rfl Sets.two_Ban Try.underlying4 Try.underlying101 gm n s p0 p1 (by have := HH.out; unfold maxLen; omega) rfl HB.out.2.2.1 rfl rfl HW.out.1 HW.out.2 ?_; intro w8 hs hgw; have n_ := Aside0.mk (And.intro (HB.out.1.grown hgw (below_size HB.out.1) (fun k hk => by cases hk; exact GM.out)) (And.intro (blk_grown HB.out.2.1 hgw (fun h => NE.out (Option.some.inj h))) hs)); clear HB hcz0 hcz1 hcz2 hfz0 hfz1 hfz2 hpz0 hpz1 hpf0 hpf1 hs hgw; have HB := n_; clear n_; obtain ⟨hcz0, hcz1, hcz2, hfz0, hfz1, hfz2⟩ := Sets.net_cells HB.out.2.1))
                      go_ret
                      exact ⟨by have e := HX2.out; rw [if_pos hin] at e; rw [← HE.out, netChk_eq HH.out, HZ.out, HY.out, e]; rfl, HB.out.1⟩
                    · have d6 : decide ((p0, p1) ∈ s) = false := decide_eq_false hin
                      have HX3 := Aside0.mk (HX2.out.trans (if_neg hin))
                      clear HX2 hin
                      go_wp2_with (first | (at_lookup; refine Sets.lookup_at rfl _ rfl _ _ rfl Sets.two_Ban Try.underlying4 Try.underlying101 gm n s p0 p1 rfl HB.out.2.2.1 rfl HW.out.1 HW.out.2 ?_) | (at_mapUpdate; refine Sets.update_at rfl _ rfl _ _ _ rfl Sets.two_Ban Try.underlying4 Try.underlying101 gm n s p0 p1 (by have := HH.out; unfold maxLen; omega) rfl HB.out.2.2.1 rfl rfl HW.out.1 HW.out.2 ?_; intro w8 hs hgw; have n_ := Aside0.mk (And.intro (HB.out.1.grown hgw (below_size HB.out.1) (fun k hk => by cases hk; exact GM.out)) (And.intro (blk_grown HB.out.2.1 hgw (fun h => NE.out (Option.some.inj h))) hs)); clear HB hcz0 hcz1 hcz2 hfz0 hfz1 hfz2 hpz0 hpz1 hpf0 hpf1 hs hgw; have HB := n_; clear n_; obtain ⟨hcz0, hcz1, hcz2, hfz0, hfz1, hfz2⟩ := Sets.net_cells HB.out.2.1))
                      go_roundg k1
                      case measure => omega
                      case rel => have hb_ := HH.out; exact ⟨n + 1, s ++ [(p0, p1)], by first | (rw [wrap_succ_ (by omega)]; done) | go_num, ⟨HX3.out.symm⟩, ⟨by have := HN.out; omega⟩, HB⟩
                  · have d4 : (u == v) = false := beq_eq_false_iff_ne.mpr hu
                    have d5 : (u != v) = true := bne_iff_ne.mpr hu
                    have HX2 := Aside0.mk (HX1.out.trans (if_pos hu))
                    clear HX1 hu hn0 hn1
                    go_region
                    have n_ := Aside0.mk (And.intro (below_drew1 HB.out.1) (And.intro (blk_drew HB.out.2.1) (And.intro (Sets.IsSet.drew HB.out.2.2.1) (blk_drew HB.out.2.2.2))))
                    clear HB hcz0 hcz1 hcz2 hfz0 hfz1 hfz2 hpz0 hpz1 hpf0 hpf1 hy1 hy2
                    have HB := n_
                    clear n_
                    generalize w7.drew = w9 at HB ⊢
                    obtain ⟨hcz0, hcz1, hcz2, hfz0, hfz1, hfz2⟩ := Sets.net_cells HB.out.2.1
                    obtain ⟨hpz0, hpz1, hpf0, hpf1⟩ := Sets.cells2 HB.out.2.2.2
                    go_wp2
                    go_ret
                    exact ⟨by rw [← HE.out, netChk_eq HH.out, HZ.out, HY.out, HX2.out]; rfl, HB.out.1⟩
            · have HV : Aside0 (nfBans E [] B = 0) := ⟨by rw [← HA.out, List.drop_of_length_le (by omega)]; rfl⟩
              clear HA HN
              go_wp2
              go_ret
              exact ⟨by rw [← HE.out, netChk_eq HH.out, HZ.out, HY.out, HV.out]; rfl, HB.out.1⟩
end
/-- What the call comes to: where the numbers of its nodes and bans are numbers of Go. -/
def terrref4_NetFault.f (l0_0 : List S46) (l0_1 : List S55) (l0_2 : List S66) : Option Int := if NetWf l0_0 l0_2 then some (netChk l0_0 l0_1 l0_2) else none
theorem terrref4_NetFault.calls (A0_0 : Option Addr) (c0_0 : Nat) (l0_0 : List S46) (A0_1 : Option Addr) (c0_1 : Nat) (l0_1 : List S55) (A0_2 : Option Addr) (c0_2 : Nat) (l0_2 : List S66) (r : Int) (w : World)
    (hr0_0 : Kd.C k46 w A0_0 l0_0.length l0_0) (hc0_0 : l0_0.length ≤ c0_0) (hr0_1 : Kd.C k55 w A0_1 l0_1.length l0_1) (hc0_1 : l0_1.length ≤ c0_1) (hr0_2 : Kd.C k66 w A0_2 l0_2.length l0_2) (hc0_2 : l0_2.length ≤ c0_2) (h : terrref4_NetFault.f l0_0 l0_1 l0_2 = some r) :
    Calls Try.prog 34 #[.agg #[.slice A0_0 l0_0.length c0_0, .slice A0_1 l0_1.length c0_1, .slice A0_2 l0_2.length c0_2]] w fun e w' => e = .returned (.int .i64 r) ∧ Below w.heap.size w w' := by
  unfold terrref4_NetFault.f at h
  split at h
  · rename_i q
    obtain rfl := Option.some.inj h
    by_cases hl : l0_0.length ≤ 200 ∧ l0_1.length ≤ 600 ∧ l0_2.length ≤ 600
    · exact nf_main hr0_0 hr0_1 hr0_2 hl.1 hl.2.1 hl.2.2 q
    · have e : netChk l0_0 l0_1 l0_2 = 2 := if_pos (by omega)
      rw [e]
      refine nf_large _ _ _ rfl rfl rfl ?_
      by_cases h0 : 200 < l0_0.length
      · simp [h0]
      · by_cases h1 : 600 < l0_1.length
        · simp [h1]
        · have h2 : 600 < l0_2.length := by omega
          simp [h2]
  · cases h

/-! ### net_In: function 37 -/
def net_In.l0 : Nat → Int → List Int → List (S55) → Int → Int → Option (List Int)
 | 0, _, _, _, _, _ => none
 | k + 1, x1, x5, x9, x10, x11 => if x11 < x10 then (if 0 ≤ x11 then (if x11 < (x9.length : Int) then (if ((rd_T55 x9 x11).f1) = x1 then (if x5.length < 17592186044416 then (net_In.l0 k x1 (x5 ++ [x11]) x9 x10 (wrap64 (x11 + 1))) else (none)) else (net_In.l0 k x1 x5 x9 x10 (wrap64 (x11 + 1)))) else (none)) else (none)) else (some x5)
def net_In.f (k : Nat) (l0_0 : List (S46)) (l0_1 : List (S55)) (l0_2 : List (S66)) (a1 : Int) : Option (List Int) := net_In.l0 k a1 ([] : List Int) l0_1 (l0_1.length : Int) 0
theorem net_In.mono_l : ∀ k, (∀ y0 y1 y2 y3 y4, LeO (net_In.l0 k y0 y1 y2 y3 y4) (net_In.l0 (k + 1) y0 y1 y2 y3 y4))
 | 0 => fun _ _ _ _ _ r h => by simp [net_In.l0] at h
 | k + 1 => by
  have ih0 := net_In.mono_l k
  ·
   intro y0 y1 y2 y3 y4
   unfold net_In.l0
   repeat' first
   | (with_reducible exact ih0 _ _ _ _ _)
   | (with_reducible exact LeO.refl _)
   | (with_reducible exact LeO.none _)
   | (with_reducible refine LeO.ite ?_ ?_)
   | (with_reducible refine LeO.bind ?_ (fun _ => ?_))
   | exact ih0 _ _ _ _ _
   | exact LeO.none _
   | refine LeO.ite ?_ ?_
   | refine LeO.bind ?_ (fun _ => ?_)
theorem net_In.mono : ∀ a0 a1 a2 a3 k, LeO (net_In.f k a0 a1 a2 a3) (net_In.f (k + 1) a0 a1 a2 a3) := by
 intro a0 a1 a2 a3 k
 have ih0 := net_In.mono_l k
 unfold net_In.f
 repeat' first
   | (with_reducible exact ih0 _ _ _ _ _)
   | (with_reducible exact LeO.refl _)
   | (with_reducible exact LeO.none _)
   | (with_reducible refine LeO.ite ?_ ?_)
   | (with_reducible refine LeO.bind ?_ (fun _ => ?_))
   | exact ih0 _ _ _ _ _
   | exact LeO.none _
   | refine LeO.ite ?_ ?_
   | refine LeO.bind ?_ (fun _ => ?_)
set_option maxHeartbeats 8000000 in
set_option maxRecDepth 100000 in
theorem net_In.calls (k : Nat) (A0_0 : Option Addr) (c0_0 : Nat) (l0_0 : List (S46)) (A0_1 : Option Addr) (c0_1 : Nat) (l0_1 : List (S55)) (A0_2 : Option Addr) (c0_2 : Nat) (l0_2 : List (S66)) (a1 : Int) (r : List Int) (w : World) (hr0_0 : Kd.C k46 w A0_0 l0_0.length l0_0) (hc0_0 : l0_0.length ≤ c0_0) (hr0_1 : Kd.C k55 w A0_1 l0_1.length l0_1) (hc0_1 : l0_1.length ≤ c0_1) (hr0_2 : Kd.C k66 w A0_2 l0_2.length l0_2) (hc0_2 : l0_2.length ≤ c0_2) (h : net_In.f k l0_0 l0_1 l0_2 a1 = some r) :
  Calls Try.prog 37 #[.agg #[.slice A0_0 l0_0.length c0_0, .slice A0_1 l0_1.length c0_1, .slice A0_2 l0_2.length c0_2], .int .i64 a1] w fun e w' => ∃ v0_ : Value, e = .returned (v0_) ∧ Kd.R (Kd.int .i64) 3 w' w.heap.size (fun _ => True) v0_ r ∧ Below w.heap.size w w' := by
 have hu53 := Try.underlying53
 have hu55 := Try.underlying55
 have HR0_0 := Aside0.mk hr0_0
 have HC0_0 := Aside0.mk hc0_0
 clear hr0_0 hc0_0
 have HR0_1 := Aside0.mk hr0_1
 have HC0_1 := Aside0.mk hc0_1
 clear hr0_1 hc0_1
 have HR0_2 := Aside0.mk hr0_2
 have HC0_2 := Aside0.mk hc0_2
 clear hr0_2 hc0_2
 have HB := Aside0.mk (Below.refl w.heap.size w)
 have H : (net_In.l0 k a1 ([] : List Int) l0_1 (l0_1.length : Int) 0) = some r := h
 clear h
 have H' := Aside0.mk H
 clear H
 go_enter Try.func37, Try.ntmps37
 go_wp2_with (first | ((with_reducible refine gate_dst (N := 2) rfl ?_); refine box_event ?hg (N := 2) ?hd (cs := #[.slice A0_0 l0_0.length c0_0, .slice A0_1 l0_1.length c0_1, .slice A0_2 l0_2.length c0_2]) (t := 53) ?hr ?_; (case hd => rfl); (case hg => rfl); (case hr => first | (go_simp; done) | (go_simp; rfl)); intro gb205 hg w3 hbox hb; have n0_ := Aside0.mk (below_step (by repeat (first | (with_reducible first | exact HB.out | apply below_alloc | apply pw_below_drewN | apply below_drew1) | exact HB.out)) hb); have n1_ := Aside0.mk (hbox); have n2_ := Aside0.mk ((by rw [hg]; exact (below_size (by repeat (first | (with_reducible first | exact HB.out | apply below_alloc | apply pw_below_drewN | apply below_drew1) | exact HB.out))) : w.heap.size ≤ gb205)); have n3_ := Aside0.mk ((by rw [hg]; exact (below_size (by repeat (first | (with_reducible first | exact HB.out | apply below_alloc | apply pw_below_drewN | apply below_drew1) | exact HB.out))) : w.heap.size ≤ gb205)); clear HB; have HB := n0_; have BK205 := n1_; have GW205 := n2_; have GE205 := n3_; clear n0_ n1_ n2_ n3_; clear hb hbox hg; have hcz4_0 : w3.cell? ⟨gb205, 0, none⟩ = some (.slice A0_0 l0_0.length c0_0) := (blk_cell BK205.out 0).trans rfl; have hcz4_1 : w3.cell? ⟨gb205, 1, none⟩ = some (.slice A0_1 l0_1.length c0_1) := (blk_cell BK205.out 1).trans rfl; have hcz4_2 : w3.cell? ⟨gb205, 2, none⟩ = some (.slice A0_2 l0_2.length c0_2) := (blk_cell BK205.out 2).trans rfl; have hfz4_0 := blk_frozen BK205.out 0; have hfz4_1 := blk_frozen BK205.out 1; have hfz4_2 := blk_frozen BK205.out 2))
 go_loopg [5, 11] k (fun kq v5 v11 w' => ∃ (x5_1 : List Int) (x11_1 : Int), v11 = .int .i64 x11_1 ∧ Aside0 (net_In.l0 kq a1 x5_1 l0_1 (l0_1.length : Int) x11_1 = some r) ∧ Aside0 (kq ≤ k) ∧ Aside0 (Kd.R (Kd.int .i64) 3 w' w.heap.size (fun _ => True) v5 x5_1) ∧ Aside0 (w'.heap[gb205]? = some (.cells #[(.slice A0_0 l0_0.length c0_0), (.slice A0_1 l0_1.length c0_1), (.slice A0_2 l0_2.length c0_2)] 53 (0, 0))) ∧ Aside0 (Below w.heap.size w w'))
 case atStart => exact ⟨(([] : List Int)), (0), (by first | rfl | (simp; done) | (simp [*]; done)), H', ⟨Nat.le_refl _⟩, ⟨by first | exact Kd.R_nil _ _ _ _ _ | exact Kd.N_nil _ _ _ _ _ | exact Kd.V_nil _ _ _ _ _ | exact Kd.Q_nil _ _ _ _ _ | exact Kd.S_nil _ _ _ _ _⟩, ⟨by (with_reducible repeat (first | refine blk_drewN ?_ _ | refine blk_drew ?_ | refine blk_alloc ?_ _)); exact BK205.out⟩, ⟨by repeat (first | (with_reducible first | exact HB.out | apply below_alloc | apply pw_below_drewN | apply below_drew1 | refine below_set ?_ GE205.out) | exact HB.out)⟩⟩
 case round =>
  clear H'
  (try clear p2); (try clear c3); (try clear hcz4_0); (try clear hcz4_1); (try clear hcz4_2); (try clear hfz4_0); (try clear hfz4_1); (try clear hfz4_2)
  obtain ⟨x5_1, x11_1, rfl, HA, HK1, HO_5, BK205, HB⟩ := hrel
  cases gk with
  | zero => exact absurd HA.out (by simp [net_In.l0])
  | succ k1 =>
   have H := HA.out
   clear HA
   simp only [net_In.l0] at H
   by_cases c5 : x11_1 < (l0_1.length : Int)
   ·
    rw [if_pos c5] at H
    have c5b0 : decide (x11_1 < (l0_1.length : Int)) = true := decide_eq_true c5
    clear c5
    by_cases c6 : 0 ≤ x11_1
    ·
     rw [if_pos c6] at H
     have c6b0 : decide (0 ≤ x11_1) = true := decide_eq_true c6
     clear c6
     by_cases c7 : x11_1 < (l0_1.length : Int)
     ·
      rw [if_pos c7] at H
      have c7b0 : decide (x11_1 < (l0_1.length : Int)) = true := decide_eq_true c7
      clear c7
      by_cases c8 : ((rd_T55 l0_1 x11_1).f1) = a1
      ·
       rw [if_pos c8] at H
       have c8b0 : (((rd_T55 l0_1 x11_1).f1) == a1) = true := beq_iff_eq.mpr c8
       have c8b1 : (((rd_T55 l0_1 x11_1).f1) != a1) = false := bne_eq_false_iff_eq.mpr c8
       clear c8
       by_cases c9 : x5_1.length < 17592186044416
       ·
        rw [if_pos c9] at H
        have LMc9 := Aside0.mk c9
        clear c9
        obtain ⟨y208, hy208⟩ : ∃ y_ : List Int, y_ = (x5_1 ++ [x11_1]) := ⟨_, rfl⟩
        replace H : (net_In.l0 k1 a1 y208 l0_1 (l0_1.length : Int) (wrap64 (x11_1 + 1))) = some r := by first | (rw [hy208]; with_reducible exact H) | (have H2_ := (Option.bind_some _ _).symm.trans H; rw [hy208]; with_reducible exact H2_) | (have H2_ := (Option.bind_some _ _).symm.trans H; with_reducible exact H2_) | with_reducible exact H | (rw [hy208]; exact H) | exact H
        have Ny208 := Aside0.mk hy208
        clear hy208
        have H' := Aside0.mk H
        clear H
        have p206 : 0 ≤ (x11_1 : Int) := of_decide_eq_true (by first | (with_reducible assumption) | assumption)
        have q206 : x11_1 < (l0_1.length : Int) := of_decide_eq_true (by first | (with_reducible assumption) | assumption)
        obtain ⟨ad206, e206, hx206_0, hx206_1, hx206_2, hx206_3⟩ := at_T55 HR0_1.out x11_1 p206 q206
        cases e206
        replace hx206_0 := (HB.out.cell (World.block_lt_of_cell? w _ hx206_0)).trans hx206_0
        replace hx206_1 := (HB.out.cell (World.block_lt_of_cell? w _ hx206_1)).trans hx206_1
        replace hx206_2 := (HB.out.cell (World.block_lt_of_cell? w _ hx206_2)).trans hx206_2
        replace hx206_3 := (HB.out.cell (World.block_lt_of_cell? w _ hx206_3)).trans hx206_3
        replace p206 := eq_true p206
        replace q206 := eq_true q206
        go_wp2_with (first | ((with_reducible refine gate_dst (N := 7) rfl ?_); refine box_event ?hg (N := 7) ?hd (cs := #[.int .i64 0, .int .i64 0, .int .i64 0, .int .i64 0]) (t := 55) ?hr ?_; (case hd => rfl); (case hg => rfl); (case hr => first | (go_simp; done) | (go_simp; rfl)); intro gb207 hg w10 hbox hb; have n0_ := Aside0.mk (Kd.R_below (by (with_reducible repeat (first | apply Kd.R_alloc | apply Kd.R_drewN | apply Kd.R_drew)); exact HO_5.out) hb); have n1_ := Aside0.mk (blk_below (g := gb205) (o := .cells #[.slice A0_0 l0_0.length c0_0, .slice (some ad206) l0_1.length c0_1, .slice A0_2 l0_2.length c0_2] 53 (0, 0)) (by (with_reducible repeat (first | refine blk_drewN ?_ _ | refine blk_drew ?_ | refine blk_alloc ?_ _)); exact BK205.out) hb); have n2_ := Aside0.mk (below_step (by repeat (first | (with_reducible first | exact HB.out | apply below_alloc | apply pw_below_drewN | apply below_drew1 | refine below_set ?_ GE205.out) | exact HB.out)) hb); have n3_ := Aside0.mk (hbox); have n4_ := Aside0.mk ((by rw [hg]; exact (below_size (by repeat (first | (with_reducible first | exact HB.out | apply below_alloc | apply pw_below_drewN | apply below_drew1 | refine below_set ?_ GE205.out) | exact HB.out))) : w.heap.size ≤ gb207)); have n5_ := Aside0.mk ((by rw [hg]; exact (below_size (by repeat (first | (with_reducible first | exact HB.out | apply below_alloc | apply pw_below_drewN | apply below_drew1 | refine below_set ?_ GE205.out) | exact HB.out))) : w.heap.size ≤ gb207)); have n6_ := Aside0.mk ((by rw [hg]; exact Nat.ne_of_lt (blk_lt (g := gb205) (o := .cells #[.slice A0_0 l0_0.length c0_0, .slice (some ad206) l0_1.length c0_1, .slice A0_2 l0_2.length c0_2] 53 (0, 0)) (by (with_reducible repeat (first | refine blk_drewN ?_ _ | refine blk_drew ?_ | refine blk_alloc ?_ _)); exact BK205.out)) : gb205 ≠ gb207)); have n7_ := Aside0.mk ((by rw [hg]; exact Nat.ne_of_gt (blk_lt (g := gb205) (o := .cells #[.slice A0_0 l0_0.length c0_0, .slice (some ad206) l0_1.length c0_1, .slice A0_2 l0_2.length c0_2] 53 (0, 0)) (by (with_reducible repeat (first | refine blk_drewN ?_ _ | refine blk_drew ?_ | refine blk_alloc ?_ _)); exact BK205.out)) : gb207 ≠ gb205)); clear HO_5; clear BK205; clear HB; have HO_5 := n0_; have BK205 := n1_; have HB := n2_; have BK207 := n3_; have GW207 := n4_; have GE207 := n5_; have NB205_207 := n6_; have NB207_205 := n7_; clear n0_ n1_ n2_ n3_ n4_ n5_ n6_ n7_; clear hb hbox hg; have hnb11 := NB207_205.out; have hnc11 := NB205_207.out; have hcz12_0 : w10.cell? ⟨gb207, 0, none⟩ = some (.int .i64 0) := (blk_cell BK207.out 0).trans rfl; have hcz12_1 : w10.cell? ⟨gb207, 1, none⟩ = some (.int .i64 0) := (blk_cell BK207.out 1).trans rfl; have hcz12_2 : w10.cell? ⟨gb207, 2, none⟩ = some (.int .i64 0) := (blk_cell BK207.out 2).trans rfl; have hcz12_3 : w10.cell? ⟨gb207, 3, none⟩ = some (.int .i64 0) := (blk_cell BK207.out 3).trans rfl; have hfz12_0 := blk_frozen BK207.out 0; have hfz12_1 := blk_frozen BK207.out 1; have hfz12_2 := blk_frozen BK207.out 2; have hfz12_3 := blk_frozen BK207.out 3) | ((with_reducible refine gate_builtin (b := .append) (xs := #[.tmp 20, .tmp 22]) rfl ?_); at_builtin; refine Kd.R_append (Kd.int .i64) (w0 := w) w.heap.size rfl (.tmp 20) (.tmp 22) 22 3 (.int .i64 0) 8 rfl Try.underlying22 info3 rfl (by decide) (by omega) u5 x5_1 x11_1 [.int .i64 x11_1] (fun _ => True) (fun _ => False) rfl (by first | (go_simp; done) | (go_simp; rfl)) ?aP (fun _ hk => hk.elim) ?aF ?aO ?aB ?aS ?aL ?_; (case aP => exact rfl); (case aB => exact (by repeat (first | (with_reducible first | exact HB.out | apply below_alloc | apply pw_below_drewN | apply below_drew1 | refine below_set ?_ GE205.out | refine below_set ?_ GE207.out) | exact HB.out))); (case aF => exact (fun _ _ => trivial)); (case aO => exact (by (with_reducible repeat (first | apply Kd.R_alloc | apply Kd.R_drewN | apply Kd.R_drew)); exact Kd.R_mono (Kd.R_far (p := ⟨gb207, 3, none⟩) (Kd.R_far (p := ⟨gb207, 2, none⟩) (Kd.R_far (p := ⟨gb207, 1, none⟩) (Kd.R_far (p := ⟨gb207, 0, none⟩) (Kd.R_types HO_5.out BK207.out (by decide)) (fun _ hk => hk.2) (.int .i64 ((rd_T55 l0_1 x11_1).f0))) (fun _ hk => hk.2) (.int .i64 ((rd_T55 l0_1 x11_1).f1))) (fun _ hk => hk.2) (.int .i64 ((rd_T55 l0_1 x11_1).f2))) (fun _ hk => hk.2) (.int .i64 ((rd_T55 l0_1 x11_1).f3))) (fun _ hk => trivial))); (case aS => exact (below_size (by repeat (first | (with_reducible first | exact HB.out | apply below_alloc | apply pw_below_drewN | apply below_drew1 | refine below_set ?_ GE205.out | refine below_set ?_ GE207.out) | exact HB.out)))); (case aL => have := LMc9.out; omega); intro v209 w13 ho hb hg hat; rw [← Ny208.out] at ho; have n0_ := Aside0.mk (blk_grown (g := gb205) (o := .cells #[.slice A0_0 l0_0.length c0_0, .slice (some ad206) l0_1.length c0_1, .slice A0_2 l0_2.length c0_2] 53 (0, 0)) (by (with_reducible repeat (first | refine blk_drewN ?_ _ | refine blk_drew ?_ | refine blk_alloc ?_ _)); refine blk_far ?_ NB205_207.out _; (with_reducible repeat (first | refine blk_drewN ?_ _ | refine blk_drew ?_ | refine blk_alloc ?_ _)); refine blk_far ?_ NB205_207.out _; (with_reducible repeat (first | refine blk_drewN ?_ _ | refine blk_drew ?_ | refine blk_alloc ?_ _)); refine blk_far ?_ NB205_207.out _; (with_reducible repeat (first | refine blk_drewN ?_ _ | refine blk_drew ?_ | refine blk_alloc ?_ _)); refine blk_far ?_ NB205_207.out _; (with_reducible repeat (first | refine blk_drewN ?_ _ | refine blk_drew ?_ | refine blk_alloc ?_ _)); exact BK205.out) hg (Kd.R_ne HO_5.out BK205.out (by decide))); have n1_ := Aside0.mk (blk_grown (g := gb207) (o := .cells #[.int .i64 ((rd_T55 l0_1 x11_1).f0), .int .i64 ((rd_T55 l0_1 x11_1).f1), .int .i64 ((rd_T55 l0_1 x11_1).f2), .int .i64 ((rd_T55 l0_1 x11_1).f3)] 55 (0, 0)) (by (with_reducible repeat (first | refine blk_drewN ?_ _ | refine blk_drew ?_ | refine blk_alloc ?_ _)); refine blk_put (cs := #[.int .i64 ((rd_T55 l0_1 x11_1).f0), .int .i64 ((rd_T55 l0_1 x11_1).f1), .int .i64 ((rd_T55 l0_1 x11_1).f2), .int .i64 0]) ?_ 3 _ rfl; (with_reducible repeat (first | refine blk_drewN ?_ _ | refine blk_drew ?_ | refine blk_alloc ?_ _)); refine blk_put (cs := #[.int .i64 ((rd_T55 l0_1 x11_1).f0), .int .i64 ((rd_T55 l0_1 x11_1).f1), .int .i64 0, .int .i64 0]) ?_ 2 _ rfl; (with_reducible repeat (first | refine blk_drewN ?_ _ | refine blk_drew ?_ | refine blk_alloc ?_ _)); refine blk_put (cs := #[.int .i64 ((rd_T55 l0_1 x11_1).f0), .int .i64 0, .int .i64 0, .int .i64 0]) ?_ 1 _ rfl; (with_reducible repeat (first | refine blk_drewN ?_ _ | refine blk_drew ?_ | refine blk_alloc ?_ _)); refine blk_put (cs := #[.int .i64 0, .int .i64 0, .int .i64 0, .int .i64 0]) ?_ 0 _ rfl; (with_reducible repeat (first | refine blk_drewN ?_ _ | refine blk_drew ?_ | refine blk_alloc ?_ _)); exact BK207.out) hg (Kd.R_ne HO_5.out BK207.out (by decide))); have n2_ := Aside0.mk (hb); have n3_ := Aside0.mk (ho); clear BK205; clear BK207; clear HB; clear HO_5; have BK205 := n0_; have BK207 := n1_; have HB := n2_; have HO210 := n3_; clear n0_ n1_ n2_ n3_; clear ho hb hg hat))
        go_roundg k1
        case measure => have := HK1.out; omega
        case rel => exact ⟨(y208), (wrap64 (x11_1 + 1)), (by first | rfl | (simp; done) | (simp [*]; done)), H', ⟨by have := HK1.out; omega⟩, ⟨by (with_reducible repeat (first | apply Kd.R_alloc | apply Kd.R_drewN | apply Kd.R_drew)); exact HO210.out⟩, ⟨by (with_reducible repeat (first | refine blk_drewN ?_ _ | refine blk_drew ?_ | refine blk_alloc ?_ _)); exact BK205.out⟩, ⟨by repeat (first | (with_reducible first | exact HB.out | apply below_alloc | apply pw_below_drewN | apply below_drew1 | refine below_set ?_ GE205.out | refine below_set ?_ GE207.out) | exact HB.out)⟩⟩
       ·
        rw [if_neg c9] at H
        exact absurd H (by simp)
      ·
       rw [if_neg c8] at H
       have c8b0 : (((rd_T55 l0_1 x11_1).f1) == a1) = false := beq_eq_false_iff_ne.mpr c8
       have c8b1 : (((rd_T55 l0_1 x11_1).f1) != a1) = true := bne_iff_ne.mpr c8
       have H' := Aside0.mk H
       clear H
       have p206 : 0 ≤ (x11_1 : Int) := of_decide_eq_true (by first | (with_reducible assumption) | assumption)
       have q206 : x11_1 < (l0_1.length : Int) := of_decide_eq_true (by first | (with_reducible assumption) | assumption)
       obtain ⟨ad206, e206, hx206_0, hx206_1, hx206_2, hx206_3⟩ := at_T55 HR0_1.out x11_1 p206 q206
       cases e206
       replace hx206_0 := (HB.out.cell (World.block_lt_of_cell? w _ hx206_0)).trans hx206_0
       replace hx206_1 := (HB.out.cell (World.block_lt_of_cell? w _ hx206_1)).trans hx206_1
       replace hx206_2 := (HB.out.cell (World.block_lt_of_cell? w _ hx206_2)).trans hx206_2
       replace hx206_3 := (HB.out.cell (World.block_lt_of_cell? w _ hx206_3)).trans hx206_3
       replace p206 := eq_true p206
       replace q206 := eq_true q206
       go_wp2_with (first | ((with_reducible refine gate_dst (N := 7) rfl ?_); refine box_event ?hg (N := 7) ?hd (cs := #[.int .i64 0, .int .i64 0, .int .i64 0, .int .i64 0]) (t := 55) ?hr ?_; (case hd => rfl); (case hg => rfl); (case hr => first | (go_simp; done) | (go_simp; rfl)); intro gb207 hg w14 hbox hb; have n0_ := Aside0.mk (Kd.R_below (by (with_reducible repeat (first | apply Kd.R_alloc | apply Kd.R_drewN | apply Kd.R_drew)); exact HO_5.out) hb); have n1_ := Aside0.mk (blk_below (g := gb205) (o := .cells #[.slice A0_0 l0_0.length c0_0, .slice (some ad206) l0_1.length c0_1, .slice A0_2 l0_2.length c0_2] 53 (0, 0)) (by (with_reducible repeat (first | refine blk_drewN ?_ _ | refine blk_drew ?_ | refine blk_alloc ?_ _)); exact BK205.out) hb); have n2_ := Aside0.mk (below_step (by repeat (first | (with_reducible first | exact HB.out | apply below_alloc | apply pw_below_drewN | apply below_drew1 | refine below_set ?_ GE205.out) | exact HB.out)) hb); have n3_ := Aside0.mk (hbox); have n4_ := Aside0.mk ((by rw [hg]; exact (below_size (by repeat (first | (with_reducible first | exact HB.out | apply below_alloc | apply pw_below_drewN | apply below_drew1 | refine below_set ?_ GE205.out) | exact HB.out))) : w.heap.size ≤ gb207)); have n5_ := Aside0.mk ((by rw [hg]; exact (below_size (by repeat (first | (with_reducible first | exact HB.out | apply below_alloc | apply pw_below_drewN | apply below_drew1 | refine below_set ?_ GE205.out) | exact HB.out))) : w.heap.size ≤ gb207)); have n6_ := Aside0.mk ((by rw [hg]; exact Nat.ne_of_lt (blk_lt (g := gb205) (o := .cells #[.slice A0_0 l0_0.length c0_0, .slice (some ad206) l0_1.length c0_1, .slice A0_2 l0_2.length c0_2] 53 (0, 0)) (by (with_reducible repeat (first | refine blk_drewN ?_ _ | refine blk_drew ?_ | refine blk_alloc ?_ _)); exact BK205.out)) : gb205 ≠ gb207)); have n7_ := Aside0.mk ((by rw [hg]; exact Nat.ne_of_gt (blk_lt (g := gb205) (o := .cells #[.slice A0_0 l0_0.length c0_0, .slice (some ad206) l0_1.length c0_1, .slice A0_2 l0_2.length c0_2] 53 (0, 0)) (by (with_reducible repeat (first | refine blk_drewN ?_ _ | refine blk_drew ?_ | refine blk_alloc ?_ _)); exact BK205.out)) : gb207 ≠ gb205)); clear HO_5; clear BK205; clear HB; have HO_5 := n0_; have BK205 := n1_; have HB := n2_; have BK207 := n3_; have GW207 := n4_; have GE207 := n5_; have NB205_207 := n6_; have NB207_205 := n7_; clear n0_ n1_ n2_ n3_ n4_ n5_ n6_ n7_; clear hb hbox hg; have hnb15 := NB207_205.out; have hnc15 := NB205_207.out; have hcz16_0 : w14.cell? ⟨gb207, 0, none⟩ = some (.int .i64 0) := (blk_cell BK207.out 0).trans rfl; have hcz16_1 : w14.cell? ⟨gb207, 1, none⟩ = some (.int .i64 0) := (blk_cell BK207.out 1).trans rfl; have hcz16_2 : w14.cell? ⟨gb207, 2, none⟩ = some (.int .i64 0) := (blk_cell BK207.out 2).trans rfl; have hcz16_3 : w14.cell? ⟨gb207, 3, none⟩ = some (.int .i64 0) := (blk_cell BK207.out 3).trans rfl; have hfz16_0 := blk_frozen BK207.out 0; have hfz16_1 := blk_frozen BK207.out 1; have hfz16_2 := blk_frozen BK207.out 2; have hfz16_3 := blk_frozen BK207.out 3))
       go_roundg k1
       case measure => have := HK1.out; omega
       case rel => exact ⟨(x5_1), (wrap64 (x11_1 + 1)), (by first | rfl | (simp; done) | (simp [*]; done)), H', ⟨by have := HK1.out; omega⟩, ⟨by (with_reducible repeat (first | apply Kd.R_alloc | apply Kd.R_drewN | apply Kd.R_drew)); exact Kd.R_mono (Kd.R_far (p := ⟨gb207, 3, none⟩) (Kd.R_far (p := ⟨gb207, 2, none⟩) (Kd.R_far (p := ⟨gb207, 1, none⟩) (Kd.R_far (p := ⟨gb207, 0, none⟩) (Kd.R_types HO_5.out BK207.out (by decide)) (fun _ hk => hk.2) (.int .i64 ((rd_T55 l0_1 x11_1).f0))) (fun _ hk => hk.2) (.int .i64 ((rd_T55 l0_1 x11_1).f1))) (fun _ hk => hk.2) (.int .i64 ((rd_T55 l0_1 x11_1).f2))) (fun _ hk => hk.2) (.int .i64 ((rd_T55 l0_1 x11_1).f3))) (fun _ hk => trivial)⟩, ⟨by (with_reducible repeat (first | refine blk_drewN ?_ _ | refine blk_drew ?_ | refine blk_alloc ?_ _)); refine blk_far ?_ NB205_207.out _; (with_reducible repeat (first | refine blk_drewN ?_ _ | refine blk_drew ?_ | refine blk_alloc ?_ _)); refine blk_far ?_ NB205_207.out _; (with_reducible repeat (first | refine blk_drewN ?_ _ | refine blk_drew ?_ | refine blk_alloc ?_ _)); refine blk_far ?_ NB205_207.out _; (with_reducible repeat (first | refine blk_drewN ?_ _ | refine blk_drew ?_ | refine blk_alloc ?_ _)); refine blk_far ?_ NB205_207.out _; (with_reducible repeat (first | refine blk_drewN ?_ _ | refine blk_drew ?_ | refine blk_alloc ?_ _)); exact BK205.out⟩, ⟨by repeat (first | (with_reducible first | exact HB.out | apply below_alloc | apply pw_below_drewN | apply below_drew1 | refine below_set ?_ GE205.out | refine below_set ?_ GE207.out) | exact HB.out)⟩⟩
     ·
      rw [if_neg c7] at H
      exact absurd H (by simp)
    ·
     rw [if_neg c6] at H
     exact absurd H (by simp)
   ·
    rw [if_neg c5] at H
    have c5b0 : decide (x11_1 < (l0_1.length : Int)) = false := decide_eq_false c5
    clear c5
    obtain rfl := Option.some.inj H
    go_wp2
    go_ret
    exact ⟨_, by first | rfl | (simp [errW_none, errW_some] <;> rfl) | (simp [*, errW_none, errW_some] <;> rfl), by (with_reducible repeat (first | apply Kd.R_alloc | apply Kd.R_drewN | apply Kd.R_drew)); exact HO_5.out, by repeat (first | (with_reducible first | exact HB.out | apply below_alloc | apply pw_below_drewN | apply below_drew1 | refine below_set ?_ GE205.out) | exact HB.out)⟩

end Go.Proofs.Ythjejgaekoopnaa.PNetChecks
