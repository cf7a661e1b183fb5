/- The law CostChecks, walked: whatever the curve and the time, the call returns true and leaves memory as it was. -/
import Derived.Test.YthjejgaekoopnaaCostChecksCostB
namespace Go.Proofs.Ythjejgaekoopnaa.PCostChecks
open Go.RowKit Go.Proofs.YthjejgaekoopnaaW.PrintWords Go.Proofs.YthjejgaekoopnaaW.PrintLast Go.Proofs.YthjejgaekoopnaaW.PrintMore Go.Proofs.Ythjejgaekoopnaa.Evs
attribute [local go_sem] max2_int min2_int max_two min_two max_three min_three max_four min_four
set_option linter.unusedVariables false
set_option linter.unusedSimpArgs false

section
variable {A : Option Addr} {c : Nat} {l : List S42} {w : World} (hr : Kd.C k42 w A l.length l) (hc : l.length ≤ c)
include hr hc
theorem CurveFault_sem : ∀ W, Below w.heap.size w W → Calls Try.prog 23 #[.slice A l.length c] W fun e W' => e = .returned (.int .i64 (chk l)) ∧ Below W.heap.size W W' :=
  fun W hb => by obtain ⟨k, hk⟩ := (fault_ev l).rounds; exact terrref4_CurveFault.calls k A c l _ W (Kd.C_below hr hb) hc hk
theorem Check_sem : ∀ W, Below w.heap.size w W → Calls Try.prog 26 #[.slice A l.length c] W fun e W' => e = .returned (.int .i64 (chk l)) ∧ Below W.heap.size W W' :=
  fun W hb => by obtain ⟨k, hk⟩ := (check_ev l).rounds; exact cost_Check.calls k A c l _ W (Kd.C_below hr hb) hc hk
theorem At_sem (t : Int) : ∀ W, Below w.heap.size w W → Calls Try.prog 21 #[.slice A l.length c, .int .i64 t] W fun e W' => e = .returned (.tuple #[.int .i64 (AtOf l t).1, .int .i64 (AtOf l t).2]) ∧ Below W.heap.size W W' :=
  fun W hb => by obtain ⟨k, hk⟩ := (At_ev l t).rounds; exact cost_At.calls k A c l t _ _ W (Kd.C_below hr hb) hc hk
theorem Arrive_sem (t : Int) : ∀ W, Below w.heap.size w W → Calls Try.prog 17 #[.slice A l.length c, .int .i64 t] W fun e W' => e = .returned (.tuple #[.int .i64 (ArriveOf l t).1, .int .i64 (ArriveOf l t).2]) ∧ Below W.heap.size W W' :=
  fun W hb => by obtain ⟨k, hk⟩ := (Arrive_ev l t).rounds; exact cost_Arrive.calls k A c l t _ _ W (Kd.C_below hr hb) hc hk
theorem Range_sem : ∀ W, Below w.heap.size w W → Calls Try.prog 18 #[.slice A l.length c] W fun e W' => e = .returned (.tuple #[.int .i64 (RangeOf l).1, .int .i64 (RangeOf l).2.1, .int .i64 (RangeOf l).2.2]) ∧ Below W.heap.size W W' :=
  fun W hb => by obtain ⟨k, hk⟩ := (Range_ev l).rounds; exact cost_Range.calls k A c l _ _ _ W (Kd.C_below hr hb) hc hk
theorem CostAt_sem (t : Int) (h : Valid l) : ∀ W, Below w.heap.size w W → Calls Try.prog 28 #[.slice A l.length c, .int .i64 t] W fun e W' => e = .returned (.int .i64 (atC l t)) ∧ Below W.heap.size W W' :=
  fun W hb => by obtain ⟨k, hk⟩ := (refAt_ev (t := t) h).rounds; exact terrref4_CostAt.calls k A c l t _ W (Kd.C_below hr hb) hc hk
end
theorem costed_sem {w : World} : ∀ W, Below w.heap.size w W → Calls Try.prog 25 #[] W fun e W' => e = .returned (.bool true) ∧ Below W.heap.size W W' :=
  fun W hb => by
    have h : Ev (fun k => terrlaw4_costed.f k) true := by
      unfold terrlaw4_costed.f
      exact Ev.bind (Arrive_ev _ 5) (same (ifp (by decide) (Ev.now _)) (by decide))
    obtain ⟨k, hk⟩ := h.rounds
    exact terrlaw4_costed.calls k _ W hk
theorem Const_sem {w : World} (t : Int) : ∀ W, Below w.heap.size w W → Calls Try.prog 24 #[.int .i64 t] W fun e W' => ∃ v0_ : Value, e = .returned (.tuple #[v0_, .int .i64 (ConstOf t).2]) ∧ Kd.R k42 42 W' w.heap.size (fun _ => True) v0_ (ConstOf t).1 ∧ Below W.heap.size W W' :=
  fun W hb => (cost_Const.calls t _ _ W (Const_eq t)).mono fun e W' ⟨v, he, h, k⟩ => ⟨v, he, Kd.R_lower h hb.size, k⟩

theorem C_lit1 (W : World) (t : Int) : Kd.C k42 (W.alloc (.cells #[.int .i64 0, .int .i64 t] 42)) (some ⟨W.heap.size, 0, none⟩) 1 [⟨0, t⟩] := by
  refine ⟨rfl, by decide, fun _ => ⟨_, rfl, fun j p hj => ?_⟩⟩
  have hj0 : j = 0 := by
    have := (List.getElem?_eq_some_iff.1 hj).1
    simp at this
    exact this
  subst hj0
  simp at hj
  subst hj
  refine ⟨[.int .i64 0, .int .i64 t], rfl, k42_mk _ (⟨0, t⟩ : S42), fun i u hi => ?_⟩
  rw [Nat.zero_mul, Nat.zero_add, add_plain, blk_cell (heap_alloc_new W _)]
  simpa using hi
theorem Equal_sem {w : World} (t : Int) : ∀ W, Below w.heap.size w W → ∀ (A0 A1 : Option Addr) (c0 c1 : Nat), Kd.C k42 W A0 1 [⟨0, t⟩] → 1 ≤ c0 → Kd.C k42 W A1 1 [⟨0, t⟩] → 1 ≤ c1 →
    Calls Try.prog 27 #[.slice A0 1 c0, .slice A1 1 c1] W fun e W' => e = .returned (.bool true) ∧ Below W.heap.size W W' := fun W hb A0 A1 c0 c1 h0 hc0 h1 hc1 => by
  obtain ⟨k, hk⟩ := (equal_ev [(⟨0, t⟩ : S42)] (by simp)).rounds
  exact (cost_Step.calls k A0 c0 [⟨0, t⟩] A1 c1 [⟨0, t⟩] true W h0 hc0 h1 hc1 hk).mono fun e W' ⟨he, n, hn⟩ => ⟨he, by rw [hn]; exact pw_below_drewN (Below.refl _ _) n⟩
set_option maxHeartbeats 4000000 in
set_option maxRecDepth 100000 in
theorem law_bad0 {A : Option Addr} {c : Nat} {l : List S42} {w : World} (hr : Kd.C k42 w A l.length l) (hc : l.length ≤ c) (t : Int) (hE : chk l ≠ 0) (ht : t < 0) :
    Calls Try.prog 6 #[.slice A l.length c, .int .i64 t] w fun e w' => e = .returned (.bool true) ∧ Below w.heap.size w w' := by
  have hu42 := Try.underlying42
  have HR := Aside0.mk hr
  have hAt : AtOf l t = (0, chk l) := by unfold AtOf; rw [if_neg hE]
  have hAr : ArriveOf l t = (0, chk l) := by unfold ArriveOf; rw [hAt]; exact if_neg hE
  have hRa : RangeOf l = (0, 0, chk l) := by cases l <;> simp only [RangeOf]; exact if_neg hE
  have hC : ConstOf t = ([], 1) := by unfold ConstOf; rw [if_pos (by omega)]
  have D23 := CurveFault_sem hr hc
  have D26 := Check_sem hr hc
  have D21 := At_sem hr hc t
  have D17 := Arrive_sem hr hc t
  have D18 := Range_sem hr hc
  have D24 := Const_sem (w := w) t
  have D25 := costed_sem (w := w)

  rw [hAt] at D21; rw [hAr] at D17; rw [hRa] at D18; rw [hC] at D24
  generalize chk l = E at *
  have C23 := Aside0.mk D23; have C26 := Aside0.mk D26; have C21 := Aside0.mk D21; have C17 := Aside0.mk D17; have C18 := Aside0.mk D18; have C25 := Aside0.mk D25; have C24 := Aside0.mk D24
  clear D23 D26 D21 D17 D18 D25 D24 hAt hAr hRa hC hr hc
  have HB := Aside0.mk (Below.refl w.heap.size w)
  have e0 : (E == 0) = false := beq_eq_false_iff_ne.mpr hE
  have e1 : (E != 0) = true := bne_iff_ne.mpr hE
  clear hE
  have f1 : decide (0 ≤ t) = false := by simpa using ht
  clear ht
  go_enter Try.func6, Try.ntmps6
  go_wp2_with (first
    | (go_at_call 23; (with_reducible refine (C23.out _ ?side).mono ?_); (case side => repeat (first | exact HB.out | apply below_alloc | apply pw_below_drewN | apply below_drew1 | refine below_set ?_ (by omega))); rintro e w1 ⟨rfl, hb⟩; have n0_ := Aside0.mk (below_step (by repeat (first | exact HB.out | apply below_alloc | apply pw_below_drewN | apply below_drew1 | refine below_set ?_ (by omega))) hb); clear HB; have HB := n0_; clear n0_; clear hb)
    | (go_at_call 21; (with_reducible refine (C21.out _ ?side).mono ?_); (case side => repeat (first | exact HB.out | apply below_alloc | apply pw_below_drewN | apply below_drew1 | refine below_set ?_ (by omega))); rintro e w1 ⟨rfl, hb⟩; have n0_ := Aside0.mk (below_step (by repeat (first | exact HB.out | apply below_alloc | apply pw_below_drewN | apply below_drew1 | refine below_set ?_ (by omega))) hb); clear HB; have HB := n0_; clear n0_; clear hb)
    | (go_at_call 17; (with_reducible refine (C17.out _ ?side).mono ?_); (case side => repeat (first | exact HB.out | apply below_alloc | apply pw_below_drewN | apply below_drew1 | refine below_set ?_ (by omega))); rintro e w1 ⟨rfl, hb⟩; have n0_ := Aside0.mk (below_step (by repeat (first | exact HB.out | apply below_alloc | apply pw_below_drewN | apply below_drew1 | refine below_set ?_ (by omega))) hb); clear HB; have HB := n0_; clear n0_; clear hb)
    | (go_at_call 18; (with_reducible refine (C18.out _ ?side).mono ?_); (case side => repeat (first | exact HB.out | apply below_alloc | apply pw_below_drewN | apply below_drew1 | refine below_set ?_ (by omega))); rintro e w1 ⟨rfl, hb⟩; have n0_ := Aside0.mk (below_step (by repeat (first | exact HB.out | apply below_alloc | apply pw_below_drewN | apply below_drew1 | refine below_set ?_ (by omega))) hb); clear HB; have HB := n0_; clear n0_; clear hb)
    | (go_at_call 24; (with_reducible refine (C24.out _ ?side).mono ?_); (case side => repeat (first | exact HB.out | apply below_alloc | apply pw_below_drewN | apply below_drew1 | refine below_set ?_ (by omega))); rintro e w1 ⟨v0, rfl, h0, hb⟩; have n0_ := Aside0.mk (below_step (by repeat (first | exact HB.out | apply below_alloc | apply pw_below_drewN | apply below_drew1 | refine below_set ?_ (by omega))) hb); clear HB; have HB := n0_; clear n0_; clear hb; obtain ⟨A0, c0, rfl⟩ := Kd.R_slice h0; clear h0)
    | (go_at_call 25; (with_reducible refine (C25.out _ ?side).mono ?_); (case side => repeat (first | exact HB.out | apply below_alloc | apply pw_below_drewN | apply below_drew1 | refine below_set ?_ (by omega))); rintro e w1 ⟨rfl, hb⟩; have n0_ := Aside0.mk (below_step (by repeat (first | exact HB.out | apply below_alloc | apply pw_below_drewN | apply below_drew1 | refine below_set ?_ (by omega))) hb); clear HB; have HB := n0_; clear n0_; clear hb)
    | (go_at_call 26; (with_reducible refine (C26.out _ ?side).mono ?_); (case side => repeat (first | exact HB.out | apply below_alloc | apply pw_below_drewN | apply below_drew1 | refine below_set ?_ (by omega))); rintro e w1 ⟨rfl, hb⟩; have n0_ := Aside0.mk (below_step (by repeat (first | exact HB.out | apply below_alloc | apply pw_below_drewN | apply below_drew1 | refine below_set ?_ (by omega))) hb); clear HB; have HB := n0_; clear n0_; clear hb))
  go_ret
  exact ⟨rfl, by repeat (first | exact HB.out | apply below_alloc | apply pw_below_drewN | apply below_drew1 | refine below_set ?_ (by omega))⟩
set_option maxHeartbeats 4000000 in
set_option maxRecDepth 100000 in
theorem law_bad1 {A : Option Addr} {c : Nat} {l : List S42} {w : World} (hr : Kd.C k42 w A l.length l) (hc : l.length ≤ c) (t : Int) (hE : chk l ≠ 0) (ht : 1073741824 < t) :
    Calls Try.prog 6 #[.slice A l.length c, .int .i64 t] w fun e w' => e = .returned (.bool true) ∧ Below w.heap.size w w' := by
  have hu42 := Try.underlying42
  have HR := Aside0.mk hr
  have hAt : AtOf l t = (0, chk l) := by unfold AtOf; rw [if_neg hE]
  have hAr : ArriveOf l t = (0, chk l) := by unfold ArriveOf; rw [hAt]; exact if_neg hE
  have hRa : RangeOf l = (0, 0, chk l) := by cases l <;> simp only [RangeOf]; exact if_neg hE
  have hC : ConstOf t = ([], 1) := by unfold ConstOf; rw [if_pos (by omega)]
  have D23 := CurveFault_sem hr hc
  have D26 := Check_sem hr hc
  have D21 := At_sem hr hc t
  have D17 := Arrive_sem hr hc t
  have D18 := Range_sem hr hc
  have D24 := Const_sem (w := w) t
  have D25 := costed_sem (w := w)

  rw [hAt] at D21; rw [hAr] at D17; rw [hRa] at D18; rw [hC] at D24
  generalize chk l = E at *
  have C23 := Aside0.mk D23; have C26 := Aside0.mk D26; have C21 := Aside0.mk D21; have C17 := Aside0.mk D17; have C18 := Aside0.mk D18; have C25 := Aside0.mk D25; have C24 := Aside0.mk D24
  clear D23 D26 D21 D17 D18 D25 D24 hAt hAr hRa hC hr hc
  have HB := Aside0.mk (Below.refl w.heap.size w)
  have e0 : (E == 0) = false := beq_eq_false_iff_ne.mpr hE
  have e1 : (E != 0) = true := bne_iff_ne.mpr hE
  clear hE
  have f1 : decide (0 ≤ t) = true := by simp; omega
  have f2 : decide (t ≤ 1073741824) = false := by simpa using ht
  clear ht
  go_enter Try.func6, Try.ntmps6
  go_wp2_with (first
    | (go_at_call 23; (with_reducible refine (C23.out _ ?side).mono ?_); (case side => repeat (first | exact HB.out | apply below_alloc | apply pw_below_drewN | apply below_drew1 | refine below_set ?_ (by omega))); rintro e w1 ⟨rfl, hb⟩; have n0_ := Aside0.mk (below_step (by repeat (first | exact HB.out | apply below_alloc | apply pw_below_drewN | apply below_drew1 | refine below_set ?_ (by omega))) hb); clear HB; have HB := n0_; clear n0_; clear hb)
    | (go_at_call 21; (with_reducible refine (C21.out _ ?side).mono ?_); (case side => repeat (first | exact HB.out | apply below_alloc | apply pw_below_drewN | apply below_drew1 | refine below_set ?_ (by omega))); rintro e w1 ⟨rfl, hb⟩; have n0_ := Aside0.mk (below_step (by repeat (first | exact HB.out | apply below_alloc | apply pw_below_drewN | apply below_drew1 | refine below_set ?_ (by omega))) hb); clear HB; have HB := n0_; clear n0_; clear hb)
    | (go_at_call 17; (with_reducible refine (C17.out _ ?side).mono ?_); (case side => repeat (first | exact HB.out | apply below_alloc | apply pw_below_drewN | apply below_drew1 | refine below_set ?_ (by omega))); rintro e w1 ⟨rfl, hb⟩; have n0_ := Aside0.mk (below_step (by repeat (first | exact HB.out | apply below_alloc | apply pw_below_drewN | apply below_drew1 | refine below_set ?_ (by omega))) hb); clear HB; have HB := n0_; clear n0_; clear hb)
    | (go_at_call 18; (with_reducible refine (C18.out _ ?side).mono ?_); (case side => repeat (first | exact HB.out | apply below_alloc | apply pw_below_drewN | apply below_drew1 | refine below_set ?_ (by omega))); rintro e w1 ⟨rfl, hb⟩; have n0_ := Aside0.mk (below_step (by repeat (first | exact HB.out | apply below_alloc | apply pw_below_drewN | apply below_drew1 | refine below_set ?_ (by omega))) hb); clear HB; have HB := n0_; clear n0_; clear hb)
    | (go_at_call 24; (with_reducible refine (C24.out _ ?side).mono ?_); (case side => repeat (first | exact HB.out | apply below_alloc | apply pw_below_drewN | apply below_drew1 | refine below_set ?_ (by omega))); rintro e w1 ⟨v0, rfl, h0, hb⟩; have n0_ := Aside0.mk (below_step (by repeat (first | exact HB.out | apply below_alloc | apply pw_below_drewN | apply below_drew1 | refine below_set ?_ (by omega))) hb); clear HB; have HB := n0_; clear n0_; clear hb; obtain ⟨A0, c0, rfl⟩ := Kd.R_slice h0; clear h0)
    | (go_at_call 25; (with_reducible refine (C25.out _ ?side).mono ?_); (case side => repeat (first | exact HB.out | apply below_alloc | apply pw_below_drewN | apply below_drew1 | refine below_set ?_ (by omega))); rintro e w1 ⟨rfl, hb⟩; have n0_ := Aside0.mk (below_step (by repeat (first | exact HB.out | apply below_alloc | apply pw_below_drewN | apply below_drew1 | refine below_set ?_ (by omega))) hb); clear HB; have HB := n0_; clear n0_; clear hb)
    | (go_at_call 26; (with_reducible refine (C26.out _ ?side).mono ?_); (case side => repeat (first | exact HB.out | apply below_alloc | apply pw_below_drewN | apply below_drew1 | refine below_set ?_ (by omega))); rintro e w1 ⟨rfl, hb⟩; have n0_ := Aside0.mk (below_step (by repeat (first | exact HB.out | apply below_alloc | apply pw_below_drewN | apply below_drew1 | refine below_set ?_ (by omega))) hb); clear HB; have HB := n0_; clear n0_; clear hb))
  go_ret
  exact ⟨rfl, by repeat (first | exact HB.out | apply below_alloc | apply pw_below_drewN | apply below_drew1 | refine below_set ?_ (by omega))⟩
set_option maxHeartbeats 4000000 in
set_option maxRecDepth 100000 in
theorem law_bad2 {A : Option Addr} {c : Nat} {l : List S42} {w : World} (hr : Kd.C k42 w A l.length l) (hc : l.length ≤ c) (t : Int) (hE : chk l ≠ 0) (ht : 0 ≤ t ∧ t ≤ 1073741824) :
    Calls Try.prog 6 #[.slice A l.length c, .int .i64 t] w fun e w' => e = .returned (.bool true) ∧ Below w.heap.size w w' := by
  have hu42 := Try.underlying42
  have HR := Aside0.mk hr
  have hAt : AtOf l t = (0, chk l) := by unfold AtOf; rw [if_neg hE]
  have hAr : ArriveOf l t = (0, chk l) := by unfold ArriveOf; rw [hAt]; exact if_neg hE
  have hRa : RangeOf l = (0, 0, chk l) := by cases l <;> simp only [RangeOf]; exact if_neg hE
  have hC : ConstOf t = ([⟨0, t⟩], 0) := by unfold ConstOf; rw [if_neg (by omega)]
  have D23 := CurveFault_sem hr hc
  have D26 := Check_sem hr hc
  have D21 := At_sem hr hc t
  have D17 := Arrive_sem hr hc t
  have D18 := Range_sem hr hc
  have D24 := Const_sem (w := w) t
  have D25 := costed_sem (w := w)
  have C27 := Aside0.mk (Equal_sem (w := w) t)
  rw [hAt] at D21; rw [hAr] at D17; rw [hRa] at D18; rw [hC] at D24
  generalize chk l = E at *
  have C23 := Aside0.mk D23; have C26 := Aside0.mk D26; have C21 := Aside0.mk D21; have C17 := Aside0.mk D17; have C18 := Aside0.mk D18; have C25 := Aside0.mk D25; have C24 := Aside0.mk D24
  clear D23 D26 D21 D17 D18 D25 D24 hAt hAr hRa hC hr hc
  have HB := Aside0.mk (Below.refl w.heap.size w)
  have e0 : (E == 0) = false := beq_eq_false_iff_ne.mpr hE
  have e1 : (E != 0) = true := bne_iff_ne.mpr hE
  clear hE
  have f1 : decide (0 ≤ t) = true := by simp; omega
  have f2 : decide (t ≤ 1073741824) = true := by simp; omega
  clear ht
  go_enter Try.func6, Try.ntmps6
  go_wp2_with (first
    | (go_at_call 23; (with_reducible refine (C23.out _ ?side).mono ?_); (case side => repeat (first | exact HB.out | apply below_alloc | apply pw_below_drewN | apply below_drew1 | refine below_set ?_ (by omega))); rintro e w1 ⟨rfl, hb⟩; have n0_ := Aside0.mk (below_step (by repeat (first | exact HB.out | apply below_alloc | apply pw_below_drewN | apply below_drew1 | refine below_set ?_ (by omega))) hb); clear HB; have HB := n0_; clear n0_; clear hb)
    | (go_at_call 21; (with_reducible refine (C21.out _ ?side).mono ?_); (case side => repeat (first | exact HB.out | apply below_alloc | apply pw_below_drewN | apply below_drew1 | refine below_set ?_ (by omega))); rintro e w1 ⟨rfl, hb⟩; have n0_ := Aside0.mk (below_step (by repeat (first | exact HB.out | apply below_alloc | apply pw_below_drewN | apply below_drew1 | refine below_set ?_ (by omega))) hb); clear HB; have HB := n0_; clear n0_; clear hb)
    | (go_at_call 17; (with_reducible refine (C17.out _ ?side).mono ?_); (case side => repeat (first | exact HB.out | apply below_alloc | apply pw_below_drewN | apply below_drew1 | refine below_set ?_ (by omega))); rintro e w1 ⟨rfl, hb⟩; have n0_ := Aside0.mk (below_step (by repeat (first | exact HB.out | apply below_alloc | apply pw_below_drewN | apply below_drew1 | refine below_set ?_ (by omega))) hb); clear HB; have HB := n0_; clear n0_; clear hb)
    | (go_at_call 18; (with_reducible refine (C18.out _ ?side).mono ?_); (case side => repeat (first | exact HB.out | apply below_alloc | apply pw_below_drewN | apply below_drew1 | refine below_set ?_ (by omega))); rintro e w1 ⟨rfl, hb⟩; have n0_ := Aside0.mk (below_step (by repeat (first | exact HB.out | apply below_alloc | apply pw_below_drewN | apply below_drew1 | refine below_set ?_ (by omega))) hb); clear HB; have HB := n0_; clear n0_; clear hb)
    | (go_at_call 24; (with_reducible refine (C24.out _ ?side).mono ?_); (case side => repeat (first | exact HB.out | apply below_alloc | apply pw_below_drewN | apply below_drew1 | refine below_set ?_ (by omega))); rintro e w1 ⟨v0, rfl, h0, hb⟩; have n0_ := Aside0.mk (below_step (by repeat (first | exact HB.out | apply below_alloc | apply pw_below_drewN | apply below_drew1 | refine below_set ?_ (by omega))) hb); clear HB; have HB := n0_; clear n0_; have HO := Aside0.mk h0; clear hb h0; obtain ⟨A0, c0, rfl⟩ := Kd.R_slice HO.out)
    | (go_at_call 25; (with_reducible refine (C25.out _ ?side).mono ?_); (case side => repeat (first | exact HB.out | apply below_alloc | apply pw_below_drewN | apply below_drew1 | refine below_set ?_ (by omega))); rintro e w1 ⟨rfl, hb⟩; have n0_ := Aside0.mk (below_step (by repeat (first | exact HB.out | apply below_alloc | apply pw_below_drewN | apply below_drew1 | refine below_set ?_ (by omega))) hb); have m0_ := Aside0.mk (Kd.R_below (by (with_reducible repeat (first | apply Kd.R_alloc | apply Kd.R_drewN | apply Kd.R_drew)); exact HO.out) hb); clear HB; have HB := n0_; clear n0_; clear HO; have HO := m0_; clear m0_; clear hb)
    | (go_at_call 26; (with_reducible refine (C26.out _ ?side).mono ?_); (case side => repeat (first | exact HB.out | apply below_alloc | apply pw_below_drewN | apply below_drew1 | refine below_set ?_ (by omega))); rintro e w1 ⟨rfl, hb⟩; have n0_ := Aside0.mk (below_step (by repeat (first | exact HB.out | apply below_alloc | apply pw_below_drewN | apply below_drew1 | refine below_set ?_ (by omega))) hb); have m0_ := Aside0.mk (Kd.R_below (by (with_reducible repeat (first | apply Kd.R_alloc | apply Kd.R_drewN | apply Kd.R_drew)); exact HO.out) hb); clear HB; have HB := n0_; clear n0_; clear HO; have HO := m0_; clear m0_; clear hb)
    | (go_at_call 27; (with_reducible refine (C27.out _ ?side _ _ _ _ ?s1 ?s2 ?s3 ?s4).mono ?_); (case side => repeat (first | exact HB.out | apply below_alloc | apply pw_below_drewN | apply below_drew1 | refine below_set ?_ (by omega))); (case s1 => repeat (first | exact (Kd.R_reads' HO.out).2.2 | (with_reducible refine Kd.C_alloc ?_ _) | (with_reducible refine Kd.C_drewN ?_ _) | (with_reducible refine Kd.C_drew ?_))); (case s2 => exact (Kd.R_reads' HO.out).2.1); (case s3 => exact C_lit1 _ _); (case s4 => exact Nat.le_refl _); rintro e w1 ⟨rfl, hb⟩; have n0_ := Aside0.mk (below_step (by repeat (first | exact HB.out | apply below_alloc | apply pw_below_drewN | apply below_drew1 | refine below_set ?_ (by omega))) hb); clear HB; have HB := n0_; clear n0_; clear hb))
  go_ret
  exact ⟨rfl, by repeat (first | exact HB.out | apply below_alloc | apply pw_below_drewN | apply below_drew1 | refine below_set ?_ (by omega))⟩
set_option maxHeartbeats 4000000 in
set_option maxRecDepth 100000 in
theorem law_good0 {A : Option Addr} {c : Nat} {l : List S42} {w : World} (hr : Kd.C k42 w A l.length l) (hc : l.length ≤ c) (t : Int) (hE : Valid l) (ht : t < 0) :
    Calls Try.prog 6 #[.slice A l.length c, .int .i64 t] w fun e w' => e = .returned (.bool true) ∧ Below w.heap.size w w' := by
  have hu42 := Try.underlying42
  have HR := Aside0.mk hr
  have hz := (chk_zero l).2 hE
  have hAt : AtOf l t = (0, 1) := by unfold AtOf; rw [if_pos hz, if_pos (by omega)]
  have hAr : ArriveOf l t = (0, 1) := by unfold ArriveOf; rw [hAt]; rfl
  have hRa : RangeOf l = ((rng (rd_T42 l 0).f1 (rd_T42 l 0).f1 l).1, (rng (rd_T42 l 0).f1 (rd_T42 l 0).f1 l).2, 0) := by cases l with | nil => exact hE.elim | cons a r => simp only [RangeOf]; exact if_pos hz
  have hC : ConstOf t = ([], 1) := by unfold ConstOf; rw [if_pos (by omega)]
  have D23 := CurveFault_sem hr hc
  have D26 := Check_sem hr hc
  have D21 := At_sem hr hc t
  have D17 := Arrive_sem hr hc t
  have D18 := Range_sem hr hc
  have D24 := Const_sem (w := w) t
  have D25 := costed_sem (w := w)
  have C28 := Aside0.mk (CostAt_sem hr hc t hE)
  rw [hAt] at D21; rw [hAr] at D17; rw [hRa] at D18; rw [hC] at D24
  rw [hz] at D23 D26
  clear hz
  have C23 := Aside0.mk D23; have C26 := Aside0.mk D26; have C21 := Aside0.mk D21; have C17 := Aside0.mk D17; have C18 := Aside0.mk D18; have C25 := Aside0.mk D25; have C24 := Aside0.mk D24
  clear D23 D26 D21 D17 D18 D25 D24 hAt hAr hRa hC hr hc
  have HB := Aside0.mk (Below.refl w.heap.size w)
  have f1 : decide (0 ≤ t) = false := by simpa using ht
  clear ht
  go_enter Try.func6, Try.ntmps6
  go_wp2_with (first
    | (go_at_call 23; (with_reducible refine (C23.out _ ?side).mono ?_); (case side => repeat (first | exact HB.out | apply below_alloc | apply pw_below_drewN | apply below_drew1 | refine below_set ?_ (by omega))); rintro e w1 ⟨rfl, hb⟩; have n0_ := Aside0.mk (below_step (by repeat (first | exact HB.out | apply below_alloc | apply pw_below_drewN | apply below_drew1 | refine below_set ?_ (by omega))) hb); clear HB; have HB := n0_; clear n0_; clear hb)
    | (go_at_call 21; (with_reducible refine (C21.out _ ?side).mono ?_); (case side => repeat (first | exact HB.out | apply below_alloc | apply pw_below_drewN | apply below_drew1 | refine below_set ?_ (by omega))); rintro e w1 ⟨rfl, hb⟩; have n0_ := Aside0.mk (below_step (by repeat (first | exact HB.out | apply below_alloc | apply pw_below_drewN | apply below_drew1 | refine below_set ?_ (by omega))) hb); clear HB; have HB := n0_; clear n0_; clear hb)
    | (go_at_call 17; (with_reducible refine (C17.out _ ?side).mono ?_); (case side => repeat (first | exact HB.out | apply below_alloc | apply pw_below_drewN | apply below_drew1 | refine below_set ?_ (by omega))); rintro e w1 ⟨rfl, hb⟩; have n0_ := Aside0.mk (below_step (by repeat (first | exact HB.out | apply below_alloc | apply pw_below_drewN | apply below_drew1 | refine below_set ?_ (by omega))) hb); clear HB; have HB := n0_; clear n0_; clear hb)
    | (go_at_call 18; (with_reducible refine (C18.out _ ?side).mono ?_); (case side => repeat (first | exact HB.out | apply below_alloc | apply pw_below_drewN | apply below_drew1 | refine below_set ?_ (by omega))); rintro e w1 ⟨rfl, hb⟩; have n0_ := Aside0.mk (below_step (by repeat (first | exact HB.out | apply below_alloc | apply pw_below_drewN | apply below_drew1 | refine below_set ?_ (by omega))) hb); clear HB; have HB := n0_; clear n0_; clear hb)
    | (go_at_call 24; (with_reducible refine (C24.out _ ?side).mono ?_); (case side => repeat (first | exact HB.out | apply below_alloc | apply pw_below_drewN | apply below_drew1 | refine below_set ?_ (by omega))); rintro e w1 ⟨v0, rfl, h0, hb⟩; have n0_ := Aside0.mk (below_step (by repeat (first | exact HB.out | apply below_alloc | apply pw_below_drewN | apply below_drew1 | refine below_set ?_ (by omega))) hb); clear HB; have HB := n0_; clear n0_; clear hb; obtain ⟨A0, c0, rfl⟩ := Kd.R_slice h0; clear h0)
    | (go_at_call 25; (with_reducible refine (C25.out _ ?side).mono ?_); (case side => repeat (first | exact HB.out | apply below_alloc | apply pw_below_drewN | apply below_drew1 | refine below_set ?_ (by omega))); rintro e w1 ⟨rfl, hb⟩; have n0_ := Aside0.mk (below_step (by repeat (first | exact HB.out | apply below_alloc | apply pw_below_drewN | apply below_drew1 | refine below_set ?_ (by omega))) hb); clear HB; have HB := n0_; clear n0_; clear hb)
    | (go_at_call 26; (with_reducible refine (C26.out _ ?side).mono ?_); (case side => repeat (first | exact HB.out | apply below_alloc | apply pw_below_drewN | apply below_drew1 | refine below_set ?_ (by omega))); rintro e w1 ⟨rfl, hb⟩; have n0_ := Aside0.mk (below_step (by repeat (first | exact HB.out | apply below_alloc | apply pw_below_drewN | apply below_drew1 | refine below_set ?_ (by omega))) hb); clear HB; have HB := n0_; clear n0_; clear hb))
  have hl : 0 < l.length := by cases l with | nil => exact hE.elim | cons a r => simp
  have hl24 : l.length ≤ 24 := by cases l with | nil => exact hE.elim | cons a r => exact hE.1
  obtain ⟨ad, e106, hx0, hx1⟩ := at_T42 HR.out 0 (by omega) (by omega)
  cases e106
  rw [show ((0 : Int)).toNat = 0 from rfl, Nat.zero_mul, Addr.add_zero'] at hx0 hx1
  replace hx0 := (HB.out.cell (World.block_lt_of_cell? w _ hx0)).trans hx0
  replace hx1 := (HB.out.cell (World.block_lt_of_cell? w _ hx1)).trans hx1
  have LO := Aside0.mk (rfl : rng (rd_T42 l 0).f1 (rd_T42 l 0).f1 l = _)
  generalize hlo : rng (rd_T42 l 0).f1 (rd_T42 l 0).f1 l = lh at *
  obtain ⟨lo, hi⟩ := lh
  have HE := Aside0.mk hE
  have HL := Aside0.mk hlo
  clear hlo hE LO
  have f0 : (0 : Int) < (l.length : Int) := by omega
  go_quiet (fail)
  go_wp2
  go_loopg [16, 17, 111] l.length (fun kq v16 v17 v111 w' => ∃ (x y : Int) (n : Nat), v16 = .int .i64 x ∧ v17 = .int .i64 y ∧ v111 = .int .i64 (n : Int) ∧ Aside0 (rng x y (l.drop n) = (lo, hi)) ∧ Aside0 (n + kq = l.length) ∧ Aside0 (Below w.heap.size w w'))
  case atStart => exact ⟨_, _, 0, rfl, rfl, rfl, HL, ⟨by omega⟩, ⟨by repeat (first | exact HB.out | apply below_alloc | apply pw_below_drewN | apply below_drew1 | refine below_set ?_ (by omega))⟩⟩
  case round =>
    clear hx0 hx1
    obtain ⟨x, y, n, rfl, rfl, rfl, HA, HN, HB⟩ := hrel
    by_cases hlt : n < l.length
    · have hk := HN.out
      obtain ⟨k1, rfl⟩ : ∃ k1, gk = k1 + 1 := ⟨gk - 1, by omega⟩
      clear hk
      have HS := Aside0.mk (drop_head z42 hlt)
      obtain ⟨ad2, e107, hx0, hx1⟩ := at_T42 HR.out (n : Int) (by omega) (by omega)
      obtain rfl : ad = ad2 := by injection e107
      replace hx0 := (HB.out.cell (World.block_lt_of_cell? w _ hx0)).trans hx0
      replace hx1 := (HB.out.cell (World.block_lt_of_cell? w _ hx1)).trans hx1
      simp only [Int.toNat_natCast] at hx0 hx1
      have HA2 : Aside0 (rng (mn x (rd_T42 l (n : Int)).f1) (mx y (rd_T42 l (n : Int)).f1) (l.drop (n + 1)) = (lo, hi)) := ⟨by have h := HA.out; rw [HS.out] at h; simp only [rng] at h; exact h⟩
      clear HA HS
      generalize hj0 : mn x (rd_T42 l (n : Int)).f1 = j0 at HA2
      generalize hj1 : mx y (rd_T42 l (n : Int)).f1 = j1 at HA2
      have hj0_ : (if (rd_T42 l (n : Int)).f1 < x then (rd_T42 l (n : Int)).f1 else x) = j0 := hj0
      have hj1_ : (if y < (rd_T42 l (n : Int)).f1 then (rd_T42 l (n : Int)).f1 else y) = j1 := hj1
      clear hj0 hj1
      go_wp2
      go_quiet (fail)
      go_wp2
      go_roundg k1
      case measure => omega
      case rel => exact ⟨j0, j1, n + 1, (by first | rfl | (simp only [hj0_] ; done) | (simp [*]; done)), (by first | rfl | (simp only [hj1_]; done) | (simp [*]; done)), by go_num, HA2, ⟨by have := HN.out; omega⟩, ⟨by repeat (first | exact HB.out | apply below_alloc | apply pw_below_drewN | apply below_drew1 | refine below_set ?_ (by omega))⟩⟩
    · have hx := HA.out
      rw [List.drop_of_length_le (by omega)] at hx
      simp only [rng, Prod.mk.injEq] at hx
      obtain ⟨rfl, rfl⟩ := hx
      clear HA HN
      go_wp2
      repeat (go_quiet (fail); try go_wp2)
      go_ret
      exact ⟨rfl, by repeat (first | exact HB.out | apply below_alloc | apply pw_below_drewN | apply below_drew1 | refine below_set ?_ (by omega))⟩
set_option maxHeartbeats 4000000 in
set_option maxRecDepth 100000 in
theorem law_good1 {A : Option Addr} {c : Nat} {l : List S42} {w : World} (hr : Kd.C k42 w A l.length l) (hc : l.length ≤ c) (t : Int) (hE : Valid l) (ht : 1073741824 < t) :
    Calls Try.prog 6 #[.slice A l.length c, .int .i64 t] w fun e w' => e = .returned (.bool true) ∧ Below w.heap.size w w' := by
  have hu42 := Try.underlying42
  have HR := Aside0.mk hr
  have hz := (chk_zero l).2 hE
  have hAt : AtOf l t = (0, 1) := by unfold AtOf; rw [if_pos hz, if_pos (by omega)]
  have hAr : ArriveOf l t = (0, 1) := by unfold ArriveOf; rw [hAt]; rfl
  have hRa : RangeOf l = ((rng (rd_T42 l 0).f1 (rd_T42 l 0).f1 l).1, (rng (rd_T42 l 0).f1 (rd_T42 l 0).f1 l).2, 0) := by cases l with | nil => exact hE.elim | cons a r => simp only [RangeOf]; exact if_pos hz
  have hC : ConstOf t = ([], 1) := by unfold ConstOf; rw [if_pos (by omega)]
  have D23 := CurveFault_sem hr hc
  have D26 := Check_sem hr hc
  have D21 := At_sem hr hc t
  have D17 := Arrive_sem hr hc t
  have D18 := Range_sem hr hc
  have D24 := Const_sem (w := w) t
  have D25 := costed_sem (w := w)
  have C28 := Aside0.mk (CostAt_sem hr hc t hE)
  rw [hAt] at D21; rw [hAr] at D17; rw [hRa] at D18; rw [hC] at D24
  rw [hz] at D23 D26
  clear hz
  have C23 := Aside0.mk D23; have C26 := Aside0.mk D26; have C21 := Aside0.mk D21; have C17 := Aside0.mk D17; have C18 := Aside0.mk D18; have C25 := Aside0.mk D25; have C24 := Aside0.mk D24
  clear D23 D26 D21 D17 D18 D25 D24 hAt hAr hRa hC hr hc
  have HB := Aside0.mk (Below.refl w.heap.size w)
  have f1 : decide (0 ≤ t) = true := by simp; omega
  have f2 : decide (t ≤ 1073741824) = false := by simpa using ht
  clear ht
  go_enter Try.func6, Try.ntmps6
  go_wp2_with (first
    | (go_at_call 23; (with_reducible refine (C23.out _ ?side).mono ?_); (case side => repeat (first | exact HB.out | apply below_alloc | apply pw_below_drewN | apply below_drew1 | refine below_set ?_ (by omega))); rintro e w1 ⟨rfl, hb⟩; have n0_ := Aside0.mk (below_step (by repeat (first | exact HB.out | apply below_alloc | apply pw_below_drewN | apply below_drew1 | refine below_set ?_ (by omega))) hb); clear HB; have HB := n0_; clear n0_; clear hb)
    | (go_at_call 21; (with_reducible refine (C21.out _ ?side).mono ?_); (case side => repeat (first | exact HB.out | apply below_alloc | apply pw_below_drewN | apply below_drew1 | refine below_set ?_ (by omega))); rintro e w1 ⟨rfl, hb⟩; have n0_ := Aside0.mk (below_step (by repeat (first | exact HB.out | apply below_alloc | apply pw_below_drewN | apply below_drew1 | refine below_set ?_ (by omega))) hb); clear HB; have HB := n0_; clear n0_; clear hb)
    | (go_at_call 17; (with_reducible refine (C17.out _ ?side).mono ?_); (case side => repeat (first | exact HB.out | apply below_alloc | apply pw_below_drewN | apply below_drew1 | refine below_set ?_ (by omega))); rintro e w1 ⟨rfl, hb⟩; have n0_ := Aside0.mk (below_step (by repeat (first | exact HB.out | apply below_alloc | apply pw_below_drewN | apply below_drew1 | refine below_set ?_ (by omega))) hb); clear HB; have HB := n0_; clear n0_; clear hb)
    | (go_at_call 18; (with_reducible refine (C18.out _ ?side).mono ?_); (case side => repeat (first | exact HB.out | apply below_alloc | apply pw_below_drewN | apply below_drew1 | refine below_set ?_ (by omega))); rintro e w1 ⟨rfl, hb⟩; have n0_ := Aside0.mk (below_step (by repeat (first | exact HB.out | apply below_alloc | apply pw_below_drewN | apply below_drew1 | refine below_set ?_ (by omega))) hb); clear HB; have HB := n0_; clear n0_; clear hb)
    | (go_at_call 24; (with_reducible refine (C24.out _ ?side).mono ?_); (case side => repeat (first | exact HB.out | apply below_alloc | apply pw_below_drewN | apply below_drew1 | refine below_set ?_ (by omega))); rintro e w1 ⟨v0, rfl, h0, hb⟩; have n0_ := Aside0.mk (below_step (by repeat (first | exact HB.out | apply below_alloc | apply pw_below_drewN | apply below_drew1 | refine below_set ?_ (by omega))) hb); clear HB; have HB := n0_; clear n0_; clear hb; obtain ⟨A0, c0, rfl⟩ := Kd.R_slice h0; clear h0)
    | (go_at_call 25; (with_reducible refine (C25.out _ ?side).mono ?_); (case side => repeat (first | exact HB.out | apply below_alloc | apply pw_below_drewN | apply below_drew1 | refine below_set ?_ (by omega))); rintro e w1 ⟨rfl, hb⟩; have n0_ := Aside0.mk (below_step (by repeat (first | exact HB.out | apply below_alloc | apply pw_below_drewN | apply below_drew1 | refine below_set ?_ (by omega))) hb); clear HB; have HB := n0_; clear n0_; clear hb)
    | (go_at_call 26; (with_reducible refine (C26.out _ ?side).mono ?_); (case side => repeat (first | exact HB.out | apply below_alloc | apply pw_below_drewN | apply below_drew1 | refine below_set ?_ (by omega))); rintro e w1 ⟨rfl, hb⟩; have n0_ := Aside0.mk (below_step (by repeat (first | exact HB.out | apply below_alloc | apply pw_below_drewN | apply below_drew1 | refine below_set ?_ (by omega))) hb); clear HB; have HB := n0_; clear n0_; clear hb))
  have hl : 0 < l.length := by cases l with | nil => exact hE.elim | cons a r => simp
  have hl24 : l.length ≤ 24 := by cases l with | nil => exact hE.elim | cons a r => exact hE.1
  obtain ⟨ad, e106, hx0, hx1⟩ := at_T42 HR.out 0 (by omega) (by omega)
  cases e106
  rw [show ((0 : Int)).toNat = 0 from rfl, Nat.zero_mul, Addr.add_zero'] at hx0 hx1
  replace hx0 := (HB.out.cell (World.block_lt_of_cell? w _ hx0)).trans hx0
  replace hx1 := (HB.out.cell (World.block_lt_of_cell? w _ hx1)).trans hx1
  have LO := Aside0.mk (rfl : rng (rd_T42 l 0).f1 (rd_T42 l 0).f1 l = _)
  generalize hlo : rng (rd_T42 l 0).f1 (rd_T42 l 0).f1 l = lh at *
  obtain ⟨lo, hi⟩ := lh
  have HE := Aside0.mk hE
  have HL := Aside0.mk hlo
  clear hlo hE LO
  have f0 : (0 : Int) < (l.length : Int) := by omega
  go_quiet (fail)
  go_wp2
  go_loopg [16, 17, 111] l.length (fun kq v16 v17 v111 w' => ∃ (x y : Int) (n : Nat), v16 = .int .i64 x ∧ v17 = .int .i64 y ∧ v111 = .int .i64 (n : Int) ∧ Aside0 (rng x y (l.drop n) = (lo, hi)) ∧ Aside0 (n + kq = l.length) ∧ Aside0 (Below w.heap.size w w'))
  case atStart => exact ⟨_, _, 0, rfl, rfl, rfl, HL, ⟨by omega⟩, ⟨by repeat (first | exact HB.out | apply below_alloc | apply pw_below_drewN | apply below_drew1 | refine below_set ?_ (by omega))⟩⟩
  case round =>
    clear hx0 hx1
    obtain ⟨x, y, n, rfl, rfl, rfl, HA, HN, HB⟩ := hrel
    by_cases hlt : n < l.length
    · have hk := HN.out
      obtain ⟨k1, rfl⟩ : ∃ k1, gk = k1 + 1 := ⟨gk - 1, by omega⟩
      clear hk
      have HS := Aside0.mk (drop_head z42 hlt)
      obtain ⟨ad2, e107, hx0, hx1⟩ := at_T42 HR.out (n : Int) (by omega) (by omega)
      obtain rfl : ad = ad2 := by injection e107
      replace hx0 := (HB.out.cell (World.block_lt_of_cell? w _ hx0)).trans hx0
      replace hx1 := (HB.out.cell (World.block_lt_of_cell? w _ hx1)).trans hx1
      simp only [Int.toNat_natCast] at hx0 hx1
      have HA2 : Aside0 (rng (mn x (rd_T42 l (n : Int)).f1) (mx y (rd_T42 l (n : Int)).f1) (l.drop (n + 1)) = (lo, hi)) := ⟨by have h := HA.out; rw [HS.out] at h; simp only [rng] at h; exact h⟩
      clear HA HS
      generalize hj0 : mn x (rd_T42 l (n : Int)).f1 = j0 at HA2
      generalize hj1 : mx y (rd_T42 l (n : Int)).f1 = j1 at HA2
      have hj0_ : (if (rd_T42 l (n : Int)).f1 < x then (rd_T42 l (n : Int)).f1 else x) = j0 := hj0
      have hj1_ : (if y < (rd_T42 l (n : Int)).f1 then (rd_T42 l (n : Int)).f1 else y) = j1 := hj1
      clear hj0 hj1
      go_wp2
      go_quiet (fail)
      go_wp2
      go_roundg k1
      case measure => omega
      case rel => exact ⟨j0, j1, n + 1, (by first | rfl | (simp only [hj0_] ; done) | (simp [*]; done)), (by first | rfl | (simp only [hj1_]; done) | (simp [*]; done)), by go_num, HA2, ⟨by have := HN.out; omega⟩, ⟨by repeat (first | exact HB.out | apply below_alloc | apply pw_below_drewN | apply below_drew1 | refine below_set ?_ (by omega))⟩⟩
    · have hx := HA.out
      rw [List.drop_of_length_le (by omega)] at hx
      simp only [rng, Prod.mk.injEq] at hx
      obtain ⟨rfl, rfl⟩ := hx
      clear HA HN
      go_wp2
      repeat (go_quiet (fail); try go_wp2)
      go_ret
      exact ⟨rfl, by repeat (first | exact HB.out | apply below_alloc | apply pw_below_drewN | apply below_drew1 | refine below_set ?_ (by omega))⟩
set_option maxHeartbeats 4000000 in
set_option maxRecDepth 100000 in
theorem law_good2 {A : Option Addr} {c : Nat} {l : List S42} {w : World} (hr : Kd.C k42 w A l.length l) (hc : l.length ≤ c) (t : Int) (hE : Valid l) (ht : 0 ≤ t ∧ t ≤ 1073741824) :
    Calls Try.prog 6 #[.slice A l.length c, .int .i64 t] w fun e w' => e = .returned (.bool true) ∧ Below w.heap.size w w' := by
  have hu42 := Try.underlying42
  have HR := Aside0.mk hr
  have hz := (chk_zero l).2 hE
  have hAt : AtOf l t = (atC l t, 0) := AtOf_valid hE ht.1 ht.2
  have hAr : ArriveOf l t = (t + atC l t, 0) := ArriveOf_valid hE ht.1 ht.2
  have hRa : RangeOf l = ((rng (rd_T42 l 0).f1 (rd_T42 l 0).f1 l).1, (rng (rd_T42 l 0).f1 (rd_T42 l 0).f1 l).2, 0) := by cases l with | nil => exact hE.elim | cons a r => simp only [RangeOf]; exact if_pos hz
  have hC : ConstOf t = ([⟨0, t⟩], 0) := by unfold ConstOf; rw [if_neg (by omega)]
  have D23 := CurveFault_sem hr hc
  have D26 := Check_sem hr hc
  have D21 := At_sem hr hc t
  have D17 := Arrive_sem hr hc t
  have D18 := Range_sem hr hc
  have D24 := Const_sem (w := w) t
  have D25 := costed_sem (w := w)
  have C27 := Aside0.mk (Equal_sem (w := w) t)
  have C28 := Aside0.mk (CostAt_sem hr hc t hE)
  rw [hAt] at D21; rw [hAr] at D17; rw [hRa] at D18; rw [hC] at D24
  rw [hz] at D23 D26
  clear hz
  have C23 := Aside0.mk D23; have C26 := Aside0.mk D26; have C21 := Aside0.mk D21; have C17 := Aside0.mk D17; have C18 := Aside0.mk D18; have C25 := Aside0.mk D25; have C24 := Aside0.mk D24
  clear D23 D26 D21 D17 D18 D25 D24 hAt hAr hRa hC hr hc
  have HB := Aside0.mk (Below.refl w.heap.size w)
  have f1 : decide (0 ≤ t) = true := by simp; omega
  have f2 : decide (t ≤ 1073741824) = true := by simp; omega
  go_enter Try.func6, Try.ntmps6
  go_wp2_with (first
    | (go_at_call 23; (with_reducible refine (C23.out _ ?side).mono ?_); (case side => repeat (first | exact HB.out | apply below_alloc | apply pw_below_drewN | apply below_drew1 | refine below_set ?_ (by omega))); rintro e w1 ⟨rfl, hb⟩; have n0_ := Aside0.mk (below_step (by repeat (first | exact HB.out | apply below_alloc | apply pw_below_drewN | apply below_drew1 | refine below_set ?_ (by omega))) hb); clear HB; have HB := n0_; clear n0_; clear hb)
    | (go_at_call 21; (with_reducible refine (C21.out _ ?side).mono ?_); (case side => repeat (first | exact HB.out | apply below_alloc | apply pw_below_drewN | apply below_drew1 | refine below_set ?_ (by omega))); rintro e w1 ⟨rfl, hb⟩; have n0_ := Aside0.mk (below_step (by repeat (first | exact HB.out | apply below_alloc | apply pw_below_drewN | apply below_drew1 | refine below_set ?_ (by omega))) hb); clear HB; have HB := n0_; clear n0_; clear hb)
    | (go_at_call 17; (with_reducible refine (C17.out _ ?side).mono ?_); (case side => repeat (first | exact HB.out | apply below_alloc | apply pw_below_drewN | apply below_drew1 | refine below_set ?_ (by omega))); rintro e w1 ⟨rfl, hb⟩; have n0_ := Aside0.mk (below_step (by repeat (first | exact HB.out | apply below_alloc | apply pw_below_drewN | apply below_drew1 | refine below_set ?_ (by omega))) hb); clear HB; have HB := n0_; clear n0_; clear hb)
    | (go_at_call 18; (with_reducible refine (C18.out _ ?side).mono ?_); (case side => repeat (first | exact HB.out | apply below_alloc | apply pw_below_drewN | apply below_drew1 | refine below_set ?_ (by omega))); rintro e w1 ⟨rfl, hb⟩; have n0_ := Aside0.mk (below_step (by repeat (first | exact HB.out | apply below_alloc | apply pw_below_drewN | apply below_drew1 | refine below_set ?_ (by omega))) hb); clear HB; have HB := n0_; clear n0_; clear hb)
    | (go_at_call 24; (with_reducible refine (C24.out _ ?side).mono ?_); (case side => repeat (first | exact HB.out | apply below_alloc | apply pw_below_drewN | apply below_drew1 | refine below_set ?_ (by omega))); rintro e w1 ⟨v0, rfl, h0, hb⟩; have n0_ := Aside0.mk (below_step (by repeat (first | exact HB.out | apply below_alloc | apply pw_below_drewN | apply below_drew1 | refine below_set ?_ (by omega))) hb); clear HB; have HB := n0_; clear n0_; have HO := Aside0.mk h0; clear hb h0; obtain ⟨A0, c0, rfl⟩ := Kd.R_slice HO.out)
    | (go_at_call 25; (with_reducible refine (C25.out _ ?side).mono ?_); (case side => repeat (first | exact HB.out | apply below_alloc | apply pw_below_drewN | apply below_drew1 | refine below_set ?_ (by omega))); rintro e w1 ⟨rfl, hb⟩; have n0_ := Aside0.mk (below_step (by repeat (first | exact HB.out | apply below_alloc | apply pw_below_drewN | apply below_drew1 | refine below_set ?_ (by omega))) hb); have m0_ := Aside0.mk (Kd.R_below (by (with_reducible repeat (first | apply Kd.R_alloc | apply Kd.R_drewN | apply Kd.R_drew)); exact HO.out) hb); clear HB; have HB := n0_; clear n0_; clear HO; have HO := m0_; clear m0_; clear hb)
    | (go_at_call 26; (with_reducible refine (C26.out _ ?side).mono ?_); (case side => repeat (first | exact HB.out | apply below_alloc | apply pw_below_drewN | apply below_drew1 | refine below_set ?_ (by omega))); rintro e w1 ⟨rfl, hb⟩; have n0_ := Aside0.mk (below_step (by repeat (first | exact HB.out | apply below_alloc | apply pw_below_drewN | apply below_drew1 | refine below_set ?_ (by omega))) hb); have m0_ := Aside0.mk (Kd.R_below (by (with_reducible repeat (first | apply Kd.R_alloc | apply Kd.R_drewN | apply Kd.R_drew)); exact HO.out) hb); clear HB; have HB := n0_; clear n0_; clear HO; have HO := m0_; clear m0_; clear hb)
    | (go_at_call 27; (with_reducible refine (C27.out _ ?side _ _ _ _ ?s1 ?s2 ?s3 ?s4).mono ?_); (case side => repeat (first | exact HB.out | apply below_alloc | apply pw_below_drewN | apply below_drew1 | refine below_set ?_ (by omega))); (case s1 => repeat (first | exact (Kd.R_reads' HO.out).2.2 | (with_reducible refine Kd.C_alloc ?_ _) | (with_reducible refine Kd.C_drewN ?_ _) | (with_reducible refine Kd.C_drew ?_))); (case s2 => exact (Kd.R_reads' HO.out).2.1); (case s3 => exact C_lit1 _ _); (case s4 => exact Nat.le_refl _); rintro e w1 ⟨rfl, hb⟩; have n0_ := Aside0.mk (below_step (by repeat (first | exact HB.out | apply below_alloc | apply pw_below_drewN | apply below_drew1 | refine below_set ?_ (by omega))) hb); clear HB; have HB := n0_; clear n0_; clear hb))
  have hl : 0 < l.length := by cases l with | nil => exact hE.elim | cons a r => simp
  have hl24 : l.length ≤ 24 := by cases l with | nil => exact hE.elim | cons a r => exact hE.1
  obtain ⟨ad, e106, hx0, hx1⟩ := at_T42 HR.out 0 (by omega) (by omega)
  cases e106
  rw [show ((0 : Int)).toNat = 0 from rfl, Nat.zero_mul, Addr.add_zero'] at hx0 hx1
  replace hx0 := (HB.out.cell (World.block_lt_of_cell? w _ hx0)).trans hx0
  replace hx1 := (HB.out.cell (World.block_lt_of_cell? w _ hx1)).trans hx1
  have LO := Aside0.mk (rfl : rng (rd_T42 l 0).f1 (rd_T42 l 0).f1 l = _)
  generalize hlo : rng (rd_T42 l 0).f1 (rd_T42 l 0).f1 l = lh at *
  obtain ⟨lo, hi⟩ := lh
  have HE := Aside0.mk hE
  have HL := Aside0.mk hlo
  clear hlo hE LO
  have f0 : (0 : Int) < (l.length : Int) := by omega
  go_quiet (fail)
  go_wp2
  go_loopg [16, 17, 111] l.length (fun kq v16 v17 v111 w' => ∃ (x y : Int) (n : Nat), v16 = .int .i64 x ∧ v17 = .int .i64 y ∧ v111 = .int .i64 (n : Int) ∧ Aside0 (rng x y (l.drop n) = (lo, hi)) ∧ Aside0 (n + kq = l.length) ∧ Aside0 (Below w.heap.size w w'))
  case atStart => exact ⟨_, _, 0, rfl, rfl, rfl, HL, ⟨by omega⟩, ⟨by repeat (first | exact HB.out | apply below_alloc | apply pw_below_drewN | apply below_drew1 | refine below_set ?_ (by omega))⟩⟩
  case round =>
    clear hx0 hx1
    obtain ⟨x, y, n, rfl, rfl, rfl, HA, HN, HB⟩ := hrel
    by_cases hlt : n < l.length
    · have hk := HN.out
      obtain ⟨k1, rfl⟩ : ∃ k1, gk = k1 + 1 := ⟨gk - 1, by omega⟩
      clear hk
      have HS := Aside0.mk (drop_head z42 hlt)
      obtain ⟨ad2, e107, hx0, hx1⟩ := at_T42 HR.out (n : Int) (by omega) (by omega)
      obtain rfl : ad = ad2 := by injection e107
      replace hx0 := (HB.out.cell (World.block_lt_of_cell? w _ hx0)).trans hx0
      replace hx1 := (HB.out.cell (World.block_lt_of_cell? w _ hx1)).trans hx1
      simp only [Int.toNat_natCast] at hx0 hx1
      have HA2 : Aside0 (rng (mn x (rd_T42 l (n : Int)).f1) (mx y (rd_T42 l (n : Int)).f1) (l.drop (n + 1)) = (lo, hi)) := ⟨by have h := HA.out; rw [HS.out] at h; simp only [rng] at h; exact h⟩
      clear HA HS
      generalize hj0 : mn x (rd_T42 l (n : Int)).f1 = j0 at HA2
      generalize hj1 : mx y (rd_T42 l (n : Int)).f1 = j1 at HA2
      have hj0_ : (if (rd_T42 l (n : Int)).f1 < x then (rd_T42 l (n : Int)).f1 else x) = j0 := hj0
      have hj1_ : (if y < (rd_T42 l (n : Int)).f1 then (rd_T42 l (n : Int)).f1 else y) = j1 := hj1
      clear hj0 hj1
      go_wp2
      go_quiet (fail)
      go_wp2
      go_roundg k1
      case measure => omega
      case rel => exact ⟨j0, j1, n + 1, (by first | rfl | (simp only [hj0_] ; done) | (simp [*]; done)), (by first | rfl | (simp only [hj1_]; done) | (simp [*]; done)), by go_num, HA2, ⟨by have := HN.out; omega⟩, ⟨by repeat (first | exact HB.out | apply below_alloc | apply pw_below_drewN | apply below_drew1 | refine below_set ?_ (by omega))⟩⟩
    · have hx := HA.out
      rw [List.drop_of_length_le (by omega)] at hx
      simp only [rng, Prod.mk.injEq] at hx
      obtain ⟨rfl, rfl⟩ := hx
      clear HA HN
      have hg := atC_good (t := t) HE.out
      go_wp2_with (first | (go_at_call 28; (with_reducible refine (C28.out _ ?side).mono ?_); (case side => repeat (first | exact HB.out | apply below_alloc | apply pw_below_drewN | apply below_drew1 | refine below_set ?_ (by omega))); rintro e w1 ⟨rfl, hb⟩; have n0_ := Aside0.mk (below_step (by repeat (first | exact HB.out | apply below_alloc | apply pw_below_drewN | apply below_drew1 | refine below_set ?_ (by omega))) hb); clear HB; have HB := n0_; clear n0_; clear hb))
      repeat (go_quiet (fail); try go_wp2)
      go_ret
      exact ⟨rfl, by repeat (first | exact HB.out | apply below_alloc | apply pw_below_drewN | apply below_drew1 | refine below_set ?_ (by omega))⟩
theorem walk (A0 : Option Addr) (c0 : Nat) (l0 : List S42) (a1 : Int) (w : World) (hr0 : Kd.C k42 w A0 l0.length l0) (hc0 : l0.length ≤ c0) (_ : l0.length * 16 ≤ 140737488351232) (_ : ∀ x ∈ l0, (Lit.int .i64 x.f0).wf = true ∧ (Lit.int .i64 x.f1).wf = true) (_ : (Lit.int .i64 a1).wf = true) :
    Calls Try.prog 6 #[.slice A0 l0.length c0, .int .i64 a1] w fun e w' => e = .returned (.bool true) ∧ Below w.heap.size w w' := by
  by_cases hE : chk l0 = 0
  · have hv := (chk_zero l0).1 hE
    by_cases h1 : a1 < 0
    · exact law_good0 hr0 hc0 a1 hv h1
    by_cases h2 : 1073741824 < a1
    · exact law_good1 hr0 hc0 a1 hv h2
    exact law_good2 hr0 hc0 a1 hv (by omega)
  · by_cases h1 : a1 < 0
    · exact law_bad0 hr0 hc0 a1 hE h1
    by_cases h2 : 1073741824 < a1
    · exact law_bad1 hr0 hc0 a1 hE h2
    exact law_bad2 hr0 hc0 a1 hE (by omega)
end Go.Proofs.Ythjejgaekoopnaa.PCostChecks
