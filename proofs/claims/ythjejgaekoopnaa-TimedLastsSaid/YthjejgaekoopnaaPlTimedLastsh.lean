/- Timetables: the law of Last. No condition. -/
import Derived.Test.YthjejgaekoopnaaPlTimedLastsg
namespace Go.Proofs.Ythjejgaekoopnaa.Rw
open Go.Rx
set_option linter.unusedVariables false
set_option linter.unusedSimpArgs false
theorem lasts_end (k : Nat) (e f want n : Int) (hpl : f47 k = some (true, ())) (h : e = (if f = 0 ∧ want < 0 then 17 else f) ∧ n = max want 0) :
    (if f = 0 then f13_r14 k e f want (decide (want < 0)) n else f13_r14 k e f want false n) = some (true, ()) := by
  obtain ⟨rfl, rfl⟩ := h
  by_cases h1 : f = 0 <;> by_cases h2 : want < 0 <;> simp [h1, h2, f13_r14, f13_r14_B, f13_c15, f13_c15_B, f13_r16, f13_r16_B, hpl, mx2_max]
theorem lasts_idle (S C fr to by_ e f want n_ : Int) (rides : List Ride) (hr : rides.length ≤ 9000000000000000000) (hc : ¬ f = 0 ∨ fr = to) (h : e = (if f = 0 ∧ want < 0 then 17 else f) ∧ n_ = max want 0) : ∀ (d i : Nat), i + d = rides.length →
    Ev2 (fun k n => f13_l0 k n S C rides fr e f want to by_ (rides.length : Int) (i : Int) n_) (true, ())
  | 0, i, hid => by
    refine Ev2.step (g := fun k n => if f = 0 then f13_r14 k e f want (decide (want < 0)) n_ else f13_r14 k e f want false n_) (fun k n => ?_) ⟨30, fun k n hk hn => ?_⟩
    · rw [f13_l0, f13_l0_B, if_neg (by omega)]
    · exact lasts_end k e f want n_ (by have := f47_true (k - 30); rwa [Nat.sub_add_cancel hk] at this) h
  | d + 1, i, hid => by
    have h1 : (i : Int) < (rides.length : Int) := by omega
    have h0 : (0 : Int) ≤ (i : Int) := by omega
    have hw : w64 ((i : Int) + 1) = ((i + 1 : Nat) : Int) := by rw [w64_id (by omega) (by omega)]; omega
    refine Ev2.step (fun k n => ?_) (lasts_idle S C fr to by_ e f want n_ rides hr hc h d (i + 1) (by omega))
    rw [f13_l0, f13_l0_B, if_pos h1, if_pos h0, if_pos h1]
    by_cases g1 : f = 0
    · have g2 : fr = to := hc.resolve_left (fun z => z g1)
      simp only [g1, g2, not_true_eq_false, if_false, if_true, f13_r9, f13_r9_B, f13_b1, f13_b1_B, hw]
    · simp only [g1, not_false_eq_true, if_true, f13_r9, f13_r9_B, f13_b1, f13_b1_B, hw]
def endOK (e n w : Int) : Prop := e = (if (0 : Int) = 0 ∧ w < 0 then 17 else 0) ∧ n = max w 0
theorem lasts_loop (S C fr to by_ e n_ : Int) (rides : List Ride) (hr : rides.length ≤ 400) (hab : ¬ fr = to) : ∀ (d i : Nat) (want : Int), i + d = rides.length → endOK e n_ ((List.range' i d).foldl (fun o j => lastStep S C fr to by_ rides j o) want) →
    Ev2 (fun k n => f13_l0 k n S C rides fr e 0 want to by_ (rides.length : Int) (i : Int) n_) (true, ())
  | 0, i, want, hid, h => by
    refine Ev2.step (g := fun k n => if (0 : Int) = 0 then f13_r14 k e 0 want (decide (want < 0)) n_ else f13_r14 k e 0 want false n_) (fun k n => ?_) ⟨30, fun k n hk hn => ?_⟩
    · rw [f13_l0, f13_l0_B, if_neg (by omega)]
    · exact lasts_end k e 0 want n_ (by have := f47_true (k - 30); rwa [Nat.sub_add_cancel hk] at this) h
  | d + 1, i, want, hid, h => by
    have h1 : (i : Int) < (rides.length : Int) := by omega
    have h0 : (0 : Int) ≤ (i : Int) := by omega
    have hw : w64 ((i : Int) + 1) = ((i + 1 : Nat) : Int) := by rw [w64_id (by omega) (by omega)]; omega
    have hrd : ∀ z : Ride, rides.getD i z = rides.getD i zR := fun z => by
      have : i < rides.length := by omega
      simp [List.getD_eq_getElem?_getD, List.getElem?_eq_getElem this]
    simp only [List.range'_succ, List.foldl_cons] at h
    have ih := lasts_loop S C fr to by_ e n_ rides hr hab d (i + 1) (lastStep S C fr to by_ rides i want) (by omega) h
    by_cases c1 : (rides.getD i zR).1 = fr
    · have ha := arr_ev S C fr (rides.getD i zR).2.2.1 to rides hr
      refine Ev2.step (g := fun k n => (f55 k (S, (C, rides)) fr to (rides.getD i zR).2.2.1).bind fun r1 => if r1.2.1 = true ∧ r1.1 ≤ by_ then f13_l0 k n S C rides fr e 0 (max want (rides.getD i zR).2.2.1) to by_ (rides.length : Int) ((i + 1 : Nat) : Int) n_ else f13_l0 k n S C rides fr e 0 want to by_ (rides.length : Int) ((i + 1 : Nat) : Int) n_) (fun k n => ?_) (ha.bind2 ?_)
      · rw [f13_l0, f13_l0_B, if_pos h1, if_pos h0, if_pos h1]
        simp only [Int.toNat_natCast, hrd, c1, hab, not_true_eq_false, if_false, decide_false, f13_r9, f13_r9_B, Bool.false_eq_true, f13_r11, f13_r11_B, f13_c12, f13_c12_B, f13_b1, f13_b1_B, hw, mx2_max]
        congr 1
        funext r1
        by_cases g1 : r1.2.1 = true <;> by_cases g2 : r1.1 ≤ by_ <;> simp [g1, g2]
      · by_cases c3 : inTime S C rides fr to by_ (rides.getD i zR).2.2.1
        · have e1 : lastStep S C fr to by_ rides i want = max want (rides.getD i zR).2.2.1 := by unfold lastStep; rw [if_neg (not_not_intro c1), if_pos c3]
          rw [e1] at ih
          simp only [if_pos (show _ ∧ _ from c3)]
          exact ih
        · have e1 : lastStep S C fr to by_ rides i want = want := by unfold lastStep; rw [if_neg (not_not_intro c1), if_neg c3]
          rw [e1] at ih
          simp only [if_neg (show ¬ (_ ∧ _) from c3)]
          exact ih
    · have e1 : lastStep S C fr to by_ rides i want = want := by unfold lastStep; rw [if_pos c1]
      rw [e1] at ih
      refine Ev2.step (fun k n => ?_) ih
      rw [f13_l0, f13_l0_B, if_pos h1, if_pos h0, if_pos h1]
      simp only [Int.toNat_natCast, hrd, c1, hab, not_true_eq_false, not_false_eq_true, if_false, if_true, decide_true, f13_r9, f13_r9_B, f13_b1, f13_b1_B, hw]
theorem lasts_ev (S C : Int) (l : List Ride) (a b by_ : Int) (hl : l.length ≤ 9000000000000000000) : Ev (fun k => f13 k (S, (C, l)) a b by_) (true, ()) := by
  simp only [f13, f13_entry_B]
  refine (last_ev S C l a b by_).bind ((fault_ev S C l a b by_).bind ?_)
  unfold lastF
  by_cases h0 : faultF S C l a b by_ = 0
  · simp only [h0, if_true, f13_r4, f13_r4_B, f13_c5, f13_c5_B]
    have ht : tabF S C l = 0 := by
      unfold faultF at h0; split at h0
      · assumption
      · exact h0
    by_cases h1 : a = b
    · have hb : 0 ≤ by_ := by
        unfold faultF at h0; rw [if_pos ht] at h0
        split at h0
        · cases h0
        · split at h0
          · cases h0
          · split at h0
            · cases h0
            · omega
      simp only [h1, if_true, decide_true]
      exact (lasts_idle S C b b by_ 0 0 by_ by_ l hl (.inr rfl) ⟨by rw [if_neg (by omega)], by omega⟩ l.length 0 (by omega)).diag
    · simp only [h1, if_false, decide_false, Bool.false_eq_true]
      by_cases h2 : lastW S C a b by_ l < 0
      · simp only [if_pos h2]
        exact (lasts_loop S C a b by_ 17 0 l (tabF_len ht) h1 l.length 0 (-1) (by omega) ⟨by rw [if_pos ⟨rfl, h2⟩], by show 0 = max (lastW S C a b by_ l) 0; omega⟩).diag
      · simp only [if_neg h2]
        exact (lasts_loop S C a b by_ 0 (lastW S C a b by_ l) l (tabF_len ht) h1 l.length 0 (-1) (by omega) ⟨by rw [if_neg (fun z => h2 z.2)], by show lastW S C a b by_ l = max (lastW S C a b by_ l) 0; omega⟩).diag
  · simp only [h0, if_false, f13_r4, f13_r4_B, f13_c5, f13_c5_B, Bool.false_eq_true]
    exact (lasts_idle S C a b by_ (faultF S C l a b by_) (faultF S C l a b by_) (-1) 0 l hl (.inl h0) ⟨by rw [if_neg (fun z => h0 z.1)], by omega⟩ l.length 0 (by omega)).diag
/-- **Last returns what the reference says.** -/
theorem pure_TimedLasts : Pure_TimedLasts := by
  rintro ⟨⟨S, C, l⟩, a, b, by_, u⟩ hwf
  have hl : List.length (α := Ride) l * (Ty.by (.pair (.int .i64) (.pair (.int .i64) (.pair (.int .i64) (.pair (.int .i64) (.int .i64)))))) ≤ 140737488351232 := hwf.1.2.2.1
  have hl2 : List.length (α := Ride) l * 40 ≤ 140737488351232 := hl
  exact (lasts_ev S C l a b by_ (by omega)).get
end Go.Proofs.Ythjejgaekoopnaa.Rw
