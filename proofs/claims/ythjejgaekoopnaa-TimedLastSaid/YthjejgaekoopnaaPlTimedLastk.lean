/- Timetables: who leaves at the time of Last arrives in time, who is ready only after it does not. No condition. -/
import Derived.Test.YthjejgaekoopnaaPlTimedLastj
namespace Go.Proofs.Ythjejgaekoopnaa.Rw
open Go.Rx
set_option linter.unusedVariables false
set_option linter.unusedSimpArgs false
theorem lastW_fold {S C fr to by_ : Int} {l : List Ride} : ∀ (d i : Nat) (out : Int), i + d = l.length →
    out ≤ (List.range' i d).foldl (fun o j => lastStep S C fr to by_ l j o) out ∧
    (∀ j, i ≤ j → j < l.length → (l.getD j zR).1 = fr → inTime S C l fr to by_ (l.getD j zR).2.2.1 → (l.getD j zR).2.2.1 ≤ (List.range' i d).foldl (fun o j => lastStep S C fr to by_ l j o) out) ∧
    ((List.range' i d).foldl (fun o j => lastStep S C fr to by_ l j o) out = out ∨ ∃ j, j < l.length ∧ (l.getD j zR).1 = fr ∧ inTime S C l fr to by_ (l.getD j zR).2.2.1 ∧ (List.range' i d).foldl (fun o j => lastStep S C fr to by_ l j o) out = (l.getD j zR).2.2.1)
  | 0, i, out, h => ⟨Int.le_refl _, fun j h1 h2 => by omega, .inl rfl⟩
  | d + 1, i, out, h => by
    simp only [List.range'_succ, List.foldl_cons]
    obtain ⟨k1, k2, k3⟩ := lastW_fold (S := S) (C := C) (fr := fr) (to := to) (by_ := by_) (l := l) d (i + 1) (lastStep S C fr to by_ l i out) (by omega)
    have hst : out ≤ lastStep S C fr to by_ l i out ∧ ((l.getD i zR).1 = fr → inTime S C l fr to by_ (l.getD i zR).2.2.1 → (l.getD i zR).2.2.1 ≤ lastStep S C fr to by_ l i out) ∧ (lastStep S C fr to by_ l i out = out ∨ ((l.getD i zR).1 = fr ∧ inTime S C l fr to by_ (l.getD i zR).2.2.1 ∧ lastStep S C fr to by_ l i out = (l.getD i zR).2.2.1)) := by
      unfold lastStep
      by_cases c1 : (l.getD i zR).1 = fr
      · rw [if_neg (not_not_intro c1)]
        by_cases c2 : inTime S C l fr to by_ (l.getD i zR).2.2.1
        · rw [if_pos c2]
          refine ⟨by omega, fun _ _ => by omega, ?_⟩
          by_cases c3 : (l.getD i zR).2.2.1 ≤ out
          · exact .inl (by omega)
          · exact .inr ⟨c1, c2, by omega⟩
        · rw [if_neg c2]; exact ⟨Int.le_refl _, fun _ z => (c2 z).elim, .inl rfl⟩
      · rw [if_pos c1]; exact ⟨Int.le_refl _, fun z => (c1 z).elim, .inl rfl⟩
    refine ⟨by omega, fun j h1 h2 h3 h4 => ?_, ?_⟩
    · by_cases e : j = i
      · subst e
        have := hst.2.1 h3 h4
        omega
      · exact k2 j (by omega) h2 h3 h4
    · rcases k3 with k3 | k3
      · rw [k3]
        rcases hst.2.2 with g | ⟨g1, g2, g3⟩
        · exact .inl g
        · exact .inr ⟨i, by omega, g1, g2, g3⟩
      · exact .inr k3
theorem first_time {S C : Int} {l : List Ride} {a b by_ d : Int} (h : inTime S C l a b by_ d) : ∃ q, q < l.length ∧ (l.getD q zR).1 = a ∧ d ≤ (l.getD q zR).2.2.1 ∧ inTime S C l a b by_ (l.getD q zR).2.2.1 := by
  obtain ⟨j, h1, h2, h3, h4⟩ := inTime_iff.1 h
  obtain ⟨q, g0, g1, g2, g3⟩ := h2.first
  exact ⟨q, by omega, g1, g2, inTime_iff.2 ⟨j, h1, g3, h3, h4⟩⟩
theorem plan_err {S C : Int} {l : List Ride} {a b d : Int} (h : faultF S C l a b d = 0) : (planF S C l a b d).2.2.1 = 0 ∨ (planF S C l a b d).2.2.1 = 17 := by
  unfold planF
  rw [if_pos h]
  split
  · exact .inl rfl
  · unfold planEnd; split
    · exact .inr rfl
    · exact .inl rfl
theorem fault_0 {S C : Int} {l : List Ride} {a b d : Int} (ht : tabF S C l = 0) (ha : 0 ≤ a ∧ a < S) (hb : 0 ≤ b ∧ b < S) (hd : 0 ≤ d ∧ d ≤ 1073741824) : faultF S C l a b d = 0 := by
  unfold faultF
  rw [if_pos ht, if_neg (show ¬ badS S a by unfold badS; omega), if_neg (show ¬ badS S b by unfold badS; omega), if_neg (by omega)]
theorem late_ok {S C : Int} {l : List Ride} {a b n d : Int} (hab : ¬ a = b) (h : faultF S C l a b d = 0) (hn : ¬ inTime S C l a b n d) : (planF S C l a b d).2.2.1 = 17 ∨ ((planF S C l a b d).2.2.1 = 0 ∧ n < (planF S C l a b d).2.1) := by
  rcases plan_err h with g | g
  · refine .inr ⟨g, ?_⟩
    have := plan_time (by_ := n) h hab
    rcases Int.lt_or_le n (planF S C l a b d).2.1 with q | q
    · exact q
    · exact (hn (this.1 ⟨g, q⟩)).elim
  · exact .inl g
theorem last_law (a0 : List Int) (a1 a2 a3 : Int) : Ev (fun k => f12 k a0 a1 a2 a3) (true, ()) := by
  obtain ⟨S, C, l, ht, hS1, hS2, h0, hd⟩ := table_ev a0
  have hplan : Ev (fun k => f52 k) (true, ()) := Ev.off 30 f52_true
  have e1 := fun k => below_eq k a1 S (by omega) (by omega)
  have e2 := fun k => below_eq k a2 S (by omega) (by omega)
  have e3 := fun k => below_eq k a3 90 (by omega) (by omega)
  have b1 := below_lt (x := a1) (n := S) (by omega)
  have b2 := below_lt (x := a2) (n := S) (by omega)
  have b3 := below_lt (x := a3) (n := 90) (by omega)
  simp only [f12, f12_entry_B]
  refine ht.bind ?_
  simp only [e1, e2, e3, Option.bind_some]
  generalize belowF a1 S = a at b1
  generalize belowF a2 S = b at b2
  generalize belowF a3 90 = n at b3
  refine (last_ev S C l a b n).bind (hplan.bind ?_)
  simp only [not_true_eq_false, if_false]
  have hf : ∀ d, 0 ≤ d ∧ d ≤ 1073741824 → faultF S C l a b d = 0 := fun d hd => fault_0 h0 b1 b2 hd
  unfold lastF
  rw [if_pos (hf n (by omega))]
  by_cases hab : a = b
  · simp only [if_pos hab, decide_eq_true hab, f12_r4, f12_r4_B, if_true]
    refine hplan.bind ?_
    exact Ev.of (fun k => by simp [f12_r5, f12_r5_B]) (Ev.pure _)
  · simp only [if_neg hab, decide_eq_false hab, f12_r4, f12_r4_B, Bool.false_eq_true, if_false, f12_c5, f12_c5_B]
    obtain ⟨k1, k2, k3⟩ := lastW_fold (S := S) (C := C) (fr := a) (to := b) (by_ := n) (l := l) l.length 0 (-1) (by omega)
    have k2 : ∀ j, j < l.length → (l.getD j zR).1 = a → inTime S C l a b n (l.getD j zR).2.2.1 → (l.getD j zR).2.2.1 ≤ lastW S C a b n l := fun j h1 h2 h3 => k2 j (by omega) h1 h2 h3
    have k3 : lastW S C a b n l = -1 ∨ ∃ j, j < l.length ∧ (l.getD j zR).1 = a ∧ inTime S C l a b n (l.getD j zR).2.2.1 ∧ lastW S C a b n l = (l.getD j zR).2.2.1 := k3
    have late : ∀ d, lastW S C a b n l < d → ¬ inTime S C l a b n d := fun d hd h => by
      obtain ⟨q, g1, g2, g3, g4⟩ := first_time h
      have := k2 q g1 g2 g4
      omega
    by_cases hw : lastW S C a b n l < 0
    · simp only [if_pos hw, not_false_eq_true, if_true, show ¬ (17 : Int) = 0 by omega]
      refine (plan_ev S C l a b 0).bind ?_
      rcases late_ok hab (hf 0 (by omega)) (late 0 hw) with g | ⟨g1, g2⟩
      · simp only [g, if_true]
        exact Ev.pure _
      · simp only [g1, g2, show ¬ (0 : Int) = 17 by omega, if_false, decide_true]
        exact Ev.pure _
    · simp only [if_neg hw, not_true_eq_false, if_false, f12_c7, f12_c7_B]
      rcases k3 with k3 | ⟨j, j1, j2, j3, j4⟩
      · omega
      · have hmem : l.getD j zR ∈ l := by
          rw [List.getD_eq_getElem?_getD, List.getElem?_eq_getElem j1]
          exact List.getElem_mem _
        have hdj := hd _ hmem
        have hw1 : w64 (lastW S C a b n l + 1) = lastW S C a b n l + 1 := w64_id (by omega) (by omega)
        simp only [hw1]
        refine (plan_ev S C l a b (lastW S C a b n l)).bind ((plan_ev S C l a b (lastW S C a b n l + 1)).bind ?_)
        have p1 := (plan_time (by_ := n) (hf (lastW S C a b n l) (by omega)) hab).2 (by rw [j4]; exact j3)
        simp only [p1.1, p1.2, if_true]
        rcases late_ok hab (hf (lastW S C a b n l + 1) (by omega)) (late _ (by omega)) with g | ⟨g1, g2⟩
        · simp only [g, if_true]
          exact Ev.pure _
        · simp only [g1, g2, show ¬ (0 : Int) = 17 by omega, if_false, if_true, decide_true]
          exact Ev.pure _
/-- **Who leaves at the time of Last arrives in time; who is ready only after it does not.** -/
theorem pure_TimedLast : Pure_TimedLast := by
  rintro ⟨a0, a1, a2, a3, u⟩ hwf
  exact (last_law a0 a1 a2 a3).get
end Go.Proofs.Ythjejgaekoopnaa.Rw
