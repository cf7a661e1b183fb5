/- Timetables: which rides are reached, and the first arrivals. No condition. -/
import Derived.Test.YtpbmlhlpfbcnbaaPlTimedPlansg
namespace Go.Proofs.Ytpbmlhlpfbcnbaa.Rw
open Go.Rx
set_option linter.unusedVariables false
set_option linter.unusedSimpArgs false
inductive Reach (C fr at_ : Int) (rides : List Ride) : Nat → Prop where
  | base (j : Nat) (h1 : (rides.getD j zR).1 = fr) (h2 : at_ ≤ (rides.getD j zR).2.2.1) : Reach C fr at_ rides j
  | step (j i : Nat) (hi : i < j) (h : Reach C fr at_ rides i) (hc : canF C (rides.getD i zR) (rides.getD j zR) = true) : Reach C fr at_ rides j
theorem Reach.mono {C fr a b : Int} {rides : List Ride} (hab : a ≤ b) {j : Nat} (h : Reach C fr b rides j) : Reach C fr a rides j := by
  induction h with
  | base j h1 h2 => exact .base j h1 (by omega)
  | step j i hi _ hc ih => exact .step j i hi ih hc
/-- Who reaches a ride has taken a first one. -/
theorem Reach.first {C fr a : Int} {rides : List Ride} {j : Nat} (h : Reach C fr a rides j) : ∃ q, q ≤ j ∧ (rides.getD q zR).1 = fr ∧ a ≤ (rides.getD q zR).2.2.1 ∧ Reach C fr (rides.getD q zR).2.2.1 rides j := by
  induction h with
  | base j h1 h2 => exact ⟨j, Nat.le_refl _, h1, h2, .base j h1 (Int.le_refl _)⟩
  | step j i hi _ hc ih =>
    obtain ⟨q, h0, h1, h2, h3⟩ := ih
    exact ⟨q, by omega, h1, h2, .step j i hi h3 hc⟩
theorem tIns_get {C : Int} {rides : List Ride} {kk : Nat} : ∀ (l : List Nat) (t : List Bool), (∀ i ∈ l, i ≠ kk) → kk < t.length →
    ((l.foldl (fun t j => tIn C rides kk j t) t).getD kk false = true ↔ t.getD kk false = true ∨ ∃ i ∈ l, t.getD i false = true ∧ canF C (rides.getD i zR) (rides.getD kk zR) = true)
  | [], t, _, _ => by simp
  | i :: l, t, hl, hk => by
    have hi := hl i (List.mem_cons_self ..)
    have e : ∀ j, j ≠ kk → (tIn C rides kk i t).getD j false = t.getD j false := fun j hj => by
      unfold tIn; rw [getD_set, if_neg (fun z => hj z.1.symm)]
    rw [List.foldl_cons, tIns_get l _ (fun j hj => hl j (List.mem_cons_of_mem _ hj)) (by simpa [tIn] using hk)]
    have e0 : (tIn C rides kk i t).getD kk false = (t.getD kk false || (t.getD i false && canF C (rides.getD i zR) (rides.getD kk zR))) := by
      unfold tIn; rw [getD_set, if_pos ⟨rfl, hk⟩]
    rw [e0, Bool.or_eq_true, Bool.and_eq_true]
    constructor
    · rintro ((h | h) | ⟨j, hj, h⟩)
      · exact .inl h
      · exact .inr ⟨i, List.mem_cons_self .., h⟩
      · rw [e j (hl j (List.mem_cons_of_mem _ hj))] at h
        exact .inr ⟨j, List.mem_cons_of_mem _ hj, h⟩
    · rintro (h | ⟨j, hj, h⟩)
      · exact .inl (.inl h)
      · rcases List.mem_cons.1 hj with rfl | hj
        · exact .inl (.inr h)
        · refine .inr ⟨j, hj, ?_⟩
          rw [e j (hl j (List.mem_cons_of_mem _ hj))]
          exact h
theorem tIns_at {C : Int} {rides : List Ride} {kk j : Nat} (hj : j ≠ kk) : ∀ (l : List Nat) (t : List Bool), (l.foldl (fun t j => tIn C rides kk j t) t).getD j false = t.getD j false
  | [], _ => rfl
  | i :: l, t => by
    rw [List.foldl_cons, tIns_at hj l]
    unfold tIn; rw [getD_set, if_neg (fun z => hj z.1.symm)]
theorem tStep_at {C fr at_ : Int} {rides : List Ride} {kk j : Nat} (hj : j ≠ kk) {t : List Bool} : (tStep C fr at_ rides kk t).getD j false = t.getD j false := by
  unfold tStep
  rw [tIns_at hj, getD_set, if_neg (fun z => hj z.1.symm)]
theorem tStep_reach {C fr at_ : Int} {rides : List Ride} {kk : Nat} {t : List Bool} (hk : kk < t.length) (h : ∀ j, j < kk → (t.getD j false = true ↔ Reach C fr at_ rides j)) : (tStep C fr at_ rides kk t).getD kk false = true ↔ Reach C fr at_ rides kk := by
  unfold tStep
  rw [tIns_get _ _ (fun i hi => by simp [List.mem_range'] at hi; omega) (by simpa using hk), getD_set, if_pos ⟨rfl, hk⟩, Bool.and_eq_true, decide_eq_true_eq, decide_eq_true_eq]
  constructor
  · rintro (⟨h1, h2⟩ | ⟨i, hi, h1, h2⟩)
    · exact .base kk h1 h2
    · have hi : i < kk := by simp [List.mem_range'] at hi; omega
      rw [getD_set, if_neg (fun z => by omega)] at h1
      exact .step kk i hi ((h i hi).1 h1) h2
  · intro g
    cases g with
    | base _ h1 h2 => exact .inl ⟨h1, h2⟩
    | step _ i hi g hc =>
      refine .inr ⟨i, by simp [List.mem_range']; omega, ?_, hc⟩
      rw [getD_set, if_neg (fun z => by omega)]
      exact (h i hi).2 g
theorem arr_reach {C fr at_ to : Int} {rides : List Ride} (by_ : Int) : ∀ (d kk : Nat) (t : List Bool) (o : Int × Bool), kk + d = rides.length → t.length = rides.length → (∀ j, j < kk → (t.getD j false = true ↔ Reach C fr at_ rides j)) →
    ((o.2 = true ∧ o.1 ≤ by_) ↔ ∃ j, j < kk ∧ Reach C fr at_ rides j ∧ (rides.getD j zR).2.1 = to ∧ arrAt rides j ≤ by_) →
    (((arrFold C fr at_ to rides (List.range' kk d) (t, o)).2.2 = true ∧ (arrFold C fr at_ to rides (List.range' kk d) (t, o)).2.1 ≤ by_) ↔ ∃ j, j < rides.length ∧ Reach C fr at_ rides j ∧ (rides.getD j zR).2.1 = to ∧ arrAt rides j ≤ by_)
  | 0, kk, t, o, hid, ht, hr, h => by
    rw [show kk = rides.length by omega] at h
    exact h
  | d + 1, kk, t, o, hid, ht, hr, h => by
    have e : arrFold C fr at_ to rides (List.range' kk (d + 1)) (t, o) = arrFold C fr at_ to rides (List.range' (kk + 1) d) (tStep C fr at_ rides kk t, arrStep (tStep C fr at_ rides kk t) (rides.getD kk zR) kk to o) := by
      simp only [arrFold, List.range'_succ, List.foldl_cons]
    rw [e]
    have hkr := tStep_reach (C := C) (fr := fr) (at_ := at_) (rides := rides) (kk := kk) (t := t) (by omega) hr
    refine arr_reach by_ d (kk + 1) _ _ (by omega) (by rw [tStep_len]; exact ht) (fun j hj => ?_) ?_
    · by_cases g : j = kk
      · subst g; exact hkr
      · rw [tStep_at g]; exact hr j (by omega)
    · have old : (∃ j, j < kk + 1 ∧ Reach C fr at_ rides j ∧ (rides.getD j zR).2.1 = to ∧ arrAt rides j ≤ by_) ↔ (o.2 = true ∧ o.1 ≤ by_) ∨ (Reach C fr at_ rides kk ∧ (rides.getD kk zR).2.1 = to ∧ arrAt rides kk ≤ by_) := by
        rw [h]
        constructor
        · rintro ⟨j, hj, g⟩
          by_cases e : j = kk
          · subst e; exact .inr g
          · exact .inl ⟨j, by omega, g⟩
        · rintro (⟨j, hj, g⟩ | g)
          · exact ⟨j, by omega, g⟩
          · exact ⟨kk, by omega, g⟩
      rw [old]
      unfold arrStep
      by_cases hc : (tStep C fr at_ rides kk t).getD kk false = true ∧ (rides.getD kk zR).2.1 = to
      · by_cases ho : o.2 = false ∨ (rides.getD kk zR).2.2.2.1 < o.1
        · rw [if_pos ⟨hc.1, hc.2, ho⟩]
          simp only [true_and]
          constructor
          · intro g; exact .inr ⟨hkr.1 hc.1, hc.2, g⟩
          · rintro (⟨g1, g2⟩ | ⟨_, _, g⟩)
            · rcases ho with ho | ho
              · rw [ho] at g1; cases g1
              · omega
            · exact g
        · rw [if_neg (fun z => ho z.2.2)]
          constructor
          · exact .inl
          · rintro (g | ⟨_, _, g⟩)
            · exact g
            · have g : (rides.getD kk zR).2.2.2.1 ≤ by_ := g
              cases ho2 : o.2 with
              | false => exact (ho (.inl ho2)).elim
              | true => exact ⟨rfl, by have : ¬ (rides.getD kk zR).2.2.2.1 < o.1 := fun z => ho (.inr z); omega⟩
      · rw [if_neg (fun z => hc ⟨z.1, z.2.1⟩)]
        constructor
        · exact .inl
        · rintro (g | ⟨g1, g2, _⟩)
          · exact g
          · exact (hc ⟨hkr.2 g1, g2⟩).elim
/-- In time is, who reaches a ride that ends there in time. -/
theorem inTime_iff {S C : Int} {l : List Ride} {a b by_ d : Int} : inTime S C l a b by_ d ↔ ∃ j, j < l.length ∧ Reach C a d l j ∧ (l.getD j zR).2.1 = b ∧ arrAt l j ≤ by_ :=
  arr_reach by_ l.length 0 (List.replicate l.length false) (0, false) (by omega) (by simp) (fun j hj => by omega) ⟨fun h => (by cases h.1), fun h => (by obtain ⟨j, hj, _⟩ := h; omega)⟩
end Go.Proofs.Ytpbmlhlpfbcnbaa.Rw
