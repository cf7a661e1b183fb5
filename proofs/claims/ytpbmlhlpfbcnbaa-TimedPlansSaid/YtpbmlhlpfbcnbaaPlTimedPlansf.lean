/- Timetables: the ways of the program and the arrivals of the reference. No condition. -/
import Derived.Test.YtpbmlhlpfbcnbaaPlTimedPlanse
namespace Go.Proofs.Ytpbmlhlpfbcnbaa.Rw
open Go.Rx
set_option linter.unusedVariables false
set_option linter.unusedSimpArgs false
/-! ### The same rides can be reached -/
def sameT (ways : Ways) (t : List Bool) : Prop := ∀ j, (ways.getD j none).isSome = t.getD j false
theorem relax_same {C : Int} {rides : List Ride} {kk i : Nat} (hi : i ≠ kk) {ways : Ways} {t : List Bool} (hlw : kk < ways.length) (hlt : kk < t.length) (hcf : canF C (rides.getD i zR) (rides.getD kk zR) = folF C (rides.getD i zR) (rides.getD kk zR)) (h : sameT ways t) : sameT (relax C rides kk i ways) (tIn C rides kk i t) := fun j => by
  have hk := h kk
  have hii := h i
  unfold relax tIn
  rw [getD_set, hcf]
  by_cases hj : kk = j
  · subst hj
    rw [if_pos ⟨rfl, hlt⟩, ← hk, ← hii]
    cases hu : ways.getD i none with
    | none => simp
    | some u =>
      cases hf : folF C (rides.getD i zR) (rides.getD kk zR) with
      | false => simp
      | true =>
        simp only [if_true]
        cases hv : ways.getD kk none with
        | none => simp only []; rw [getD_set, if_pos ⟨rfl, hlw⟩]; rfl
        | some v =>
          simp only []
          split
          · rw [getD_set, if_pos ⟨rfl, hlw⟩]; rfl
          · rw [hv]; rfl
  · rw [if_neg (fun z => hj z.1), ← h j]
    have e : ∀ w, ((ways.set kk w).getD j none) = ways.getD j none := fun w => by rw [getD_set, if_neg (fun z => hj z.1)]
    cases ways.getD i none with
    | none => rfl
    | some u =>
      simp only []
      split
      · split
        · rw [e]
        · split
          · rw [e]
          · rfl
      · rfl

theorem relax_len {C : Int} {rides : List Ride} {kk i : Nat} {ways : Ways} : (relax C rides kk i ways).length = ways.length := by
  unfold relax; repeat' split
  all_goals simp
theorem relax_at {C : Int} {rides : List Ride} {kk i j : Nat} (hj : j ≠ kk) {ways : Ways} : (relax C rides kk i ways).getD j none = ways.getD j none := by
  have e : ∀ w, ((ways.set kk w).getD j none) = ways.getD j none := fun w => by rw [getD_set, if_neg (fun z => hj z.1.symm)]
  unfold relax; repeat' split
  all_goals first | rfl | exact e _
theorem relaxs_len {C : Int} {rides : List Ride} {kk : Nat} : ∀ (l : List Nat) (ways : Ways), (l.foldl (fun w j => relax C rides kk j w) ways).length = ways.length
  | [], _ => rfl
  | i :: l, ways => by rw [List.foldl_cons, relaxs_len l]; exact relax_len
theorem relaxs_at {C : Int} {rides : List Ride} {kk j : Nat} (hj : j ≠ kk) : ∀ (l : List Nat) (ways : Ways), (l.foldl (fun w j => relax C rides kk j w) ways).getD j none = ways.getD j none
  | [], _ => rfl
  | i :: l, ways => by rw [List.foldl_cons, relaxs_at hj l]; exact relax_at hj
theorem step_len {C fr at_ : Int} {rides : List Ride} {kk : Nat} {ways : Ways} : (bestStep C fr at_ rides kk ways).length = ways.length := by
  unfold bestStep; split
  · simp
  · exact relaxs_len _ _
theorem step_at {C fr at_ : Int} {rides : List Ride} {kk j : Nat} (hj : j ≠ kk) {ways : Ways} : (bestStep C fr at_ rides kk ways).getD j none = ways.getD j none := by
  unfold bestStep; split
  · rw [getD_set, if_neg (fun z => hj z.1.symm)]
  · exact relaxs_at hj _ _
theorem tIns_len {C : Int} {rides : List Ride} {kk : Nat} : ∀ (l : List Nat) (t : List Bool), (l.foldl (fun t j => tIn C rides kk j t) t).length = t.length
  | [], _ => rfl
  | i :: l, t => by rw [List.foldl_cons, tIns_len l]; simp [tIn]
theorem relaxs_same {C : Int} {rides : List Ride} {kk : Nat} (hcf : ∀ i, i < kk → canF C (rides.getD i zR) (rides.getD kk zR) = folF C (rides.getD i zR) (rides.getD kk zR)) : ∀ (l : List Nat) (ways : Ways) (t : List Bool), (∀ i ∈ l, i < kk) → kk < ways.length → kk < t.length → sameT ways t → sameT (l.foldl (fun w j => relax C rides kk j w) ways) (l.foldl (fun t j => tIn C rides kk j t) t)
  | [], _, _, _, _, _, h => h
  | i :: l, ways, t, hl, h1, h2, h => by
    have hi := hl i (List.mem_cons_self ..)
    exact relaxs_same hcf l _ _ (fun j hj => hl j (List.mem_cons_of_mem _ hj)) (by rw [relax_len]; exact h1) (by simp [tIn, h2]) (relax_same (by omega) h1 h2 (hcf i hi) h)
theorem tIns_true {C : Int} {rides : List Ride} {kk : Nat} : ∀ (l : List Nat) (t : List Bool), t.getD kk false = true → kk < t.length → ∀ j, (l.foldl (fun t j => tIn C rides kk j t) t).getD j false = t.getD j false
  | [], _, _, _, _ => rfl
  | i :: l, t, h, hk, j => by
    have e : ∀ j, (tIn C rides kk i t).getD j false = t.getD j false := fun j => by
      unfold tIn
      rw [getD_set, h, Bool.true_or]
      split
      · rename_i g; rw [← g.1, h]
      · rfl
    rw [List.foldl_cons, tIns_true l _ (by rw [e]; exact h) (by simp [tIn, hk]), e]
theorem step_same {C fr at_ : Int} {rides : List Ride} {kk : Nat} (hcf : ∀ i, i < kk → canF C (rides.getD i zR) (rides.getD kk zR) = folF C (rides.getD i zR) (rides.getD kk zR)) {ways : Ways} {t : List Bool} (h1 : kk < ways.length) (h2 : kk < t.length) (hn : ways.getD kk none = none) (h : sameT ways t) : sameT (bestStep C fr at_ rides kk ways) (tStep C fr at_ rides kk t) := by
  unfold bestStep tStep
  by_cases hc : (rides.getD kk zR).1 = fr ∧ at_ ≤ (rides.getD kk zR).2.2.1
  · rw [if_pos hc, decide_eq_true hc.1, decide_eq_true hc.2]
    intro j
    rw [tIns_true _ _ (by rw [getD_set, if_pos ⟨rfl, h2⟩]; rfl) (by simpa using h2), getD_set, getD_set]
    by_cases hj : kk = j
    · rw [if_pos ⟨hj, h1⟩, if_pos ⟨hj, h2⟩]; rfl
    · rw [if_neg (fun z => hj z.1), if_neg (fun z => hj z.1)]; exact h j
  · rw [if_neg hc]
    have hb : (decide ((rides.getD kk zR).1 = fr) && decide (at_ ≤ (rides.getD kk zR).2.2.1)) = false := by
      rw [Bool.and_eq_false_iff]
      by_cases g : (rides.getD kk zR).1 = fr
      · exact .inr (decide_eq_false (fun z => hc ⟨g, z⟩))
      · exact .inl (decide_eq_false g)
    rw [hb]
    refine relaxs_same hcf _ _ _ (fun i hi => by simp [List.mem_range'] at hi; omega) h1 (by simpa using h2) (fun j => ?_)
    rw [getD_set]
    split
    · rename_i g
      rw [← g.1, hn]; rfl
    · exact h j
/-- The ride that Plan ends with, and the arrival of the reference. -/
def relO (rides : List Ride) (x : Int) (o : Int × Bool) : Prop := (o.2 = false ∧ x < 0) ∨ (o.2 = true ∧ 0 ≤ x ∧ o.1 = arrAt rides x.toNat)
theorem rel_step {rides : List Ride} {W : Ways} {t : List Bool} {kk : Nat} {to x : Int} {o : Int × Bool} (hW : (W.getD kk none).isSome = t.getD kk false) (h : relO rides x o) : relO rides (planStep W rides to kk x) (arrStep t (rides.getD kk zR) kk to o) := by
  unfold planStep arrStep
  rw [← hW]
  cases hu : W.getD kk none with
  | none =>
    simp only [isNilO, Option.isSome_none, Bool.false_eq_true, false_and, if_false, if_true]
    split <;> exact h
  | some u =>
    simp only [isNilO, Option.isSome_some, true_and, Bool.false_eq_true, if_false]
    by_cases c1 : (rides.getD kk zR).2.1 = to
    · simp only [c1, not_true_eq_false, if_false, true_and]
      rcases h with ⟨h1, h2⟩ | ⟨h1, h2, h3⟩
      · rw [if_pos h2, if_pos (.inl h1)]
        exact .inr ⟨rfl, by omega, by simp [arrAt]⟩
      · rw [if_neg (by omega)]
        by_cases c2 : arrAt rides kk < arrAt rides x.toNat
        · rw [if_pos c2, if_pos (.inr (by rw [h3]; exact c2))]
          exact .inr ⟨rfl, by omega, by simp [arrAt]⟩
        · have hno : ¬ (o.2 = false ∨ (rides.getD kk zR).2.2.2.1 < o.1) := by
            rw [h1, h3]; intro g; rcases g with g | g
            · cases g
            · exact c2 g
          rw [if_neg c2, if_neg hno]
          split
          · rename_i c3
            split
            · exact .inr ⟨h1, by omega, by rw [h3, ← c3]; simp⟩
            · exact .inr ⟨h1, h2, h3⟩
          · exact .inr ⟨h1, h2, h3⟩
    · simp only [c1, not_false_eq_true, if_true, false_and, if_false]
      exact h

theorem steps_at {C fr at_ : Int} {rides : List Ride} : ∀ (l : List Nat) (ways : Ways) (j : Nat), (∀ i ∈ l, j ≠ i) → (l.foldl (fun w kk => bestStep C fr at_ rides kk w) ways).getD j none = ways.getD j none
  | [], _, _, _ => rfl
  | i :: l, ways, j, h => by rw [List.foldl_cons, steps_at l _ j (fun q hq => h q (List.mem_cons_of_mem _ hq))]; exact step_at (h i (List.mem_cons_self ..))
theorem rel_all {C fr at_ to : Int} {rides : List Ride} (hcf : ∀ a ∈ rides, ∀ b ∈ rides, canF C a b = folF C a b) : ∀ (d kk : Nat) (ways : Ways) (t : List Bool) (x : Int) (o : Int × Bool), kk + d = rides.length → ways.length = rides.length → t.length = rides.length → sameT ways t → (∀ j, kk ≤ j → ways.getD j none = none) → relO rides x o →
    relO rides ((List.range' kk d).foldl (fun x j => planStep ((List.range' kk d).foldl (fun w q => bestStep C fr at_ rides q w) ways) rides to j x) x) (arrFold C fr at_ to rides (List.range' kk d) (t, o)).2
  | 0, kk, ways, t, x, o, hid, hw, ht, hs, hn, h => h
  | d + 1, kk, ways, t, x, o, hid, hw, ht, hs, hn, h => by
    have hmem : ∀ i, i < rides.length → rides.getD i zR ∈ rides := fun i hi => by
      rw [List.getD_eq_getElem?_getD, List.getElem?_eq_getElem hi]
      exact List.getElem_mem hi
    have hs' : sameT (bestStep C fr at_ rides kk ways) (tStep C fr at_ rides kk t) := step_same (fun i hi => hcf _ (hmem i (by omega)) _ (hmem kk (by omega))) (by omega) (by omega) (hn kk (Nat.le_refl _)) hs
    simp only [List.range'_succ, List.foldl_cons, arrFold]
    generalize hW : (List.range' (kk + 1) d).foldl (fun w q => bestStep C fr at_ rides q w) (bestStep C fr at_ rides kk ways) = W
    have hk : (W.getD kk none).isSome = (tStep C fr at_ rides kk t).getD kk false := by
      rw [← hs' kk, ← hW, steps_at _ _ kk (fun i hi => by simp [List.mem_range'] at hi; omega)]
    have ih := rel_all (C := C) (fr := fr) (at_ := at_) (to := to) hcf d (kk + 1) (bestStep C fr at_ rides kk ways) (tStep C fr at_ rides kk t) (planStep W rides to kk x) (arrStep (tStep C fr at_ rides kk t) (rides.getD kk zR) kk to o) (by omega) (by rw [step_len]; exact hw) (by rw [tStep_len]; exact ht) hs'
      (fun j hj => by rw [step_at (by omega)]; exact hn j (by omega)) (rel_step hk h)
    rw [hW] at ih
    exact ih
theorem rel_best {C fr at_ to : Int} {rides : List Ride} (hcf : ∀ a ∈ rides, ∀ b ∈ rides, canF C a b = folF C a b) : relO rides ((List.range' 0 rides.length).foldl (fun x j => planStep (bestW C fr at_ rides) rides to j x) (-1)) (arrF C fr at_ to rides) :=
  rel_all hcf rides.length 0 (List.replicate rides.length none) (List.replicate rides.length false) (-1) (0, false) (by omega) (by simp) (by simp) (fun j => by
    simp only [List.getD_eq_getElem?_getD, List.getElem?_replicate]
    split <;> rfl) (fun j _ => by
    simp only [List.getD_eq_getElem?_getD, List.getElem?_replicate]
    split <;> rfl) (.inl ⟨rfl, by omega⟩)
theorem good_of {S C : Int} {l : List Ride} (h0 : tabF S C l = 0) : (0 ≤ C ∧ C ≤ 1073741824) ∧ (∀ r ∈ l, ¬ rbad S r) ∧ (∀ a ∈ l, ∀ b ∈ l, canF C a b = folF C a b) := by
  have hC : 0 ≤ C ∧ C ≤ 1073741824 := by
    unfold tabF at h0; split at h0
    · cases h0
    · split at h0
      · cases h0
      · omega
  have hg : ∀ r ∈ l, ¬ rbad S r := by
    unfold tabF at h0; split at h0
    · cases h0
    · split at h0
      · cases h0
      · exact tabL_good h0
  exact ⟨hC, hg, fun a ha b hb => can_fol hC (hg a ha) (hg b hb)⟩
/-- Does one arrive in time? -/
def inTime (S C : Int) (l : List Ride) (a b by_ d : Int) : Prop := (arrF C a d b l).2 = true ∧ (arrF C a d b l).1 ≤ by_
instance (S C : Int) (l : List Ride) (a b by_ d : Int) : Decidable (inTime S C l a b by_ d) := by unfold inTime; infer_instance
theorem plan_time {S C : Int} {l : List Ride} {a b by_ d : Int} (h0 : faultF S C l a b d = 0) (hab : ¬ a = b) : ((planF S C l a b d).2.2.1 = 0 ∧ (planF S C l a b d).2.1 ≤ by_) ↔ inTime S C l a b by_ d := by
  have ht : tabF S C l = 0 := by
    unfold faultF at h0
    split at h0
    · assumption
    · exact h0
  obtain ⟨_, _, hcf⟩ := good_of ht
  have h := rel_best (C := C) (fr := a) (at_ := d) (to := b) hcf
  unfold planF inTime
  rw [if_pos h0, if_neg hab]
  unfold planEnd
  rcases h with ⟨h1, h2⟩ | ⟨h1, h2, h3⟩
  · rw [if_pos h2, h1]; simp
  · rw [if_neg (by omega), h1, h3]; simp
end Go.Proofs.Ytpbmlhlpfbcnbaa.Rw
