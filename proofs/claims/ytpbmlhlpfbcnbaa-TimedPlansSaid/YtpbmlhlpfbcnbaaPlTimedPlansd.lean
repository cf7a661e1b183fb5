/- Timetables: Plan of the program. No condition. -/
import Derived.Test.YtpbmlhlpfbcnbaaPlTimedPlansc
namespace Go.Proofs.Ytpbmlhlpfbcnbaa.Rw
open Go.Rx
set_option linter.unusedVariables false
set_option linter.unusedSimpArgs false
def wayAt (ways : Ways) (j : Nat) : List Int := slL true (ways.getD j none)
def arrAt (rides : List Ride) (j : Nat) : Int := (rides.getD j zR).2.2.2.1
/-- The better one of two rides to end with. -/
def planStep (ways : Ways) (rides : List Ride) (to : Int) (j : Nat) (x : Int) : Int :=
  if ¬ (rides.getD j zR).2.1 = to then x else if isNilO (ways.getD j none) = true then x else if x < 0 then (j : Int) else if arrAt rides j < arrAt rides x.toNat then (j : Int)
  else if arrAt rides j = arrAt rides x.toNat then (if lessW (wayAt ways j) (wayAt ways x.toNat) = true then (j : Int) else x) else x
def planEnd (ways : Ways) (rides : List Ride) (x : Int) : List Int × Int × Int × Unit := if x < 0 then ([], 0, 17, ()) else (wayAt ways x.toNat, arrAt rides x.toNat, 0, ())
theorem okW_way {rides : List Ride} {ways : Ways} (h : okW rides ways) (j : Nat) : (wayAt ways j).length ≤ j + 1 := by
  unfold wayAt
  cases hu : ways.getD j none with
  | none => simp [slL]
  | some u => exact h.2 j u hu
theorem plan_loop (S C to : Int) (rides : List Ride) (ways : Ways) (hr : rides.length ≤ 400) (hok : okW rides ways) : ∀ (d i : Nat) (x : Int), i + d = rides.length → (x < 0 ∨ (0 ≤ x ∧ x < (i : Int))) →
    Ev2 (fun k n => f15_l0 k n ways S C rides x to (rides.length : Int) (i : Int)) (planEnd ways rides ((List.range' i d).foldl (fun x j => planStep ways rides to j x) x))
  | 0, i, x, hid, hx => by
    refine Ev2.step (g := fun _ _ => some (planEnd ways rides x)) (fun k n => ?_) (Ev2.pure _)
    rw [f15_l0, f15_l0_B, if_neg (by omega)]
    unfold planEnd
    by_cases h : x < 0
    · rw [if_pos h, if_pos h]
    · have h1 : 0 ≤ x := by omega
      have h2 : x < (ways.length : Int) := by rw [hok.1]; omega
      have h3 : x < (rides.length : Int) := by omega
      rw [if_neg h, if_neg h, if_pos h1, if_pos h2, if_pos h1, if_pos h3]
      rfl
  | d + 1, i, x, hid, hx => by
    have h1 : (i : Int) < (rides.length : Int) := by omega
    have h0 : (0 : Int) ≤ (i : Int) := by omega
    have h2 : (i : Int) < (ways.length : Int) := by rw [hok.1]; omega
    have hw : w64 ((i : Int) + 1) = ((i + 1 : Nat) : Int) := by rw [w64_id (by omega) (by omega)]; omega
    simp only [List.range'_succ, List.foldl_cons]
    have ih := fun y (hy : y = planStep ways rides to i x) (h : y < 0 ∨ (0 ≤ y ∧ y < ((i + 1 : Nat) : Int))) => plan_loop S C to rides ways hr hok d (i + 1) y (by omega) h
    have hst : planStep ways rides to i x = x ∨ planStep ways rides to i x = (i : Int) := by
      unfold planStep
      repeat' split
      all_goals first | exact .inl rfl | exact .inr rfl
    have ih := ih _ rfl (by rcases hst with e | e <;> rw [e] <;> omega)
    have hrd : ∀ z : Ride, rides.getD i z = rides.getD i zR := fun z => by
      have : i < rides.length := by omega
      simp [List.getD_eq_getElem?_getD, List.getElem?_eq_getElem this]
    have hl0 := okW_way hok i
    have hl1 : ((wayAt ways i).length : Int) ≤ 1073741824 := by omega
    have open1 : ∀ k n, f15_l0 k (n + 1) ways S C rides x to (rides.length : Int) (i : Int) = if ¬ (rides.getD i zR).2.1 = to then f15_l0 k n ways S C rides x to (rides.length : Int) ((i + 1 : Nat) : Int) else if isNilO (ways.getD i none) = true then f15_l0 k n ways S C rides x to (rides.length : Int) ((i + 1 : Nat) : Int)
        else f15_r13 k (fun y37 y4_0 y4_1 y4_2 x13 x2 x40 x41 => f15_l0 k n y37 y4_0 y4_1 y4_2 x13 x2 x40 x41) (rides.getD i zR).1 (rides.getD i zR).2.1 (rides.getD i zR).2.2.1 (rides.getD i zR).2.2.2.1 (rides.getD i zR).2.2.2.2 ways S C rides x (i : Int) to (rides.length : Int) false := fun k n => by
      rw [f15_l0, f15_l0_B, if_pos h1, if_pos h0, if_pos h1]
      simp only [Int.toNat_natCast, hrd, if_pos h0, if_pos h2]
      by_cases c1 : (rides.getD i zR).2.1 = to
      · simp only [c1, not_true_eq_false, if_false]
        by_cases c2 : isNilO (ways.getD i none) = true
        · simp only [c2, if_true, decide_true]
          simp [f15_r13, f15_r13_B, f15_b1, f15_b1_B, hw]
        · simp only [c2, Bool.false_eq_true, if_false, decide_false]
      · simp only [c1, not_false_eq_true, if_true]
        simp [f15_r13, f15_r13_B, f15_b1, f15_b1_B, hw]
    have nx : ∀ (b : Bool) k n, f15_r14 k (fun y37 y4_0 y4_1 y4_2 x13 x2 x40 x41 => f15_l0 k n y37 y4_0 y4_1 y4_2 x13 x2 x40 x41) ways S C rides b x (i : Int) to (rides.length : Int) = f15_l0 k n ways S C rides (if b = true then (i : Int) else x) to (rides.length : Int) ((i + 1 : Nat) : Int) := fun b k n => by
      simp only [f15_r14, f15_r14_B, f15_c15, f15_c15_B, f15_b1, f15_b1_B, hw]
      split <;> rfl
    by_cases c1 : (rides.getD i zR).2.1 = to
    · by_cases c2 : isNilO (ways.getD i none) = true
      · have e : planStep ways rides to i x = x := by unfold planStep; rw [if_neg (not_not_intro c1), if_pos c2]
        rw [e] at ih ⊢
        refine Ev2.step (fun k n => ?_) ih
        rw [open1, if_neg (not_not_intro c1), if_pos c2]
      · by_cases c3 : x < 0
        · have e : planStep ways rides to i x = (i : Int) := by unfold planStep; rw [if_neg (not_not_intro c1), if_neg c2, if_pos c3]
          rw [e] at ih ⊢
          refine Ev2.step (fun k n => ?_) ih
          rw [open1, if_neg (not_not_intro c1), if_neg c2]
          simp only [f15_r13, f15_r13_B, Bool.false_eq_true, if_false, if_pos c3, nx, if_true]
        · have hx0 : 0 ≤ x := by omega
          have hx1 : x < (rides.length : Int) := by omega
          have hx2 : x < (ways.length : Int) := by rw [hok.1]; omega
          have hrx : ∀ z : Ride, rides.getD x.toNat z = rides.getD x.toNat zR := fun z => by
            have : x.toNat < rides.length := by omega
            simp [List.getD_eq_getElem?_getD, List.getElem?_eq_getElem this]
          have e0 : planStep ways rides to i x = if arrAt rides i < arrAt rides x.toNat then (i : Int) else if arrAt rides i = arrAt rides x.toNat then (if lessW (wayAt ways i) (wayAt ways x.toNat) = true then (i : Int) else x) else x := by unfold planStep; rw [if_neg (not_not_intro c1), if_neg c2, if_neg c3]
          have open2 : ∀ k n, f15_l0 k (n + 1) ways S C rides x to (rides.length : Int) (i : Int) = if arrAt rides i < arrAt rides x.toNat then f15_l0 k n ways S C rides (i : Int) to (rides.length : Int) ((i + 1 : Nat) : Int)
              else if arrAt rides i = arrAt rides x.toNat then (if ((wayAt ways i).length : Int) < ((wayAt ways x.toNat).length : Int) then f15_l0 k n ways S C rides (i : Int) to (rides.length : Int) ((i + 1 : Nat) : Int)
                else if ((wayAt ways i).length : Int) = ((wayAt ways x.toNat).length : Int) then (f68 k (wayAt ways i) (wayAt ways x.toNat)).bind fun r1 => f15_l0 k n ways S C rides (if decide (r1.1 < 0) = true then (i : Int) else x) to (rides.length : Int) ((i + 1 : Nat) : Int)
                else f15_l0 k n ways S C rides x to (rides.length : Int) ((i + 1 : Nat) : Int))
              else f15_l0 k n ways S C rides x to (rides.length : Int) ((i + 1 : Nat) : Int) := fun k n => by
            rw [open1, if_neg (not_not_intro c1), if_neg c2]
            simp only [f15_r13, f15_r13_B, Bool.false_eq_true, if_false, if_neg c3, if_pos hx0, if_pos hx1, if_pos hx2, if_pos h0, if_pos h2, nx, if_true, Int.toNat_natCast, hrx]
            rfl
          rw [e0] at ih ⊢
          by_cases c4 : arrAt rides i < arrAt rides x.toNat
          · rw [if_pos c4] at ih ⊢
            refine Ev2.step (fun k n => ?_) ih
            rw [open2, if_pos c4]
          · rw [if_neg c4] at ih ⊢
            by_cases c5 : arrAt rides i = arrAt rides x.toNat
            · rw [if_pos c5] at ih ⊢
              by_cases c6 : ((wayAt ways i).length : Int) < ((wayAt ways x.toNat).length : Int)
              · have el : lessW (wayAt ways i) (wayAt ways x.toNat) = true := by unfold lessW; rw [decide_eq_true c6]; rfl
                rw [el] at ih ⊢
                refine Ev2.step (fun k n => ?_) ih
                rw [open2, if_neg c4, if_pos c5, if_pos c6, if_pos rfl]
              · by_cases c7 : ((wayAt ways i).length : Int) = ((wayAt ways x.toNat).length : Int)
                · have el : lessW (wayAt ways i) (wayAt ways x.toNat) = decide (cmpI (wayAt ways i) (wayAt ways x.toNat) < 0) := by unfold lessW; rw [decide_eq_false c6, decide_eq_true c7]; simp
                  rw [el] at ih ⊢
                  exact Ev2.step (fun k n => by rw [open2, if_neg c4, if_pos c5, if_neg c6, if_pos c7]) ((cmp_ev _ _ hl1).bind2 ih)
                · have el : lessW (wayAt ways i) (wayAt ways x.toNat) = false := by unfold lessW; rw [decide_eq_false c6, decide_eq_false c7]; rfl
                  rw [el] at ih ⊢
                  refine Ev2.step (fun k n => ?_) ih
                  rw [open2, if_neg c4, if_pos c5, if_neg c6, if_neg c7]
                  rfl
            · rw [if_neg c5] at ih ⊢
              refine Ev2.step (fun k n => ?_) ih
              rw [open2, if_neg c4, if_neg c5]
    · have e : planStep ways rides to i x = x := by unfold planStep; rw [if_pos c1]
      rw [e] at ih ⊢
      refine Ev2.step (fun k n => ?_) ih
      rw [open1, if_pos c1]

/-- What is wrong with a timetable, two stops and a time. -/
def badS (S a : Int) : Prop := a < 0 ∨ S ≤ a
instance (S a : Int) : Decidable (badS S a) := by unfold badS; infer_instance
def validF (S C : Int) (l : List Ride) (a b : Int) : Int := if tabF S C l = 0 then (if badS S a then 1 else if badS S b then 1 else 0) else tabF S C l
def faultF (S C : Int) (l : List Ride) (a b at_ : Int) : Int := if tabF S C l = 0 then (if badS S a then 1 else if badS S b then 1 else if at_ < 0 ∨ 1073741824 < at_ then 1 else 0) else tabF S C l
theorem valid_ev (S C : Int) (l : List Ride) (a b : Int) : Ev (fun k => f74 k (S, (C, l)) [a, b]) (validF S C l a b, ()) := by
  simp only [f74, f74_entry_B]
  refine (f82_ev S C l).bind ?_
  have w1 : w64 1 = 1 := rfl
  have w2 : w64 2 = 2 := rfl
  unfold validF
  by_cases h0 : tabF S C l = 0
  · simp only [h0, not_true_eq_false, if_false, if_true]
    refine Ev.off 3 (fun j => ?_)
    unfold badS
    by_cases h1 : a < 0
    · simp [f74_l0, f74_l0_B, f74_r7, f74_r7_B, h1]
    · by_cases h2 : S ≤ a
      · simp [f74_l0, f74_l0_B, f74_r7, f74_r7_B, h1, h2]
      · by_cases h3 : b < 0
        · simp [f74_l0, f74_l0_B, f74_r7, f74_r7_B, h1, h2, h3, w1, w2]
        · by_cases h4 : S ≤ b <;> simp [f74_l0, f74_l0_B, f74_r7, f74_r7_B, h1, h2, h3, h4, w1, w2]
  · simp only [h0, not_false_eq_true, if_true, if_false]
    exact Ev.pure _
def planF (S C : Int) (l : List Ride) (a b at_ : Int) : List Int × Int × Int × Unit :=
  if faultF S C l a b at_ = 0 then (if a = b then ([], at_, 0, ()) else planEnd (bestW C a at_ l) l ((List.range' 0 l.length).foldl (fun x j => planStep (bestW C a at_ l) l b j x) (-1))) else ([], 0, faultF S C l a b at_, ())
theorem okW_best (C fr at_ : Int) (rides : List Ride) : okW rides (bestW C fr at_ rides) := by
  have key : ∀ (L : List Nat) (ways : Ways), okW rides ways → okW rides (L.foldl (fun w kk => bestStep C fr at_ rides kk w) ways) := fun L => by
    induction L with
    | nil => exact fun _ h => h
    | cons i L ih => exact fun ways h => ih _ (okW_step h)
  exact key _ _ ⟨by simp, fun i u hu => by
    simp only [List.getD_eq_getElem?_getD, List.getElem?_replicate] at hu
    split at hu <;> simp at hu⟩
theorem tabF_len {S C : Int} {l : List Ride} (h : tabF S C l = 0) : l.length ≤ 400 := by
  unfold tabF at h
  split at h
  · cases h
  · omega
theorem plan_ev (S C : Int) (l : List Ride) (a b at_ : Int) : Ev (fun k => f15 k (S, (C, l)) a b at_) (planF S C l a b at_) := by
  simp only [f15, f15_entry_B]
  refine (valid_ev S C l a b).bind ?_
  unfold planF faultF validF
  by_cases h0 : tabF S C l = 0
  · simp only [h0, if_true]
    by_cases h1 : badS S a
    · simp only [h1, if_true]
      exact Ev.of (fun k => by simp) (Ev.pure _)
    · simp only [h1, if_false]
      by_cases h2 : badS S b
      · simp only [h2, if_true]
        exact Ev.of (fun k => by simp) (Ev.pure _)
      · simp only [h2, if_false, not_true_eq_false]
        by_cases h3 : at_ < 0 ∨ 1073741824 < at_
        · simp only [if_pos h3]
          refine Ev.of (fun k => ?_) (Ev.pure _)
          by_cases h4 : at_ < 0
          · simp [h4, f15_r4, f15_r4_B]
          · have h5 : 1073741824 < at_ := by omega
            simp [h4, h5, f15_r4, f15_r4_B]
        · have h4 : ¬ at_ < 0 := by omega
          have h5 : ¬ 1073741824 < at_ := by omega
          simp only [if_neg h3, if_neg h4, f15_r4, f15_r4_B, if_true, decide_eq_false h5, Bool.false_eq_true, if_false]
          by_cases h6 : a = b
          · simp only [if_pos h6]
            exact Ev.pure _
          · simp only [if_neg h6]
            refine (best_ev S C a at_ l (tabF_len h0)).bind ?_
            exact (plan_loop S C b l (bestW C a at_ l) (tabF_len h0) (okW_best C a at_ l) l.length 0 (-1) (by omega) (.inl (by omega))).diag
  · simp only [h0, if_false]
    exact Ev.of (fun k => by simp [h0]) (Ev.pure _)
end Go.Proofs.Ytpbmlhlpfbcnbaa.Rw
