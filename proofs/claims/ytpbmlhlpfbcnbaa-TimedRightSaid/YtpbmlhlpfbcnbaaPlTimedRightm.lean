/- Timetables: the rides of a plan are right, they arrive when it says, and All says the same. No condition. -/
import Derived.Test.YtpbmlhlpfbcnbaaPlTimedRightl
namespace Go.Proofs.Ytpbmlhlpfbcnbaa.Rw
open Go.Rx
set_option linter.unusedVariables false
set_option linter.unusedSimpArgs false
theorem okL_snoc {F : Ride → Ride → Bool} {rides : List Ride} {fr at_ : Int} {x : Int} (hx : 0 ≤ x ∧ x < (rides.length : Int)) : ∀ (u : List Int) (p : Option Ride), okL F rides fr at_ p u = true →
    (match u.getLast?, p with
      | some y, _ => F (rides.getD y.toNat zR) (rides.getD x.toNat zR) = true
      | none, some q => F q (rides.getD x.toNat zR) = true
      | none, none => (rides.getD x.toNat zR).1 = fr ∧ at_ ≤ (rides.getD x.toNat zR).2.2.1) → okL F rides fr at_ p (u ++ [x]) = true
  | [], none, h, hl => by
    have hl : (rides.getD x.toNat zR).1 = fr ∧ at_ ≤ (rides.getD x.toNat zR).2.2.1 := hl
    simp only [List.nil_append, okL]
    rw [if_neg (by omega), if_neg (by omega)]
  | [], some q, h, hl => by
    have hl : F q (rides.getD x.toNat zR) = true := hl
    simp only [List.nil_append, okL]
    rw [if_neg (by omega), if_pos hl]
  | y :: u, p, h, hl => by
    have hl2 : match u.getLast?, (some (rides.getD y.toNat zR)) with
      | some z, _ => F (rides.getD z.toNat zR) (rides.getD x.toNat zR) = true
      | none, some q => F q (rides.getD x.toNat zR) = true
      | none, none => (rides.getD x.toNat zR).1 = fr ∧ at_ ≤ (rides.getD x.toNat zR).2.2.1 := by
      cases u with
      | nil => exact hl
      | cons z u =>
        rw [List.getLast?_cons_cons] at hl
        cases hz : (z :: u).getLast? with
        | none => simp at hz
        | some w => rw [hz] at hl; exact hl
    simp only [List.cons_append, okL] at h ⊢
    split at h
    · cases h
    · rename_i h1
      rw [if_neg h1]
      cases p with
      | none =>
        simp only at h ⊢
        split at h
        · cases h
        · rename_i h2
          rw [if_neg h2]
          exact okL_snoc hx u _ h hl2
      | some q =>
        simp only at h ⊢
        split at h
        · rename_i h2
          rw [if_pos h2]
          exact okL_snoc hx u _ h hl2
        · cases h
/-- Ways that are right, each to its ride. -/
def goodW (C fr at_ : Int) (rides : List Ride) (ways : Ways) : Prop := ∀ j u, ways.getD j none = some u → okL (folF C) rides fr at_ none u = true ∧ u.getLast? = some (j : Int)
theorem goodW_set {C fr at_ : Int} {rides : List Ride} {ways : Ways} (h : goodW C fr at_ rides ways) {kk : Nat} {w : List Int} (hw : okL (folF C) rides fr at_ none w = true ∧ w.getLast? = some (kk : Int)) : goodW C fr at_ rides (ways.set kk (some w)) := fun j u hu => by
  rw [getD_set] at hu
  split at hu
  · rename_i g
    cases hu
    rw [← g.1]; exact hw
  · exact h j u hu
theorem goodW_relax {C fr at_ : Int} {rides : List Ride} {kk i : Nat} (hk : kk < rides.length) {ways : Ways} (h : goodW C fr at_ rides ways) : goodW C fr at_ rides (relax C rides kk i ways) := by
  unfold relax
  split
  · exact h
  · rename_i u hu
    obtain ⟨h1, h2⟩ := h i u hu
    split
    · rename_i hf
      have hw : okL (folF C) rides fr at_ none (u ++ [(kk : Int)]) = true ∧ (u ++ [(kk : Int)]).getLast? = some (kk : Int) := by
        refine ⟨okL_snoc (by omega) u none h1 ?_, by simp⟩
        rw [h2]
        simpa using hf
      split
      · exact goodW_set h hw
      · split
        · exact goodW_set h hw
        · exact h
    · exact h
theorem goodW_relaxs {C fr at_ : Int} {rides : List Ride} {kk : Nat} (hk : kk < rides.length) : ∀ (l : List Nat) {ways : Ways}, goodW C fr at_ rides ways → goodW C fr at_ rides (l.foldl (fun w j => relax C rides kk j w) ways)
  | [], _, h => h
  | i :: l, _, h => goodW_relaxs hk l (goodW_relax hk h)
theorem goodW_step {C fr at_ : Int} {rides : List Ride} {kk : Nat} (hk : kk < rides.length) {ways : Ways} (h : goodW C fr at_ rides ways) : goodW C fr at_ rides (bestStep C fr at_ rides kk ways) := by
  unfold bestStep
  split
  · rename_i hc
    refine goodW_set h ⟨?_, rfl⟩
    simp only [okL]
    rw [if_neg (by omega), if_neg (by simp only [Int.toNat_natCast]; omega)]
  · exact goodW_relaxs hk _ h
theorem goodW_steps {C fr at_ : Int} {rides : List Ride} : ∀ (l : List Nat) {ways : Ways}, (∀ i ∈ l, i < rides.length) → goodW C fr at_ rides ways → goodW C fr at_ rides (l.foldl (fun w kk => bestStep C fr at_ rides kk w) ways)
  | [], _, _, h => h
  | i :: l, _, hl, h => goodW_steps l (fun j hj => hl j (List.mem_cons_of_mem _ hj)) (goodW_step (hl i (List.mem_cons_self ..)) h)
theorem goodW_best (C fr at_ : Int) (rides : List Ride) : goodW C fr at_ rides (bestW C fr at_ rides) :=
  goodW_steps _ (fun i hi => by simp [List.mem_range'] at hi; omega) (fun j u hu => by
    simp only [List.getD_eq_getElem?_getD, List.getElem?_replicate] at hu
    split at hu <;> simp at hu)
/-- The ride that a plan ends with. -/
theorem planFold {ways : Ways} {rides : List Ride} {to : Int} : ∀ (d i : Nat) (x : Int), i + d = rides.length → (x < 0 ∨ ((0 ≤ x ∧ x < (rides.length : Int)) ∧ (ways.getD x.toNat none).isSome = true ∧ (rides.getD x.toNat zR).2.1 = to)) →
    ((List.range' i d).foldl (fun x j => planStep ways rides to j x) x < 0 ∨ ((0 ≤ (List.range' i d).foldl (fun x j => planStep ways rides to j x) x ∧ (List.range' i d).foldl (fun x j => planStep ways rides to j x) x < (rides.length : Int)) ∧
      (ways.getD ((List.range' i d).foldl (fun x j => planStep ways rides to j x) x).toNat none).isSome = true ∧ (rides.getD ((List.range' i d).foldl (fun x j => planStep ways rides to j x) x).toNat zR).2.1 = to))
  | 0, i, x, hid, h => h
  | d + 1, i, x, hid, h => by
    simp only [List.range'_succ, List.foldl_cons]
    refine planFold d (i + 1) (planStep ways rides to i x) (by omega) ?_
    unfold planStep
    by_cases c1 : (rides.getD i zR).2.1 = to
    · rw [if_neg (not_not_intro c1)]
      cases hu : ways.getD i none with
      | none => simp only [isNilO, if_true]; exact h
      | some u =>
        have hi : (0 ≤ (i : Int) ∧ (i : Int) < (rides.length : Int)) ∧ (ways.getD (i : Int).toNat none).isSome = true ∧ (rides.getD (i : Int).toNat zR).2.1 = to := by
          rw [Int.toNat_natCast, hu]; exact ⟨by omega, rfl, c1⟩
        simp only [isNilO, Bool.false_eq_true, if_false]
        split
        · exact .inr hi
        · split
          · exact .inr hi
          · split
            · split
              · exact .inr hi
              · exact h
            · exact h
    · rw [if_pos c1]; exact h
theorem fault_0' {S C : Int} {l : List Ride} {a b d : Int} (ht : tabF S C l = 0) (ha : 0 ≤ a ∧ a < S) (hb : 0 ≤ b ∧ b < S) (hd : 0 ≤ d ∧ d ≤ 1073741824) : faultF S C l a b d = 0 := by
  unfold faultF
  rw [if_pos ht, if_neg (show ¬ badS S a by unfold badS; omega), if_neg (show ¬ badS S b by unfold badS; omega), if_neg (by omega)]
theorem right_law (a0 : List Int) (a1 a2 a3 : Int) : Ev (fun k => f4 k a0 a1 a2 a3) (true, ()) := by
  obtain ⟨S, C, l, ht, hS1, hS2, h0, hd⟩ := table_ev a0
  have hplan : Ev (fun k => f24 k) (true, ()) := Ev.off 30 f24_true
  have e1 := fun k => below_eq k a1 S (by omega) (by omega)
  have e2 := fun k => below_eq k a2 S (by omega) (by omega)
  have e3 := fun k => below_eq k a3 60 (by omega) (by omega)
  have b1 := below_lt (x := a1) (n := S) (by omega)
  have b2 := below_lt (x := a2) (n := S) (by omega)
  have b3 := below_lt (x := a3) (n := 60) (by omega)
  simp only [f4, f4_entry_B]
  refine ht.bind ?_
  simp only [e1, e2, e3, Option.bind_some]
  generalize belowF a1 S = a at b1
  generalize belowF a2 S = b at b2
  generalize belowF a3 60 = n at b3
  have hf := fault_0' (d := n) h0 b1 b2 (by omega)
  have hv : allF S C l a n = (allL S C l a n, 0, ()) := by
    have hz : valid1F S C l a n = 0 := by
      unfold valid1F
      rw [if_pos h0, if_neg (show ¬ badS S a by unfold badS; omega), if_neg (by omega)]
    unfold allF
    rw [if_pos hz]
  refine (plan_ev S C l a b n).bind ((all_ev S C l a n).bind (hplan.bind ?_))
  rw [hv]
  have hl1 : ((allL S C l a n).length : Int) = S := by rw [allL_len]; omega
  simp only [hl1, not_true_eq_false, if_false, decide_false, f4_r5, f4_r5_B, Bool.false_eq_true, if_pos b2.1, if_pos b2.2]
  by_cases hab : a = b
  · -- from a stop to itself
    have hpl : planF S C l a b n = ([], n, 0, ()) := by unfold planF; rw [if_pos hf, if_pos hab]
    have hall : (allL S C l a n).getD b.toNat 0 = n := by
      unfold allL
      rw [getD_set, if_pos ⟨by omega, by rw [allFold_len]; simp; omega⟩]
    have hr := right_good (at_ := n) (way := []) h0 b1 (by simp)
    simp only [hpl, not_true_eq_false, if_false, f4_c8, f4_c8_B, hl1, if_pos b2.1, if_pos b2.2, hall]
    refine hr.bind ?_
    simp only [okL, not_true_eq_false, decide_false, f4_r9, f4_r9_B, Bool.false_eq_true, if_false, if_pos hab]
    exact Ev.of (fun k => by simp [f4_r12, f4_r12_B]) (Ev.pure _)
  · have hspec := fun by_ => all_spec (C := C) (l := l) (at_ := n) h0 b1.1 (s := b.toNat) (by omega) (by omega) by_
    have htime := fun by_ => (plan_time (by_ := by_) hf hab).trans inTime_iff
    have hb' : ((b.toNat : Nat) : Int) = b := by omega
    simp only [hb'] at hspec
    have heq : ∀ by_, ((planF S C l a b n).2.2.1 = 0 ∧ (planF S C l a b n).2.1 ≤ by_) ↔ (0 ≤ (allL S C l a n).getD b.toNat 0 ∧ (allL S C l a n).getD b.toNat 0 ≤ by_) := fun by_ => (htime by_).trans (hspec by_).2.symm
    have hm1 := (hspec 0).1
    have hpf := planFold (ways := bestW C a n l) (rides := l) (to := b) l.length 0 (-1) (by omega) (.inl (by omega))
    have hpl : planF S C l a b n = planEnd (bestW C a n l) l ((List.range' 0 l.length).foldl (fun x j => planStep (bestW C a n l) l b j x) (-1)) := by
      unfold planF; rw [if_pos hf, if_neg hab]
    generalize (List.range' 0 l.length).foldl (fun x j => planStep (bestW C a n l) l b j x) (-1) = x at hpf hpl
    unfold planEnd at hpl
    rcases hpf with hx | ⟨hx, hu, hto⟩
    · -- no way
      rw [if_pos hx] at hpl
      rw [hpl] at heq ⊢
      have : (allL S C l a n).getD b.toNat 0 = -1 := by
        have := heq ((allL S C l a n).getD b.toNat 0)
        simp only [show ¬ ((17 : Int) = 0) by omega, false_and, false_iff] at this
        omega
      simp only [show ¬ ((17 : Int) = 0) by omega, not_false_eq_true, if_true, this]
      exact Ev.of (fun k => by simp [f4_r8, f4_r8_B]) (Ev.pure _)
    · -- a way
      rw [if_neg (by omega)] at hpl
      obtain ⟨u, hu⟩ := Option.isSome_iff_exists.1 hu
      obtain ⟨g1, g2⟩ := goodW_best C a n l _ _ hu
      have hway : wayAt (bestW C a n l) x.toNat = u := by unfold wayAt; rw [hu]; rfl
      rw [hway] at hpl
      have hul : u.length ≤ x.toNat + 1 := (okW_best C a n l).2 _ _ hu
      have hl400 := tabF_len h0
      rw [hpl] at heq ⊢
      simp only [true_and] at heq
      have hA : (allL S C l a n).getD b.toNat 0 = arrAt l x.toNat := by
        have q1 := (heq (arrAt l x.toNat)).1 (Int.le_refl _)
        have q2 := (heq ((allL S C l a n).getD b.toNat 0)).2 ⟨q1.1, Int.le_refl _⟩
        omega
      have hr := right_good (at_ := n) (way := u) h0 b1 (by omega)
      rw [g1] at hr
      obtain ⟨p, rfl⟩ : ∃ p, u = p ++ [x] := by
        rcases List.eq_nil_or_concat u with rfl | ⟨p, y, rfl⟩
        · simp at g2
        · refine ⟨p, ?_⟩
          simp at g2
          have hy : y = x := by omega
          rw [hy]; exact List.concat_eq_append
      have w1 : w64 ((((p ++ [x]).length : Nat) : Int) - 1) = (p.length : Int) := by
        rw [w64_id (by simp <;> omega) (by simp at hul ⊢ <;> omega)]; simp
      have w2 : mx2 true (p.length : Int) 0 = (p.length : Int) := by rw [mx2_max]; omega
      have w3 : (p ++ [x]).drop ((p.length : Int)).toNat = [x] := by simp
      have w4 : (0 : Int) ≤ (p.length : Int) := by omega
      have w5 : (p.length : Int) ≤ (((p ++ [x]).length : Nat) : Int) := by simp; omega
      have w6 : ([x] : List Int).getD (0 : Int).toNat 0 = x := rfl
      have w7 : ((([x] : List Int).length : Nat) : Int) = 1 := rfl
      have hrx : ∀ z : Ride, l.getD x.toNat z = l.getD x.toNat zR := fun z => by
        have : x.toNat < l.length := by omega
        simp [List.getD_eq_getElem?_getD, List.getElem?_eq_getElem this]
      have hne : ¬ (((p ++ [x]).length : Nat) : Int) = 0 := by simp; omega
      simp only [not_true_eq_false, if_false, f4_c8, f4_c8_B, hl1, if_pos b2.1, if_pos b2.2, hA]
      refine hr.bind ?_
      simp only [not_true_eq_false, decide_false, f4_r9, f4_r9_B, Bool.false_eq_true, if_false, if_neg hab, f4_c12, f4_c12_B, w1, w2, w3, w6, w7, if_pos w4, if_pos w5, if_pos hx.1, if_pos hx.2, hrx, if_pos hto, if_true, show (0 : Int) < 1 by omega]
      exact Ev.of (fun k => by simp [f4_r14, f4_r14_B, arrAt]) (Ev.pure _)
/-- **The rides of a plan are right, they arrive when it says, and All says the same.** -/
theorem pure_TimedRight : Pure_TimedRight := by
  rintro ⟨a0, a1, a2, a3, u⟩ hwf
  exact (right_law a0 a1 a2 a3).get
end Go.Proofs.Ytpbmlhlpfbcnbaa.Rw
