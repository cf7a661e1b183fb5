/- Timetables: Plan and All return what the reference says. No condition. -/
import Derived.Test.YtpbmlhlpfbcnbaaPlTimedPlansm
namespace Go.Proofs.Ytpbmlhlpfbcnbaa.Rw
open Go.Rx
set_option linter.unusedVariables false
set_option linter.unusedSimpArgs false
theorem fault1_ev (S C : Int) (l : List Ride) (a at_ : Int) : Ev (fun k => f16 k (S, (C, l)) at_ [a]) (valid1F S C l a at_, ()) := by
  simp only [f16, f16_entry_B]
  refine (f76_ev S C l).bind ?_
  have w1 : w64 1 = 1 := rfl
  unfold valid1F
  by_cases h0 : tabF S C l = 0
  · simp only [h0, if_true]
    refine Ev.off 3 (fun j => ?_)
    unfold badS
    by_cases h1 : a < 0
    · simp [f16_l0, f16_l0_B, f16_r5, f16_r5_B, f16_c6, f16_c6_B, h1, w1]
      simp [f16_r8, f16_r8_B, f16_c9, f16_c9_B]
    · by_cases h2 : S ≤ a
      · simp [f16_l0, f16_l0_B, f16_r5, f16_r5_B, f16_c6, f16_c6_B, h1, h2, w1]
        simp [f16_r8, f16_r8_B, f16_c9, f16_c9_B]
      · by_cases g2 : at_ < 0 <;> by_cases g3 : 1073741824 < at_ <;> simp [f16_l0, f16_l0_B, f16_r5, f16_r5_B, f16_c6, f16_c6_B, h1, h2, w1, g2, g3, f16_r8, f16_r8_B, f16_c9, f16_c9_B]
  · simp only [h0, if_false]
    refine Ev.off 3 (fun j => ?_)
    simp [f16_l0, f16_l0_B, f16_r5, f16_r5_B, f16_c6, f16_c6_B, h0, w1, f16_r8, f16_r8_B, f16_c9, f16_c9_B]
theorem equal_loop : ∀ (x p : List Int), (p ++ x).length ≤ 1073741824 → Ev2 (fun k n => f20_l0 k n (p ++ x) (p ++ x) ((p ++ x).length : Int) (p.length : Int)) (true, ())
  | [], p, hl => Ev2.step (g := fun _ _ => some (true, ())) (fun k n => by rw [f20_l0, f20_l0_B, if_neg (by simp)]) (Ev2.pure _)
  | a :: x, p, hl => by
    have h0 : (0 : Int) ≤ (p.length : Int) := by omega
    have h1 : (p.length : Int) < ((p ++ a :: x).length : Int) := by simp; omega
    have hw : w64 ((p.length : Int) + 1) = (((p ++ [a]).length : Nat) : Int) := by
      rw [w64_id (by omega) (by simp at hl; omega)]; simp
    have ih := equal_loop x (p ++ [a]) (by simpa using hl)
    rw [show p ++ [a] ++ x = p ++ a :: x by simp] at ih
    refine Ev2.step (fun k n => ?_) ih
    rw [f20_l0, f20_l0_B, if_pos h1, if_pos h0, if_pos h1, if_pos h0, if_pos h1, if_neg (by simp), hw]
theorem equal_ev (l : List Int) (hl : l.length ≤ 1073741824) : Ev (fun k => f20 k l l) (true, ()) := by
  have h := (equal_loop l [] (by simpa using hl)).diag
  refine Ev.of (fun k => ?_) h
  simp only [f20, f20_entry_B, not_true_eq_false, if_false]
  rfl
/-- All and the rides that a plan ends with. -/
theorem all_plan {S C : Int} {l : List Ride} {a at_ : Int} (h0 : tabF S C l = 0) (ha : 0 ≤ a) {s : Nat} (hs : (s : Int) < S) (hsa : (s : Int) ≠ a) :
    (allL S C l a at_).getD s 0 = if (List.range' 0 l.length).foldl (fun x j => planStep (bestW C a at_ l) l (s : Int) j x) (-1) < 0 then -1 else arrAt l ((List.range' 0 l.length).foldl (fun x j => planStep (bestW C a at_ l) l (s : Int) j x) (-1)).toNat := by
  obtain ⟨_, _, hcf⟩ := good_of h0
  have hr := rel_best (C := C) (fr := a) (at_ := at_) (to := (s : Int)) hcf
  generalize (List.range' 0 l.length).foldl (fun x j => planStep (bestW C a at_ l) l (s : Int) j x) (-1) = x at hr
  have hspec := fun by_ => all_spec (C := C) (l := l) (at_ := at_) h0 ha hs hsa by_
  have heq : ∀ by_, inTime S C l a (s : Int) by_ at_ ↔ (0 ≤ (allL S C l a at_).getD s 0 ∧ (allL S C l a at_).getD s 0 ≤ by_) := fun by_ => inTime_iff.trans (hspec by_).2.symm
  have hm1 := (hspec 0).1
  unfold inTime at heq
  rcases hr with ⟨q1, q2⟩ | ⟨q1, q2, q3⟩
  · rw [if_pos q2]
    have := heq ((allL S C l a at_).getD s 0)
    rw [q1] at this
    simp only [Bool.false_eq_true, false_and, false_iff] at this
    omega
  · rw [if_neg (by omega)]
    simp only [q1, q3, true_and] at heq
    have e1 := (heq (arrAt l x.toNat)).1 (Int.le_refl _)
    have e2 := (heq ((allL S C l a at_).getD s 0)).2 ⟨e1.1, Int.le_refl _⟩
    omega
theorem plans_loop (S C a at_ : Int) (l : List Ride) (h0 : tabF S C l = 0) (ha : 0 ≤ a ∧ a < S) : ∀ (d s : Nat), (s : Int) + d = S →
    Ev2 (fun k n => f3_l0 k n S C l (allL S C l a at_) a (s : Int) 0 (bestW C a at_ l) at_) (true, ())
  | 0, s, hd => by
    refine Ev2.step (g := fun _ _ => some (true, ())) (fun k n => ?_) (Ev2.pure _)
    have hl : ((allL S C l a at_).length : Int) = S := by rw [allL_len]; omega
    rw [f3_l0, f3_l0_B, if_neg (by omega), if_pos rfl, hl]
    simp [f3_r30, f3_r30_B]
  | d + 1, s, hd => by
    have hS := tabF_S h0
    have hl : ((allL S C l a at_).length : Int) = S := by rw [allL_len]; omega
    have hw : w64 ((s : Int) + 1) = ((s + 1 : Nat) : Int) := by rw [w64_id (by omega) (by omega)]; omega
    have h1 : (0 : Int) ≤ (s : Int) := by omega
    have hj := journey_ev S C (s : Int) l (bestW C a at_ l) (tabF_len h0) (okW_best C a at_ l) (neW_best C a at_ l)
    have ih := plans_loop S C a at_ l h0 ha d (s + 1) (by omega)
    have hall : (allL S C l a at_).getD s 0 = if (s : Int) = a then at_ else if (endJ (bestW C a at_ l) l ((List.range' 0 l.length).foldl (fun x j => planStep (bestW C a at_ l) l (s : Int) j x) (-1))).2.2.1 = true then (endJ (bestW C a at_ l) l ((List.range' 0 l.length).foldl (fun x j => planStep (bestW C a at_ l) l (s : Int) j x) (-1))).2.1 else -1 := by
      by_cases hsa : (s : Int) = a
      · rw [if_pos hsa]
        unfold allL
        rw [getD_set, if_pos ⟨by omega, by rw [allFold_len]; simp; omega⟩]
      · rw [if_neg hsa, all_plan h0 ha.1 (by omega) hsa]
        unfold endJ
        by_cases hx : (List.range' 0 l.length).foldl (fun x j => planStep (bestW C a at_ l) l (s : Int) j x) (-1) < 0
        · rw [if_pos hx, if_pos hx]; rfl
        · rw [if_neg hx, if_neg hx]; rfl
    generalize endJ (bestW C a at_ l) l ((List.range' 0 l.length).foldl (fun x j => planStep (bestW C a at_ l) l (s : Int) j x) (-1)) = E at hj hall
    refine Ev2.step (g := fun k n => (f17 k (S, (C, l)) (bestW C a at_ l) (s : Int)).bind fun r1 => f3_c24 k (fun y4_0 y4_1 y4_2 y83 x1 x107 x17 x18 x3 => f3_l0 k n y4_0 y4_1 y4_2 y83 x1 x107 x17 x18 x3) S C l (allL S C l a at_) a (s : Int) 0 (bestW C a at_ l) (if r1.2.2.1 = true then r1.2.1 else -1) at_) (fun k n => ?_) (hj.bind2 ?_)
    · rw [f3_l0, f3_l0_B, if_pos (by omega)]
      congr 1
      funext r1
      by_cases g : r1.2.2.1 = true <;> simp only [g, not_true_eq_false, not_false_eq_true, if_true, if_false, Bool.false_eq_true] <;> rfl
    · refine Ev2.of (fun k n => ?_) ih
      have hnl : ¬ ((allL S C l a at_).length : Int) ≤ (s : Int) := by omega
      have hlt : (s : Int) < ((allL S C l a at_).length : Int) := by omega
      simp only [f3_c24, f3_c24_B, f3_c26, f3_c26_B, f3_r27, f3_r27_B, if_neg hnl, if_pos h1, if_pos hlt, Int.toNat_natCast, hall, hw]
      by_cases hsa : (s : Int) = a
      · simp only [if_pos hsa, not_true_eq_false, decide_false, Bool.false_eq_true, if_false]
      · simp only [if_neg hsa, not_true_eq_false, decide_false, Bool.false_eq_true, if_false]
/-- The second half of the law. -/
theorem plans_tail (S C a at_ : Int) (l : List Ride) : Ev (fun k => f3_r12 k S C l a at_ false) (true, ()) := by
  simp only [f3_r12, f3_r12_B, Bool.false_eq_true, if_false]
  refine (all_ev S C l a at_).bind ((fault1_ev S C l a at_).bind ?_)
  unfold allF
  by_cases hv : valid1F S C l a at_ = 0
  · simp only [hv, if_true, not_true_eq_false, if_false, f3_c17, f3_c17_B]
    have h0 : tabF S C l = 0 := by
      unfold valid1F at hv
      split at hv
      · assumption
      · exact hv
    have ha : 0 ≤ a ∧ a < S := by
      unfold valid1F at hv
      rw [if_pos h0] at hv
      split at hv
      · cases hv
      · rename_i hb; unfold badS at hb; omega
    refine (lists_ev S C a at_ l (tabF_len h0) (good_of h0).2.2).bind ?_
    exact (plans_loop S C a at_ l h0 ha S.toNat 0 (by omega)).diag
  · simp only [hv, if_false, not_false_eq_true, if_true]
    exact Ev.of (fun k => by simp [f3_r17, f3_r17_B]) (Ev.pure _)
theorem plans_mid (S C a at_ n e arr : Int) (l : List Ride) (want : Option (List Int)) (w : List Int) (hw : w = slL true want) (hl : w.length ≤ 1000) : Ev (fun k => f3_c6 k S C l a n e e want n at_ w) (true, ()) := by
  subst hw
  simp only [f3_c6, f3_c6_B]
  refine (Ev.off 30 f19_true : Ev (fun k => f19 k) (true, ())).bind ?_
  simp only [not_true_eq_false, if_false]
  refine (equal_ev (slL true want) (by omega)).bind ?_
  simp only [not_true_eq_false, decide_false]
  exact plans_tail S C a at_ l
theorem plans_ev (S C : Int) (l : List Ride) (a b at_ : Int) : Ev (fun k => f3 k (S, (C, l)) a b at_) (true, ()) := by
  simp only [f3, f3_entry_B]
  refine (plan_ev S C l a b at_).bind ((fault_ev S C l a b at_).bind ?_)
  unfold planF
  by_cases h0 : faultF S C l a b at_ = 0
  · have ht : tabF S C l = 0 := by
      unfold faultF at h0; split at h0
      · assumption
      · exact h0
    simp only [h0, if_true]
    by_cases hab : a = b
    · simp only [if_pos hab, decide_eq_true hab, f3_r5, f3_r5_B, if_true]
      exact plans_mid S C a at_ at_ 0 0 l none [] rfl (by simp)
    · simp only [if_neg hab, decide_eq_false hab, f3_r5, f3_r5_B, if_true, Bool.false_eq_true, if_false]
      refine (lists_ev S C a at_ l (tabF_len ht) (good_of ht).2.2).bind ?_
      refine (journey_ev S C b l (bestW C a at_ l) (tabF_len ht) (okW_best C a at_ l) (neW_best C a at_ l)).bind ?_
      have hpf := planFold (ways := bestW C a at_ l) (rides := l) (to := b) l.length 0 (-1) (by omega) (.inl (by omega))
      generalize (List.range' 0 l.length).foldl (fun x j => planStep (bestW C a at_ l) l b j x) (-1) = x at hpf
      unfold endJ planEnd
      by_cases hx : x < 0
      · simp only [if_pos hx, Bool.false_eq_true, not_false_eq_true, if_true]
        exact plans_mid S C a at_ 0 17 0 l none [] rfl (by simp)
      · have hlen := okW_way (okW_best C a at_ l) x.toNat
        have hl4 := tabF_len ht
        have hxl := (hpf.resolve_left hx).1
        simp only [if_neg hx, not_true_eq_false, if_false]
        exact plans_mid S C a at_ _ 0 0 l ((bestW C a at_ l).getD x.toNat none) _ rfl (by omega)
  · simp only [h0, if_false, f3_r5, f3_r5_B, Bool.false_eq_true]
    exact plans_mid S C a at_ 0 (faultF S C l a b at_) 0 l none [] rfl (by simp)
/-- **Plan and All return what the reference says.** -/
theorem pure_TimedPlans : Pure_TimedPlans := by
  rintro ⟨⟨S, C, l⟩, a, b, at_, u⟩ hwf
  exact (plans_ev S C l a b at_).get
end Go.Proofs.Ytpbmlhlpfbcnbaa.Rw
