/- Timetables: All of the program. No condition. -/
import Derived.Test.YtpbmlhlpfbcnbaaPlTimedPlansi
namespace Go.Proofs.Ytpbmlhlpfbcnbaa.Rw
open Go.Rx
set_option linter.unusedVariables false
set_option linter.unusedSimpArgs false
theorem best_reach_from {C fr at_ : Int} {rides : List Ride} (hcf : ∀ a ∈ rides, ∀ b ∈ rides, canF C a b = folF C a b) : ∀ (d kk : Nat) (ways : Ways) (t : List Bool), kk + d = rides.length → ways.length = rides.length → t.length = rides.length → sameT ways t → (∀ j, kk ≤ j → ways.getD j none = none) →
    (∀ j, j < kk → (t.getD j false = true ↔ Reach C fr at_ rides j)) → ∀ j, j < rides.length → ((((List.range' kk d).foldl (fun w q => bestStep C fr at_ rides q w) ways).getD j none).isSome = true ↔ Reach C fr at_ rides j)
  | 0, kk, ways, t, hid, hw, ht, hs, hn, hr, j, hj => by
    rw [show (List.range' kk 0).foldl (fun w q => bestStep C fr at_ rides q w) ways = ways from rfl, hs j]
    exact hr j (by omega)
  | d + 1, kk, ways, t, hid, hw, ht, hs, hn, hr, j, hj => by
    have hmem : ∀ i, i < rides.length → rides.getD i zR ∈ rides := fun i hi => by
      rw [List.getD_eq_getElem?_getD, List.getElem?_eq_getElem hi]
      exact List.getElem_mem hi
    have hs' : sameT (bestStep C fr at_ rides kk ways) (tStep C fr at_ rides kk t) := step_same (fun i hi => hcf _ (hmem i (by omega)) _ (hmem kk (by omega))) (by omega) (by omega) (hn kk (Nat.le_refl _)) hs
    have hkr := tStep_reach (C := C) (fr := fr) (at_ := at_) (rides := rides) (kk := kk) (t := t) (by omega) hr
    simp only [List.range'_succ, List.foldl_cons]
    refine best_reach_from hcf d (kk + 1) _ (tStep C fr at_ rides kk t) (by omega) (by rw [step_len]; exact hw) (by rw [tStep_len]; exact ht) hs' (fun j hj => by rw [step_at (by omega)]; exact hn j (by omega)) (fun j hj => ?_) j hj
    by_cases g : j = kk
    · subst g; exact hkr
    · rw [tStep_at g]; exact hr j (by omega)
/-- A ride has a way just if it can be reached. -/
theorem best_reach {C fr at_ : Int} {rides : List Ride} (hcf : ∀ a ∈ rides, ∀ b ∈ rides, canF C a b = folF C a b) {j : Nat} (hj : j < rides.length) : ((bestW C fr at_ rides).getD j none).isSome = true ↔ Reach C fr at_ rides j :=
  best_reach_from hcf rides.length 0 (List.replicate rides.length none) (List.replicate rides.length false) (by omega) (by simp) (by simp) (fun j => by
    simp only [List.getD_eq_getElem?_getD, List.getElem?_replicate]
    split <;> rfl) (fun j _ => by
    simp only [List.getD_eq_getElem?_getD, List.getElem?_replicate]
    split <;> rfl) (fun j hj => by omega) j hj

def allStep (ways : Ways) (rides : List Ride) (j : Nat) (out : List Int) : List Int :=
  if isNilO (ways.getD j none) = true then out else if out.getD (rides.getD j zR).2.1.toNat 0 < 0 ∨ arrAt rides j < out.getD (rides.getD j zR).2.1.toNat 0 then out.set (rides.getD j zR).2.1.toNat (arrAt rides j) else out
theorem allStep_len {ways : Ways} {rides : List Ride} {j : Nat} {out : List Int} : (allStep ways rides j out).length = out.length := by
  unfold allStep; split
  · rfl
  · split
    · simp
    · rfl
theorem allFold_len {ways : Ways} {rides : List Ride} : ∀ (l : List Nat) (out : List Int), (l.foldl (fun o j => allStep ways rides j o) out).length = out.length
  | [], _ => rfl
  | j :: l, out => by rw [List.foldl_cons, allFold_len l, allStep_len]
theorem all_loop (S C fr at_ : Int) (rides : List Ride) (ways : Ways) (hr : rides.length ≤ 400) (hw : ways.length = rides.length) (hg : ∀ r ∈ rides, ¬ rbad S r) (hfr : 0 ≤ fr ∧ fr < S) (hS : S ≤ 1000) : ∀ (d i : Nat) (out : List Int), i + d = rides.length → (out.length : Int) = S →
    Ev2 (fun k n => f21_l0 k n out S C rides ways fr at_ (ways.length : Int) (i : Int)) (((List.range' i d).foldl (fun o j => allStep ways rides j o) out).set fr.toNat at_, 0, ())
  | 0, i, out, hid, hl => by
    refine Ev2.step (g := fun _ _ => some (out.set fr.toNat at_, 0, ())) (fun k n => ?_) (Ev2.pure _)
    rw [f21_l0, f21_l0_B, if_neg (by omega), if_pos hfr.1, if_pos (by omega)]
  | d + 1, i, out, hid, hl => by
    have h1 : (i : Int) < (ways.length : Int) := by omega
    have h2 : (i : Int) < (rides.length : Int) := by omega
    have h0 : (0 : Int) ≤ (i : Int) := by omega
    have hwi : w64 ((i : Int) + 1) = ((i + 1 : Nat) : Int) := by rw [w64_id (by omega) (by omega)]; omega
    have hrd : ∀ z : Ride, rides.getD i z = rides.getD i zR := fun z => by
      have : i < rides.length := by omega
      simp [List.getD_eq_getElem?_getD, List.getElem?_eq_getElem this]
    have hmem : rides.getD i zR ∈ rides := by
      rw [List.getD_eq_getElem?_getD, List.getElem?_eq_getElem (by omega)]
      exact List.getElem_mem _
    have hgr := hg _ hmem
    unfold rbad at hgr
    have ht0 : 0 ≤ (rides.getD i zR).2.1 := by omega
    have ht1 : (rides.getD i zR).2.1 < (out.length : Int) := by omega
    simp only [List.range'_succ, List.foldl_cons]
    have ih := all_loop S C fr at_ rides ways hr hw hg hfr hS d (i + 1) (allStep ways rides i out) (by omega) (by rw [allStep_len]; exact hl)
    refine Ev2.step (fun k n => ?_) ih
    rw [f21_l0, f21_l0_B, if_pos h1, if_pos h0, if_pos h1, if_pos h0, if_pos h2]
    simp only [Int.toNat_natCast, hrd, if_pos ht0, if_pos ht1, f21_r11, f21_r11_B, f21_c12, f21_c12_B, hwi, allStep, arrAt]
    by_cases c1 : isNilO (ways.getD i none) = true
    · simp only [c1, not_true_eq_false, if_false, if_true, Bool.false_eq_true]
    · by_cases c2 : out.getD (rides.getD i zR).2.1.toNat 0 < 0
      · simp only [c1, c2, not_false_eq_true, if_true, true_or, if_false, decide_true, Bool.false_eq_true]
      · by_cases c3 : (rides.getD i zR).2.2.2.1 < out.getD (rides.getD i zR).2.1.toNat 0 <;> simp only [c1, c2, c3, not_false_eq_true, if_true, or_true, or_false, if_false, decide_true, decide_false, Bool.false_eq_true]
def valid1F (S C : Int) (l : List Ride) (a at_ : Int) : Int := if tabF S C l = 0 then (if badS S a then 1 else if at_ < 0 ∨ 1073741824 < at_ then 1 else 0) else tabF S C l
theorem valid1_ev (S C : Int) (l : List Ride) (a : Int) : Ev (fun k => f74 k (S, (C, l)) [a]) (if tabF S C l = 0 then (if badS S a then 1 else 0) else tabF S C l, ()) := by
  simp only [f74, f74_entry_B]
  refine (f82_ev S C l).bind ?_
  have w1 : w64 1 = 1 := rfl
  by_cases h0 : tabF S C l = 0
  · simp only [h0, not_true_eq_false, if_false, if_true]
    refine Ev.off 3 (fun j => ?_)
    unfold badS
    by_cases h1 : a < 0
    · simp [f74_l0, f74_l0_B, f74_r7, f74_r7_B, h1]
    · by_cases h2 : S ≤ a <;> simp [f74_l0, f74_l0_B, f74_r7, f74_r7_B, h1, h2, w1]
  · simp only [h0, not_false_eq_true, if_true, if_false]
    exact Ev.pure _
def allL (S C : Int) (l : List Ride) (a at_ : Int) : List Int := ((List.range' 0 l.length).foldl (fun o j => allStep (bestW C a at_ l) l j o) (List.replicate S.toNat (-1))).set a.toNat at_
def allF (S C : Int) (l : List Ride) (a at_ : Int) : List Int × Int × Unit := if valid1F S C l a at_ = 0 then (allL S C l a at_, 0, ()) else ([], valid1F S C l a at_, ())
theorem tabF_S {S C : Int} {l : List Ride} (h : tabF S C l = 0) : 0 ≤ S ∧ S ≤ 200 := by
  unfold tabF at h
  split at h
  · cases h
  · omega
theorem best_len {C fr at_ : Int} {rides : List Ride} : (bestW C fr at_ rides).length = rides.length := (okW_best C fr at_ rides).1
theorem all_ev (S C : Int) (l : List Ride) (a at_ : Int) : Ev (fun k => f21 k (S, (C, l)) a at_) (allF S C l a at_) := by
  simp only [f21, f21_entry_B]
  refine (valid1_ev S C l a).bind ?_
  unfold allF valid1F
  by_cases h0 : tabF S C l = 0
  · simp only [h0, if_true]
    by_cases h1 : badS S a
    · simp only [h1, if_true]
      exact Ev.of (fun k => by simp) (Ev.pure _)
    · simp only [h1, if_false, not_true_eq_false]
      by_cases h3 : at_ < 0 ∨ 1073741824 < at_
      · simp only [if_pos h3]
        refine Ev.of (fun k => ?_) (Ev.pure _)
        by_cases h4 : at_ < 0
        · simp [h4, f21_r4, f21_r4_B]
        · have h5 : 1073741824 < at_ := by omega
          simp [h4, h5, f21_r4, f21_r4_B]
      · have h4 : ¬ at_ < 0 := by omega
        have h5 : ¬ 1073741824 < at_ := by omega
        simp only [if_neg h3, if_neg h4, f21_r4, f21_r4_B, if_true, decide_eq_false h5, Bool.false_eq_true, if_false]
        have hS := tabF_S h0
        obtain ⟨N, rfl⟩ : ∃ N : Nat, S = (N : Int) := ⟨S.toNat, by omega⟩
        refine (repeat_ev (-1) N (by omega)).bind ((best_ev (N : Int) C a at_ l (tabF_len h0)).bind ?_)
        unfold badS at h1
        exact (all_loop (N : Int) C a at_ l (bestW C a at_ l) (tabF_len h0) best_len (good_of h0).2.1 (by omega) (by omega) l.length 0 (List.replicate N (-1)) (by omega) (by simp)).diag
  · simp only [h0, if_false]
    exact Ev.of (fun k => by simp [h0]) (Ev.pure _)
/-! ### What All says of a stop -/
theorem allFold_spec {C fr at_ : Int} {rides : List Ride} {ways : Ways} {S : Int} (hg : ∀ r ∈ rides, ¬ rbad S r) (by_ : Int) (s : Nat) : ∀ (d i : Nat) (out : List Int), i + d = rides.length → (out.length : Int) = S → s < out.length → -1 ≤ out.getD s 0 →
    -1 ≤ ((List.range' i d).foldl (fun o j => allStep ways rides j o) out).getD s 0 ∧
    ((0 ≤ ((List.range' i d).foldl (fun o j => allStep ways rides j o) out).getD s 0 ∧ ((List.range' i d).foldl (fun o j => allStep ways rides j o) out).getD s 0 ≤ by_) ↔
      (0 ≤ out.getD s 0 ∧ out.getD s 0 ≤ by_) ∨ ∃ j, i ≤ j ∧ j < rides.length ∧ (ways.getD j none).isSome = true ∧ (rides.getD j zR).2.1 = (s : Int) ∧ arrAt rides j ≤ by_)
  | 0, i, out, hid, hl, hs, h => ⟨h, ⟨.inl, fun g => g.elim id (fun g => by obtain ⟨j, _, _, _⟩ := g; omega)⟩⟩
  | d + 1, i, out, hid, hl, hs, h => by
    simp only [List.range'_succ, List.foldl_cons]
    have hmem : rides.getD i zR ∈ rides := by
      rw [List.getD_eq_getElem?_getD, List.getElem?_eq_getElem (by omega)]
      exact List.getElem_mem _
    have hgr := hg _ hmem
    unfold rbad at hgr
    have harr : 0 ≤ arrAt rides i := by unfold arrAt; omega
    have hst : -1 ≤ (allStep ways rides i out).getD s 0 ∧ ((0 ≤ (allStep ways rides i out).getD s 0 ∧ (allStep ways rides i out).getD s 0 ≤ by_) ↔ (0 ≤ out.getD s 0 ∧ out.getD s 0 ≤ by_) ∨ ((ways.getD i none).isSome = true ∧ (rides.getD i zR).2.1 = (s : Int) ∧ arrAt rides i ≤ by_)) := by
      unfold allStep
      cases hu : ways.getD i none with
      | none => simp [isNilO]; exact h
      | some u =>
        simp only [isNilO, Bool.false_eq_true, if_false, Option.isSome_some, true_and]
        by_cases hto : (rides.getD i zR).2.1 = (s : Int)
        · rw [hto, Int.toNat_natCast]
          by_cases hc : out.getD s 0 < 0 ∨ arrAt rides i < out.getD s 0
          · rw [if_pos hc, getD_set, if_pos ⟨rfl, hs⟩]
            refine ⟨by omega, ?_⟩
            constructor
            · intro g; exact .inr ⟨rfl, g.2⟩
            · rintro (g | ⟨_, g⟩)
              · exact ⟨harr, by omega⟩
              · exact ⟨harr, g⟩
          · rw [if_neg hc]
            refine ⟨h, ?_⟩
            constructor
            · exact .inl
            · rintro (g | ⟨_, g⟩)
              · exact g
              · exact ⟨by omega, by omega⟩
        · have hne : (rides.getD i zR).2.1.toNat ≠ s := by omega
          have e : (if out.getD (rides.getD i zR).2.1.toNat 0 < 0 ∨ arrAt rides i < out.getD (rides.getD i zR).2.1.toNat 0 then out.set (rides.getD i zR).2.1.toNat (arrAt rides i) else out).getD s 0 = out.getD s 0 := by
            split
            · rw [getD_set, if_neg (fun z => hne z.1)]
            · rfl
          rw [e]
          exact ⟨h, ⟨.inl, fun g => g.elim id (fun g => (hto g.1).elim)⟩⟩
    obtain ⟨k1, k2⟩ := allFold_spec (C := C) (fr := fr) (at_ := at_) (ways := ways) hg by_ s d (i + 1) (allStep ways rides i out) (by omega) (by rw [allStep_len]; exact hl) (by rw [allStep_len]; exact hs) hst.1
    refine ⟨k1, k2.trans ?_⟩
    rw [hst.2]
    constructor
    · rintro ((g | g) | ⟨j, j1, j2, j3⟩)
      · exact .inl g
      · exact .inr ⟨i, Nat.le_refl _, by omega, g⟩
      · exact .inr ⟨j, by omega, j2, j3⟩
    · rintro (g | ⟨j, j1, j2, j3⟩)
      · exact .inl (.inl g)
      · by_cases e : j = i
        · subst e; exact .inl (.inr j3)
        · exact .inr ⟨j, by omega, j2, j3⟩
theorem allL_len {S C : Int} {l : List Ride} {a at_ : Int} : (allL S C l a at_).length = S.toNat := by
  unfold allL; rw [List.length_set, allFold_len]; simp
/-- When one is at a stop by All, in time. -/
theorem all_spec {S C : Int} {l : List Ride} {a at_ : Int} (h0 : tabF S C l = 0) (ha : 0 ≤ a) {s : Nat} (hs : (s : Int) < S) (hsa : (s : Int) ≠ a) (by_ : Int) : -1 ≤ (allL S C l a at_).getD s 0 ∧
    ((0 ≤ (allL S C l a at_).getD s 0 ∧ (allL S C l a at_).getD s 0 ≤ by_) ↔ ∃ j, j < l.length ∧ Reach C a at_ l j ∧ (l.getD j zR).2.1 = (s : Int) ∧ arrAt l j ≤ by_) := by
  obtain ⟨_, hg, hcf⟩ := good_of h0
  have hS := tabF_S h0
  have e : (allL S C l a at_).getD s 0 = ((List.range' 0 l.length).foldl (fun o j => allStep (bestW C a at_ l) l j o) (List.replicate S.toNat (-1))).getD s 0 := by
    unfold allL; rw [getD_set, if_neg (fun z => by omega)]
  have hm1 : (List.replicate S.toNat (-1 : Int)).getD s 0 = -1 := by
    simp only [List.getD_eq_getElem?_getD, List.getElem?_replicate]
    rw [if_pos (by omega)]; rfl
  obtain ⟨k1, k2⟩ := allFold_spec (C := C) (fr := a) (at_ := at_) (ways := bestW C a at_ l) hg by_ s l.length 0 (List.replicate S.toNat (-1)) (by omega) (by simp; omega) (by simp; omega) (by rw [hm1]; omega)
  rw [e]
  refine ⟨k1, k2.trans ?_⟩
  rw [hm1]
  constructor
  · rintro (g | ⟨j, _, j2, j3, j4⟩)
    · omega
    · exact ⟨j, j2, (best_reach hcf j2).1 j3, j4⟩
  · rintro ⟨j, j2, j3, j4⟩
    exact .inr ⟨j, by omega, j2, (best_reach hcf j2).2 j3, j4⟩
end Go.Proofs.Ytpbmlhlpfbcnbaa.Rw
