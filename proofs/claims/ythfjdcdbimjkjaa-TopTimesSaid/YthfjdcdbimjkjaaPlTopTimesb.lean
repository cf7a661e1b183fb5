/- Plain laws for TopTimes. No condition. -/
import Derived.Test.YthfjdcdbimjkjaaPlTopTimesa
namespace Go.Proofs.Ythfjdcdbimjkjaa.Rw
open Go.Rx
set_option linter.unusedVariables false
set_option linter.unusedSimpArgs false
/-! ### best -/
abbrev Ways := List (Option (List Int))
def lessW (w v : List Int) : Bool := decide ((w.length : Int) < (v.length : Int)) || (decide ((w.length : Int) = (v.length : Int)) && decide (cmpI w v < 0))
/-- The way to the ride kk over the ride i, if it is better. -/
def relax (C : Int) (rides : List Ride) (kk i : Nat) (ways : Ways) : Ways :=
  match ways.getD i none with
  | none => ways
  | some u => if folF C (rides.getD i zR) (rides.getD kk zR) = true then
      match ways.getD kk none with
      | none => ways.set kk (some (u ++ [(kk : Int)]))
      | some v => if lessW (u ++ [(kk : Int)]) v = true then ways.set kk (some (u ++ [(kk : Int)])) else ways
    else ways
def okW (rides : List Ride) (ways : Ways) : Prop := ways.length = rides.length ∧ ∀ i u, ways.getD i none = some u → u.length ≤ i + 1
theorem getD_set {α : Type} (l : List α) (i j : Nat) (x z : α) : (l.set i x).getD j z = if i = j ∧ i < l.length then x else l.getD j z := by
  simp only [List.getD_eq_getElem?_getD, List.getElem?_set]
  by_cases h : i = j
  · subst h
    by_cases h2 : i < l.length
    · simp [h2]
    · simp [h2, List.getElem?_eq_none (show l.length ≤ i by omega)]
  · simp [h]
theorem okW_set {rides : List Ride} {ways : Ways} (h : okW rides ways) {kk : Nat} {w : List Int} (hw : w.length ≤ kk + 1) : okW rides (ways.set kk (some w)) := by
  refine ⟨by simp [h.1], fun i u hu => ?_⟩
  rw [getD_set] at hu
  split at hu
  · rename_i hi
    cases hu
    omega
  · exact h.2 i u hu
theorem okW_relax {C : Int} {rides : List Ride} {kk i : Nat} (hi : i < kk) {ways : Ways} (h : okW rides ways) : okW rides (relax C rides kk i ways) := by
  unfold relax
  split
  · exact h
  · rename_i u hu
    have hl := h.2 i u hu
    have hl2 : (u ++ [(kk : Int)]).length ≤ kk + 1 := by simp; omega
    split
    · split
      · exact okW_set h hl2
      · split
        · exact okW_set h hl2
        · exact h
    · exact h
theorem f80x (k : Nat) (S C : Int) (l : List Ride) (a b : Ride) : f136 k (S, (C, l)) a b = some (folF C a b, ()) := f136_eq' k S C l a b
theorem best_r12 {rl2 : Ways → Int → Int → List Ride → Int → Int → Int → Int → Int → Int → Int → Int → Int → Int → Option (Ways × Unit)} {RL : Ways → Int → Int → List Ride → Int → Int → Int → Int → Option (Ways × Unit)} (k : Nat) (S C fr at_ L : Int) (rides : List Ride) (kk i : Nat) (r : Ride) (ways : Ways) (w : List Int) (b : Bool) (hw : w.isEmpty = false) (hk : (kk : Int) < (ways.length : Int)) (hi : i ≤ 1000) :
    f70_r12 k rl2 RL ways S C rides w r.1 r.2.1 r.2.2.1 r.2.2.2.1 r.2.2.2.2 fr b L (kk : Int) at_ (i : Int) = rl2 (if b = true then ways.set kk (some w) else ways) S C rides r.1 r.2.1 r.2.2.1 r.2.2.2.1 r.2.2.2.2 fr L (kk : Int) at_ ((i + 1 : Nat) : Int) := by
  have e : w64 ((i : Int) + 1) = ((i + 1 : Nat) : Int) := by rw [w64_id (by omega) (by omega)]; omega
  have hk0 : (0 : Int) ≤ (kk : Int) := by omega
  simp only [f70_r12, f70_r12_B, f70_c13, f70_c13_B, f70_b3, f70_b3_B, e, if_pos hk, if_pos hk0, if_pos hw, Int.toNat_natCast]
  split <;> rfl
theorem best_inner {RL : Nat → Nat → Ways → Int → Int → List Ride → Int → Int → Int → Int → Option (Ways × Unit)} {res : Ways × Unit} (S C fr at_ L : Int) (rides : List Ride) (kk : Nat) (hkk : kk < rides.length) (hr : rides.length ≤ 400) (r : Ride) (hrk : rides.getD kk zR = r) :
    ∀ (d i : Nat) (ways : Ways), i + d = kk → okW rides ways → Ev2 (fun k n => RL k n ((List.range' i d).foldl (fun w j => relax C rides kk j w) ways) S C rides fr L ((kk : Int) + 1) at_) res →
      Ev3 (fun k n m => f70_l2 k (RL k n) m ways S C rides r.1 r.2.1 r.2.2.1 r.2.2.2.1 r.2.2.2.2 fr L (kk : Int) at_ (i : Int)) res
  | 0, i, ways, hid, hok, hfin => by
    refine Ev3.step (g := fun k n m => RL k n ways S C rides fr L ((kk : Int) + 1) at_) (fun k n m => ?_) (Ev2.three (by simpa using hfin))
    rw [f70_l2, f70_l2_B, if_neg (by omega)]
    simp only [f70_b1, f70_b1_B]
    rw [w64_id (by omega) (by omega)]
  | d + 1, i, ways, hid, hok, hfin => by
    have hi1 : (i : Int) < (kk : Int) := by omega
    have hi0 : (0 : Int) ≤ (i : Int) := by omega
    have hi2 : (i : Int) < (ways.length : Int) := by rw [hok.1]; omega
    have hi3 : (i : Int) < (rides.length : Int) := by omega
    have hk0 : (0 : Int) ≤ (kk : Int) := by omega
    have hk2 : (kk : Int) < (ways.length : Int) := by rw [hok.1]; omega
    have hw : w64 ((i : Int) + 1) = ((i + 1 : Nat) : Int) := by rw [w64_id (by omega) (by omega)]; omega
    have ih := fun ways' hok' h => best_inner (RL := RL) (res := res) S C fr at_ L rides kk hkk hr r hrk d (i + 1) ways' (by omega) hok' h
    simp only [List.range'_succ, List.foldl_cons] at hfin
    have ih := ih (relax C rides kk i ways) (okW_relax (by omega) hok) hfin
    cases hu : ways.getD i none with
    | none =>
      have e : relax C rides kk i ways = ways := by unfold relax; rw [hu]
      rw [e] at ih
      refine Ev3.step (fun k n m => ?_) ih
      rw [f70_l2, f70_l2_B, if_pos hi1, if_pos hi0, if_pos hi2, Int.toNat_natCast, hu]
      simp [isNilO, f70_r10, f70_r10_B, f70_b3, f70_b3_B, hw]
    | some u =>
      have hul := hok.2 i u hu
      have hul2 : (u.length : Int) ≤ 1073741824 := by omega
      have hwl : ((u ++ [(kk : Int)]).length : Int) ≤ 1073741824 := by simp; omega
      have hwe : (u ++ [(kk : Int)]).isEmpty = false := by simp
      have hb : (u.length + 1) * 8 ≤ 140737488355328 := by omega
      have hrd : ∀ z : Ride, rides.getD i z = rides.getD i zR := fun z => by
        have : i < rides.length := by omega
        simp [List.getD_eq_getElem?_getD, List.getElem?_eq_getElem this]
      have open1 : ∀ k n m, f70_l2 k (RL k n) (m + 1) ways S C rides r.1 r.2.1 r.2.2.1 r.2.2.2.1 r.2.2.2.2 fr L (kk : Int) at_ (i : Int) =
          f70_r10 k (fun y15 y3_0 y3_1 y3_2 y9_0 y9_1 y9_2 y9_3 y9_4 x1 x18 x19 x2 x40 => f70_l2 k (RL k n) m y15 y3_0 y3_1 y3_2 y9_0 y9_1 y9_2 y9_3 y9_4 x1 x18 x19 x2 x40) (RL k n) ways S C rides r.1 r.2.1 r.2.2.1 r.2.2.2.1 r.2.2.2.2 fr (i : Int) L (kk : Int) at_ (decide (¬ folF C (rides.getD i zR) r = true)) := fun k n m => by
        rw [f70_l2, f70_l2_B, if_pos hi1, if_pos hi0, if_pos hi2, Int.toNat_natCast, hu]
        simp only [isNilO, Bool.false_eq_true, if_false, if_pos hi0, if_pos hi3, hrd, f80x, eta5, Option.bind_some]
      cases hf : folF C (rides.getD i zR) r with
      | false =>
        have e : relax C rides kk i ways = ways := by unfold relax; rw [hu, hrk]; simp only [hf, Bool.false_eq_true, if_false]
        rw [e] at ih
        refine Ev3.step (fun k n m => ?_) ih
        rw [open1, hf]
        simp [f70_r10, f70_r10_B, f70_b3, f70_b3_B, hw]
      | true =>
        have nx : ∀ (b : Bool) k n m, f70_r12 k (fun y15 y3_0 y3_1 y3_2 y9_0 y9_1 y9_2 y9_3 y9_4 x1 x18 x19 x2 x40 => f70_l2 k (RL k n) m y15 y3_0 y3_1 y3_2 y9_0 y9_1 y9_2 y9_3 y9_4 x1 x18 x19 x2 x40) (RL k n) ways S C rides (u ++ [(kk : Int)]) r.1 r.2.1 r.2.2.1 r.2.2.2.1 r.2.2.2.2 fr b L (kk : Int) at_ (i : Int) =
            f70_l2 k (RL k n) m (if b = true then ways.set kk (some (u ++ [(kk : Int)])) else ways) S C rides r.1 r.2.1 r.2.2.1 r.2.2.2.1 r.2.2.2.2 fr L (kk : Int) at_ ((i + 1 : Nat) : Int) := fun b k n m => best_r12 k S C fr at_ L rides kk i r ways _ b hwe hk2 (by omega)
        cases hv : ways.getD kk none with
        | none =>
          have e : relax C rides kk i ways = ways.set kk (some (u ++ [(kk : Int)])) := by unfold relax; rw [hu, hrk]; simp only [hf, if_true, hv]
          rw [e] at ih
          refine Ev3.step (fun k n m => ?_) ih
          rw [open1, hf]
          simp only [f70_r10, f70_r10_B, not_true_eq_false, decide_false, Bool.false_eq_true, if_false, if_pos hi0, if_pos hi2, Int.toNat_natCast, hu, slL, clone_eq k u hul2, Option.bind_some, if_pos hb, if_pos hk0, if_pos hk2, hv, isNilO, if_true, nx]
        | some v =>
          have e0 : relax C rides kk i ways = if lessW (u ++ [(kk : Int)]) v = true then ways.set kk (some (u ++ [(kk : Int)])) else ways := by unfold relax; rw [hu, hrk]; simp only [hf, if_true, hv]
          rw [e0] at ih
          have open2 : ∀ k n m, f70_l2 k (RL k n) (m + 1) ways S C rides r.1 r.2.1 r.2.2.1 r.2.2.2.1 r.2.2.2.2 fr L (kk : Int) at_ (i : Int) =
              if ((u ++ [(kk : Int)]).length : Int) < (v.length : Int) then f70_l2 k (RL k n) m (ways.set kk (some (u ++ [(kk : Int)]))) S C rides r.1 r.2.1 r.2.2.1 r.2.2.2.1 r.2.2.2.2 fr L (kk : Int) at_ ((i + 1 : Nat) : Int)
              else if ((u ++ [(kk : Int)]).length : Int) = (v.length : Int) then (f110 k (u ++ [(kk : Int)]) v).bind fun r2 => f70_l2 k (RL k n) m (if decide (r2.1 < 0) = true then ways.set kk (some (u ++ [(kk : Int)])) else ways) S C rides r.1 r.2.1 r.2.2.1 r.2.2.2.1 r.2.2.2.2 fr L (kk : Int) at_ ((i + 1 : Nat) : Int)
              else f70_l2 k (RL k n) m ways S C rides r.1 r.2.1 r.2.2.1 r.2.2.2.1 r.2.2.2.2 fr L (kk : Int) at_ ((i + 1 : Nat) : Int) := fun k n m => by
            rw [open1, hf]
            simp only [f70_r10, f70_r10_B, not_true_eq_false, decide_false, Bool.false_eq_true, if_false, if_pos hi0, if_pos hi2, Int.toNat_natCast, hu, slL, clone_eq k u hul2, Option.bind_some, if_pos hb, if_pos hk0, if_pos hk2, hv, isNilO, if_true, nx]
          by_cases c1 : ((u ++ [(kk : Int)]).length : Int) < (v.length : Int)
          · have el : lessW (u ++ [(kk : Int)]) v = true := by unfold lessW; rw [decide_eq_true c1]; rfl
            rw [el] at ih
            refine Ev3.step (fun k n m => ?_) ih
            rw [open2, if_pos c1, if_pos rfl]
          · by_cases c2 : ((u ++ [(kk : Int)]).length : Int) = (v.length : Int)
            · have el : lessW (u ++ [(kk : Int)]) v = decide (cmpI (u ++ [(kk : Int)]) v < 0) := by unfold lessW; rw [decide_eq_false c1, decide_eq_true c2]; simp
              rw [el] at ih
              refine Ev3.step (fun k n m => by rw [open2, if_neg c1, if_pos c2]) ((cmp_ev (u ++ [(kk : Int)]) v hwl).bind3 ih)
            · have el : lessW (u ++ [(kk : Int)]) v = false := by unfold lessW; rw [decide_eq_false c1, decide_eq_false c2]; rfl
              rw [el] at ih
              refine Ev3.step (fun k n m => ?_) ih
              rw [open2, if_neg c1, if_neg c2]
              rfl
def bestStep (C fr at_ : Int) (rides : List Ride) (kk : Nat) (ways : Ways) : Ways :=
  if (rides.getD kk zR).1 = fr ∧ at_ ≤ (rides.getD kk zR).2.2.1 then ways.set kk (some [(kk : Int)]) else (List.range' 0 kk).foldl (fun w j => relax C rides kk j w) ways
def bestW (C fr at_ : Int) (rides : List Ride) : Ways := (List.range' 0 rides.length).foldl (fun w kk => bestStep C fr at_ rides kk w) (List.replicate rides.length none)
theorem okW_fold {C : Int} {rides : List Ride} {kk : Nat} : ∀ (l : List Nat) (ways : Ways), (∀ i ∈ l, i < kk) → okW rides ways → okW rides (l.foldl (fun w j => relax C rides kk j w) ways)
  | [], _, _, h => h
  | i :: l, ways, hl, h => okW_fold l _ (fun j hj => hl j (List.mem_cons_of_mem _ hj)) (okW_relax (hl i (List.mem_cons_self ..)) h)
theorem okW_step {C fr at_ : Int} {rides : List Ride} {kk : Nat} {ways : Ways} (h : okW rides ways) : okW rides (bestStep C fr at_ rides kk ways) := by
  unfold bestStep
  split
  · exact okW_set h (by simp)
  · exact okW_fold _ _ (fun i hi => by simp [List.mem_range'] at hi; omega) h
theorem best_outer (S C fr at_ : Int) (rides : List Ride) (hr : rides.length ≤ 400) : ∀ (d kk : Nat) (ways : Ways), kk + d = rides.length → okW rides ways →
    Ev2 (fun k n => f70_l0 k n ways S C rides fr (rides.length : Int) (kk : Int) at_) ((List.range' kk d).foldl (fun w kk => bestStep C fr at_ rides kk w) ways, ())
  | 0, kk, ways, hid, hok => Ev2.step (g := fun _ _ => some (ways, ())) (fun k n => by rw [f70_l0, f70_l0_B, if_neg (by omega)]) (Ev2.pure _)
  | d + 1, kk, ways, hid, hok => by
    have h1 : (kk : Int) < (rides.length : Int) := by omega
    have h0 : (0 : Int) ≤ (kk : Int) := by omega
    have h2 : (kk : Int) < (ways.length : Int) := by rw [hok.1]; omega
    have hw : w64 ((kk : Int) + 1) = ((kk + 1 : Nat) : Int) := by rw [w64_id (by omega) (by omega)]; omega
    have hrd : ∀ z : Ride, rides.getD kk z = rides.getD kk zR := fun z => by
      have : kk < rides.length := by omega
      simp [List.getD_eq_getElem?_getD, List.getElem?_eq_getElem this]
    have ih := best_outer S C fr at_ rides hr d (kk + 1) (bestStep C fr at_ rides kk ways) (by omega) (okW_step hok)
    simp only [List.range'_succ, List.foldl_cons]
    generalize hrk : rides.getD kk zR = r at hrd
    by_cases hc : r.1 = fr ∧ at_ ≤ r.2.2.1
    · have e : bestStep C fr at_ rides kk ways = ways.set kk (some [(kk : Int)]) := by unfold bestStep; rw [hrk, if_pos hc]
      rw [e] at ih ⊢
      refine Ev2.step (fun k n => ?_) ih
      rw [f70_l0, f70_l0_B, if_pos h1, if_pos h0, if_pos h1]
      simp only [Int.toNat_natCast, hrd, hc.1, if_true, decide_eq_true hc.2, f70_r5, f70_r5_B, if_pos h0, if_pos h2, List.isEmpty_cons, f70_b1, f70_b1_B, hw]
    · have e : bestStep C fr at_ rides kk ways = (List.range' 0 kk).foldl (fun w j => relax C rides kk j w) ways := by unfold bestStep; rw [hrk, if_neg hc]
      rw [e] at ih ⊢
      have hin := (best_inner (RL := fun k n => f70_l0 k n) S C fr at_ (rides.length : Int) rides kk (by omega) hr r hrk kk 0 ways (by omega) hok (by simpa using ih)).in_
      refine Ev2.step (fun k n => ?_) hin
      rw [f70_l0, f70_l0_B, if_pos h1, if_pos h0, if_pos h1]
      simp only [Int.toNat_natCast, hrd, f70_r5, f70_r5_B]
      by_cases c1 : r.1 = fr
      · have c2 : ¬ at_ ≤ r.2.2.1 := fun h => hc ⟨c1, h⟩
        simp only [c1, c2, if_true, decide_false, Bool.false_eq_true, if_false]
        rfl
      · simp only [c1, Bool.false_eq_true, if_false]
        rfl
theorem best_ev (S C fr at_ : Int) (rides : List Ride) (hr : rides.length ≤ 400) : Ev (fun k => f70 k (S, (C, rides)) fr at_) (bestW C fr at_ rides, ()) := by
  have h := (best_outer S C fr at_ rides hr rides.length 0 (List.replicate rides.length none) (by omega) ⟨by simp, fun i u hu => by
    simp only [List.getD_eq_getElem?_getD, List.getElem?_replicate] at hu
    split at hu <;> simp at hu⟩).diag
  refine Ev.of (fun k => ?_) h
  simp only [f70, f70_entry_B]
  rw [if_pos (by omega), if_pos (by omega)]
  simp
end Go.Proofs.Ythfjdcdbimjkjaa.Rw

namespace Go.Proofs.Ythfjdcdbimjkjaa.Rw
open Go.Rx
set_option linter.unusedVariables false
set_option linter.unusedSimpArgs false
def arrAt (rides : List Ride) (j : Nat) : Int := (rides.getD j zR).2.2.2.1
/-- What is wrong with a timetable, two stops and a time. -/
def badS (S a : Int) : Prop := a < 0 ∨ S ≤ a
instance (S a : Int) : Decidable (badS S a) := by unfold badS; infer_instance
theorem okW_best (C fr at_ : Int) (rides : List Ride) : okW rides (bestW C fr at_ rides) := by
  have key : ∀ (L : List Nat) (ways : Ways), okW rides ways → okW rides (L.foldl (fun w kk => bestStep C fr at_ rides kk w) ways) := fun L => by
    induction L with
    | nil => exact fun _ h => h
    | cons i L ih => exact fun ways h => ih _ (okW_step h)
  exact key _ _ ⟨by simp, fun i u hu => by
    simp only [List.getD_eq_getElem?_getD, List.getElem?_replicate] at hu
    split at hu <;> simp at hu⟩
theorem tabF_len {S C : Int} {l : List Ride} (h : tabF S C l = 0) : l.length ≤ 400 := by
  unfold tabF at h
  split at h
  · cases h
  · omega
end Go.Proofs.Ythfjdcdbimjkjaa.Rw

namespace Go.Proofs.Ythfjdcdbimjkjaa.Rw
open Go.Rx
set_option linter.unusedVariables false
set_option linter.unusedSimpArgs false
def tIn (C : Int) (rides : List Ride) (kk i : Nat) (t : List Bool) : List Bool := t.set kk (t.getD kk false || (t.getD i false && canF C (rides.getD i zR) (rides.getD kk zR)))
def tStep (C fr at_ : Int) (rides : List Ride) (kk : Nat) (t : List Bool) : List Bool :=
  (List.range' 0 kk).foldl (fun t j => tIn C rides kk j t) (t.set kk (decide ((rides.getD kk zR).1 = fr) && decide (at_ ≤ (rides.getD kk zR).2.2.1)))
theorem tStep_len {C fr at_ : Int} {rides : List Ride} {kk : Nat} {t : List Bool} : (tStep C fr at_ rides kk t).length = t.length := by
  have key : ∀ (l : List Nat) (t : List Bool), (l.foldl (fun t j => tIn C rides kk j t) t).length = t.length := fun l => by
    induction l with
    | nil => exact fun _ => rfl
    | cons i l ih => intro t; rw [List.foldl_cons, ih]; simp [tIn]
  unfold tStep
  rw [key]
  simp
end Go.Proofs.Ythfjdcdbimjkjaa.Rw

namespace Go.Proofs.Ythfjdcdbimjkjaa.Rw
open Go.Rx
set_option linter.unusedVariables false
set_option linter.unusedSimpArgs false
/-! ### The same rides can be reached -/
def sameT (ways : Ways) (t : List Bool) : Prop := ∀ j, (ways.getD j none).isSome = t.getD j false
theorem relax_same {C : Int} {rides : List Ride} {kk i : Nat} (hi : i ≠ kk) {ways : Ways} {t : List Bool} (hlw : kk < ways.length) (hlt : kk < t.length) (hcf : canF C (rides.getD i zR) (rides.getD kk zR) = folF C (rides.getD i zR) (rides.getD kk zR)) (h : sameT ways t) : sameT (relax C rides kk i ways) (tIn C rides kk i t) := fun j => by
  have hk := h kk
  have hii := h i
  unfold relax tIn
  rw [getD_set, hcf]
  by_cases hj : kk = j
  · subst hj
    rw [if_pos ⟨rfl, hlt⟩, ← hk, ← hii]
    cases hu : ways.getD i none with
    | none => simp
    | some u =>
      cases hf : folF C (rides.getD i zR) (rides.getD kk zR) with
      | false => simp
      | true =>
        simp only [if_true]
        cases hv : ways.getD kk none with
        | none => simp only []; rw [getD_set, if_pos ⟨rfl, hlw⟩]; rfl
        | some v =>
          simp only []
          split
          · rw [getD_set, if_pos ⟨rfl, hlw⟩]; rfl
          · rw [hv]; rfl
  · rw [if_neg (fun z => hj z.1), ← h j]
    have e : ∀ w, ((ways.set kk w).getD j none) = ways.getD j none := fun w => by rw [getD_set, if_neg (fun z => hj z.1)]
    cases ways.getD i none with
    | none => rfl
    | some u =>
      simp only []
      split
      · split
        · rw [e]
        · split
          · rw [e]
          · rfl
      · rfl
theorem relax_len {C : Int} {rides : List Ride} {kk i : Nat} {ways : Ways} : (relax C rides kk i ways).length = ways.length := by
  unfold relax; repeat' split
  all_goals simp
theorem relax_at {C : Int} {rides : List Ride} {kk i j : Nat} (hj : j ≠ kk) {ways : Ways} : (relax C rides kk i ways).getD j none = ways.getD j none := by
  have e : ∀ w, ((ways.set kk w).getD j none) = ways.getD j none := fun w => by rw [getD_set, if_neg (fun z => hj z.1.symm)]
  unfold relax; repeat' split
  all_goals first | rfl | exact e _
theorem relaxs_len {C : Int} {rides : List Ride} {kk : Nat} : ∀ (l : List Nat) (ways : Ways), (l.foldl (fun w j => relax C rides kk j w) ways).length = ways.length
  | [], _ => rfl
  | i :: l, ways => by rw [List.foldl_cons, relaxs_len l]; exact relax_len
theorem relaxs_at {C : Int} {rides : List Ride} {kk j : Nat} (hj : j ≠ kk) : ∀ (l : List Nat) (ways : Ways), (l.foldl (fun w j => relax C rides kk j w) ways).getD j none = ways.getD j none
  | [], _ => rfl
  | i :: l, ways => by rw [List.foldl_cons, relaxs_at hj l]; exact relax_at hj
theorem step_len {C fr at_ : Int} {rides : List Ride} {kk : Nat} {ways : Ways} : (bestStep C fr at_ rides kk ways).length = ways.length := by
  unfold bestStep; split
  · simp
  · exact relaxs_len _ _
theorem step_at {C fr at_ : Int} {rides : List Ride} {kk j : Nat} (hj : j ≠ kk) {ways : Ways} : (bestStep C fr at_ rides kk ways).getD j none = ways.getD j none := by
  unfold bestStep; split
  · rw [getD_set, if_neg (fun z => hj z.1.symm)]
  · exact relaxs_at hj _ _
theorem relaxs_same {C : Int} {rides : List Ride} {kk : Nat} (hcf : ∀ i, i < kk → canF C (rides.getD i zR) (rides.getD kk zR) = folF C (rides.getD i zR) (rides.getD kk zR)) : ∀ (l : List Nat) (ways : Ways) (t : List Bool), (∀ i ∈ l, i < kk) → kk < ways.length → kk < t.length → sameT ways t → sameT (l.foldl (fun w j => relax C rides kk j w) ways) (l.foldl (fun t j => tIn C rides kk j t) t)
  | [], _, _, _, _, _, h => h
  | i :: l, ways, t, hl, h1, h2, h => by
    have hi := hl i (List.mem_cons_self ..)
    exact relaxs_same hcf l _ _ (fun j hj => hl j (List.mem_cons_of_mem _ hj)) (by rw [relax_len]; exact h1) (by simp [tIn, h2]) (relax_same (by omega) h1 h2 (hcf i hi) h)
theorem tIns_true {C : Int} {rides : List Ride} {kk : Nat} : ∀ (l : List Nat) (t : List Bool), t.getD kk false = true → kk < t.length → ∀ j, (l.foldl (fun t j => tIn C rides kk j t) t).getD j false = t.getD j false
  | [], _, _, _, _ => rfl
  | i :: l, t, h, hk, j => by
    have e : ∀ j, (tIn C rides kk i t).getD j false = t.getD j false := fun j => by
      unfold tIn
      rw [getD_set, h, Bool.true_or]
      split
      · rename_i g; rw [← g.1, h]
      · rfl
    rw [List.foldl_cons, tIns_true l _ (by rw [e]; exact h) (by simp [tIn, hk]), e]
theorem step_same {C fr at_ : Int} {rides : List Ride} {kk : Nat} (hcf : ∀ i, i < kk → canF C (rides.getD i zR) (rides.getD kk zR) = folF C (rides.getD i zR) (rides.getD kk zR)) {ways : Ways} {t : List Bool} (h1 : kk < ways.length) (h2 : kk < t.length) (hn : ways.getD kk none = none) (h : sameT ways t) : sameT (bestStep C fr at_ rides kk ways) (tStep C fr at_ rides kk t) := by
  unfold bestStep tStep
  by_cases hc : (rides.getD kk zR).1 = fr ∧ at_ ≤ (rides.getD kk zR).2.2.1
  · rw [if_pos hc, decide_eq_true hc.1, decide_eq_true hc.2]
    intro j
    rw [tIns_true _ _ (by rw [getD_set, if_pos ⟨rfl, h2⟩]; rfl) (by simpa using h2), getD_set, getD_set]
    by_cases hj : kk = j
    · rw [if_pos ⟨hj, h1⟩, if_pos ⟨hj, h2⟩]; rfl
    · rw [if_neg (fun z => hj z.1), if_neg (fun z => hj z.1)]; exact h j
  · rw [if_neg hc]
    have hb : (decide ((rides.getD kk zR).1 = fr) && decide (at_ ≤ (rides.getD kk zR).2.2.1)) = false := by
      rw [Bool.and_eq_false_iff]
      by_cases g : (rides.getD kk zR).1 = fr
      · exact .inr (decide_eq_false (fun z => hc ⟨g, z⟩))
      · exact .inl (decide_eq_false g)
    rw [hb]
    refine relaxs_same hcf _ _ _ (fun i hi => by simp [List.mem_range'] at hi; omega) h1 (by simpa using h2) (fun j => ?_)
    rw [getD_set]
    split
    · rename_i g
      rw [← g.1, hn]; rfl
    · exact h j
theorem good_of {S C : Int} {l : List Ride} (h0 : tabF S C l = 0) : (0 ≤ C ∧ C ≤ 1073741824) ∧ (∀ r ∈ l, ¬ rbad S r) ∧ (∀ a ∈ l, ∀ b ∈ l, canF C a b = folF C a b) := by
  have hC : 0 ≤ C ∧ C ≤ 1073741824 := by
    unfold tabF at h0; split at h0
    · cases h0
    · split at h0
      · cases h0
      · omega
  have hg : ∀ r ∈ l, ¬ rbad S r := by
    unfold tabF at h0; split at h0
    · cases h0
    · split at h0
      · cases h0
      · exact tabL_good h0
  exact ⟨hC, hg, fun a ha b hb => can_fol hC (hg a ha) (hg b hb)⟩
end Go.Proofs.Ythfjdcdbimjkjaa.Rw

namespace Go.Proofs.Ythfjdcdbimjkjaa.Rw
open Go.Rx
set_option linter.unusedVariables false
set_option linter.unusedSimpArgs false
inductive Reach (C fr at_ : Int) (rides : List Ride) : Nat → Prop where
  | base (j : Nat) (h1 : (rides.getD j zR).1 = fr) (h2 : at_ ≤ (rides.getD j zR).2.2.1) : Reach C fr at_ rides j
  | step (j i : Nat) (hi : i < j) (h : Reach C fr at_ rides i) (hc : canF C (rides.getD i zR) (rides.getD j zR) = true) : Reach C fr at_ rides j
theorem Reach.mono {C fr a b : Int} {rides : List Ride} (hab : a ≤ b) {j : Nat} (h : Reach C fr b rides j) : Reach C fr a rides j := by
  induction h with
  | base j h1 h2 => exact .base j h1 (by omega)
  | step j i hi _ hc ih => exact .step j i hi ih hc
/-- Who reaches a ride has taken a first one. -/
theorem Reach.first {C fr a : Int} {rides : List Ride} {j : Nat} (h : Reach C fr a rides j) : ∃ q, q ≤ j ∧ (rides.getD q zR).1 = fr ∧ a ≤ (rides.getD q zR).2.2.1 ∧ Reach C fr (rides.getD q zR).2.2.1 rides j := by
  induction h with
  | base j h1 h2 => exact ⟨j, Nat.le_refl _, h1, h2, .base j h1 (Int.le_refl _)⟩
  | step j i hi _ hc ih =>
    obtain ⟨q, h0, h1, h2, h3⟩ := ih
    exact ⟨q, by omega, h1, h2, .step j i hi h3 hc⟩
theorem tIns_get {C : Int} {rides : List Ride} {kk : Nat} : ∀ (l : List Nat) (t : List Bool), (∀ i ∈ l, i ≠ kk) → kk < t.length →
    ((l.foldl (fun t j => tIn C rides kk j t) t).getD kk false = true ↔ t.getD kk false = true ∨ ∃ i ∈ l, t.getD i false = true ∧ canF C (rides.getD i zR) (rides.getD kk zR) = true)
  | [], t, _, _ => by simp
  | i :: l, t, hl, hk => by
    have hi := hl i (List.mem_cons_self ..)
    have e : ∀ j, j ≠ kk → (tIn C rides kk i t).getD j false = t.getD j false := fun j hj => by
      unfold tIn; rw [getD_set, if_neg (fun z => hj z.1.symm)]
    rw [List.foldl_cons, tIns_get l _ (fun j hj => hl j (List.mem_cons_of_mem _ hj)) (by simpa [tIn] using hk)]
    have e0 : (tIn C rides kk i t).getD kk false = (t.getD kk false || (t.getD i false && canF C (rides.getD i zR) (rides.getD kk zR))) := by
      unfold tIn; rw [getD_set, if_pos ⟨rfl, hk⟩]
    rw [e0, Bool.or_eq_true, Bool.and_eq_true]
    constructor
    · rintro ((h | h) | ⟨j, hj, h⟩)
      · exact .inl h
      · exact .inr ⟨i, List.mem_cons_self .., h⟩
      · rw [e j (hl j (List.mem_cons_of_mem _ hj))] at h
        exact .inr ⟨j, List.mem_cons_of_mem _ hj, h⟩
    · rintro (h | ⟨j, hj, h⟩)
      · exact .inl (.inl h)
      · rcases List.mem_cons.1 hj with rfl | hj
        · exact .inl (.inr h)
        · refine .inr ⟨j, hj, ?_⟩
          rw [e j (hl j (List.mem_cons_of_mem _ hj))]
          exact h
theorem tIns_at {C : Int} {rides : List Ride} {kk j : Nat} (hj : j ≠ kk) : ∀ (l : List Nat) (t : List Bool), (l.foldl (fun t j => tIn C rides kk j t) t).getD j false = t.getD j false
  | [], _ => rfl
  | i :: l, t => by
    rw [List.foldl_cons, tIns_at hj l]
    unfold tIn; rw [getD_set, if_neg (fun z => hj z.1.symm)]
theorem tStep_at {C fr at_ : Int} {rides : List Ride} {kk j : Nat} (hj : j ≠ kk) {t : List Bool} : (tStep C fr at_ rides kk t).getD j false = t.getD j false := by
  unfold tStep
  rw [tIns_at hj, getD_set, if_neg (fun z => hj z.1.symm)]
theorem tStep_reach {C fr at_ : Int} {rides : List Ride} {kk : Nat} {t : List Bool} (hk : kk < t.length) (h : ∀ j, j < kk → (t.getD j false = true ↔ Reach C fr at_ rides j)) : (tStep C fr at_ rides kk t).getD kk false = true ↔ Reach C fr at_ rides kk := by
  unfold tStep
  rw [tIns_get _ _ (fun i hi => by simp [List.mem_range'] at hi; omega) (by simpa using hk), getD_set, if_pos ⟨rfl, hk⟩, Bool.and_eq_true, decide_eq_true_eq, decide_eq_true_eq]
  constructor
  · rintro (⟨h1, h2⟩ | ⟨i, hi, h1, h2⟩)
    · exact .base kk h1 h2
    · have hi : i < kk := by simp [List.mem_range'] at hi; omega
      rw [getD_set, if_neg (fun z => by omega)] at h1
      exact .step kk i hi ((h i hi).1 h1) h2
  · intro g
    cases g with
    | base _ h1 h2 => exact .inl ⟨h1, h2⟩
    | step _ i hi g hc =>
      refine .inr ⟨i, by simp [List.mem_range']; omega, ?_, hc⟩
      rw [getD_set, if_neg (fun z => by omega)]
      exact (h i hi).2 g
end Go.Proofs.Ythfjdcdbimjkjaa.Rw

namespace Go.Proofs.Ythfjdcdbimjkjaa.Rw
open Go.Rx
set_option linter.unusedVariables false
set_option linter.unusedSimpArgs false
theorem best_reach_from {C fr at_ : Int} {rides : List Ride} (hcf : ∀ a ∈ rides, ∀ b ∈ rides, canF C a b = folF C a b) : ∀ (d kk : Nat) (ways : Ways) (t : List Bool), kk + d = rides.length → ways.length = rides.length → t.length = rides.length → sameT ways t → (∀ j, kk ≤ j → ways.getD j none = none) →
    (∀ j, j < kk → (t.getD j false = true ↔ Reach C fr at_ rides j)) → ∀ j, j < rides.length → ((((List.range' kk d).foldl (fun w q => bestStep C fr at_ rides q w) ways).getD j none).isSome = true ↔ Reach C fr at_ rides j)
  | 0, kk, ways, t, hid, hw, ht, hs, hn, hr, j, hj => by
    rw [show (List.range' kk 0).foldl (fun w q => bestStep C fr at_ rides q w) ways = ways from rfl, hs j]
    exact hr j (by omega)
  | d + 1, kk, ways, t, hid, hw, ht, hs, hn, hr, j, hj => by
    have hmem : ∀ i, i < rides.length → rides.getD i zR ∈ rides := fun i hi => by
      rw [List.getD_eq_getElem?_getD, List.getElem?_eq_getElem hi]
      exact List.getElem_mem hi
    have hs' : sameT (bestStep C fr at_ rides kk ways) (tStep C fr at_ rides kk t) := step_same (fun i hi => hcf _ (hmem i (by omega)) _ (hmem kk (by omega))) (by omega) (by omega) (hn kk (Nat.le_refl _)) hs
    have hkr := tStep_reach (C := C) (fr := fr) (at_ := at_) (rides := rides) (kk := kk) (t := t) (by omega) hr
    simp only [List.range'_succ, List.foldl_cons]
    refine best_reach_from hcf d (kk + 1) _ (tStep C fr at_ rides kk t) (by omega) (by rw [step_len]; exact hw) (by rw [tStep_len]; exact ht) hs' (fun j hj => by rw [step_at (by omega)]; exact hn j (by omega)) (fun j hj => ?_) j hj
    by_cases g : j = kk
    · subst g; exact hkr
    · rw [tStep_at g]; exact hr j (by omega)
/-- A ride has a way just if it can be reached. -/
theorem best_reach {C fr at_ : Int} {rides : List Ride} (hcf : ∀ a ∈ rides, ∀ b ∈ rides, canF C a b = folF C a b) {j : Nat} (hj : j < rides.length) : ((bestW C fr at_ rides).getD j none).isSome = true ↔ Reach C fr at_ rides j :=
  best_reach_from hcf rides.length 0 (List.replicate rides.length none) (List.replicate rides.length false) (by omega) (by simp) (by simp) (fun j => by
    simp only [List.getD_eq_getElem?_getD, List.getElem?_replicate]
    split <;> rfl) (fun j _ => by
    simp only [List.getD_eq_getElem?_getD, List.getElem?_replicate]
    split <;> rfl) (fun j hj => by omega) j hj
def allStep (ways : Ways) (rides : List Ride) (j : Nat) (out : List Int) : List Int :=
  if isNilO (ways.getD j none) = true then out else if out.getD (rides.getD j zR).2.1.toNat 0 < 0 ∨ arrAt rides j < out.getD (rides.getD j zR).2.1.toNat 0 then out.set (rides.getD j zR).2.1.toNat (arrAt rides j) else out
theorem allStep_len {ways : Ways} {rides : List Ride} {j : Nat} {out : List Int} : (allStep ways rides j out).length = out.length := by
  unfold allStep; split
  · rfl
  · split
    · simp
    · rfl
theorem allFold_len {ways : Ways} {rides : List Ride} : ∀ (l : List Nat) (out : List Int), (l.foldl (fun o j => allStep ways rides j o) out).length = out.length
  | [], _ => rfl
  | j :: l, out => by rw [List.foldl_cons, allFold_len l, allStep_len]
theorem all_loop (S C fr at_ : Int) (rides : List Ride) (ways : Ways) (hr : rides.length ≤ 400) (hw : ways.length = rides.length) (hg : ∀ r ∈ rides, ¬ rbad S r) (hfr : 0 ≤ fr ∧ fr < S) (hS : S ≤ 1000) : ∀ (d i : Nat) (out : List Int), i + d = rides.length → (out.length : Int) = S →
    Ev2 (fun k n => f16_l0 k n out S C rides ways fr at_ (ways.length : Int) (i : Int)) (((List.range' i d).foldl (fun o j => allStep ways rides j o) out).set fr.toNat at_, 0, ())
  | 0, i, out, hid, hl => by
    refine Ev2.step (g := fun _ _ => some (out.set fr.toNat at_, 0, ())) (fun k n => ?_) (Ev2.pure _)
    rw [f16_l0, f16_l0_B, if_neg (by omega), if_pos hfr.1, if_pos (by omega)]
  | d + 1, i, out, hid, hl => by
    have h1 : (i : Int) < (ways.length : Int) := by omega
    have h2 : (i : Int) < (rides.length : Int) := by omega
    have h0 : (0 : Int) ≤ (i : Int) := by omega
    have hwi : w64 ((i : Int) + 1) = ((i + 1 : Nat) : Int) := by rw [w64_id (by omega) (by omega)]; omega
    have hrd : ∀ z : Ride, rides.getD i z = rides.getD i zR := fun z => by
      have : i < rides.length := by omega
      simp [List.getD_eq_getElem?_getD, List.getElem?_eq_getElem this]
    have hmem : rides.getD i zR ∈ rides := by
      rw [List.getD_eq_getElem?_getD, List.getElem?_eq_getElem (by omega)]
      exact List.getElem_mem _
    have hgr := hg _ hmem
    unfold rbad at hgr
    have ht0 : 0 ≤ (rides.getD i zR).2.1 := by omega
    have ht1 : (rides.getD i zR).2.1 < (out.length : Int) := by omega
    simp only [List.range'_succ, List.foldl_cons]
    have ih := all_loop S C fr at_ rides ways hr hw hg hfr hS d (i + 1) (allStep ways rides i out) (by omega) (by rw [allStep_len]; exact hl)
    refine Ev2.step (fun k n => ?_) ih
    rw [f16_l0, f16_l0_B, if_pos h1, if_pos h0, if_pos h1, if_pos h0, if_pos h2]
    simp only [Int.toNat_natCast, hrd, if_pos ht0, if_pos ht1, f16_r11, f16_r11_B, f16_c12, f16_c12_B, hwi, allStep, arrAt]
    by_cases c1 : isNilO (ways.getD i none) = true
    · simp only [c1, not_true_eq_false, if_false, if_true, Bool.false_eq_true]
    · by_cases c2 : out.getD (rides.getD i zR).2.1.toNat 0 < 0
      · simp only [c1, c2, not_false_eq_true, if_true, true_or, if_false, decide_true, Bool.false_eq_true]
      · by_cases c3 : (rides.getD i zR).2.2.2.1 < out.getD (rides.getD i zR).2.1.toNat 0 <;> simp only [c1, c2, c3, not_false_eq_true, if_true, or_true, or_false, if_false, decide_true, decide_false, Bool.false_eq_true]
def valid1F (S C : Int) (l : List Ride) (a at_ : Int) : Int := if tabF S C l = 0 then (if badS S a then 1 else if at_ < 0 ∨ 1073741824 < at_ then 1 else 0) else tabF S C l
theorem valid1_ev (S C : Int) (l : List Ride) (a : Int) : Ev (fun k => f68 k (S, (C, l)) [a]) (if tabF S C l = 0 then (if badS S a then 1 else 0) else tabF S C l, ()) := by
  simp only [f68, f68_entry_B]
  refine (f134_ev S C l).bind ?_
  have w1 : w64 1 = 1 := rfl
  by_cases h0 : tabF S C l = 0
  · simp only [h0, not_true_eq_false, if_false, if_true]
    refine Ev.off 3 (fun j => ?_)
    unfold badS
    by_cases h1 : a < 0
    · simp [f68_l0, f68_l0_B, f68_r7, f68_r7_B, h1]
    · by_cases h2 : S ≤ a <;> simp [f68_l0, f68_l0_B, f68_r7, f68_r7_B, h1, h2, w1]
  · simp only [h0, not_false_eq_true, if_true, if_false]
    exact Ev.pure _
def allL (S C : Int) (l : List Ride) (a at_ : Int) : List Int := ((List.range' 0 l.length).foldl (fun o j => allStep (bestW C a at_ l) l j o) (List.replicate S.toNat (-1))).set a.toNat at_
def allF (S C : Int) (l : List Ride) (a at_ : Int) : List Int × Int × Unit := if valid1F S C l a at_ = 0 then (allL S C l a at_, 0, ()) else ([], valid1F S C l a at_, ())
theorem tabF_S {S C : Int} {l : List Ride} (h : tabF S C l = 0) : 0 ≤ S ∧ S ≤ 200 := by
  unfold tabF at h
  split at h
  · cases h
  · omega
theorem best_len {C fr at_ : Int} {rides : List Ride} : (bestW C fr at_ rides).length = rides.length := (okW_best C fr at_ rides).1
theorem all_ev (S C : Int) (l : List Ride) (a at_ : Int) : Ev (fun k => f16 k (S, (C, l)) a at_) (allF S C l a at_) := by
  simp only [f16, f16_entry_B]
  refine (valid1_ev S C l a).bind ?_
  unfold allF valid1F
  by_cases h0 : tabF S C l = 0
  · simp only [h0, if_true]
    by_cases h1 : badS S a
    · simp only [h1, if_true]
      exact Ev.of (fun k => by simp) (Ev.pure _)
    · simp only [h1, if_false, not_true_eq_false]
      by_cases h3 : at_ < 0 ∨ 1073741824 < at_
      · simp only [if_pos h3]
        refine Ev.of (fun k => ?_) (Ev.pure _)
        by_cases h4 : at_ < 0
        · simp [h4, f16_r4, f16_r4_B]
        · have h5 : 1073741824 < at_ := by omega
          simp [h4, h5, f16_r4, f16_r4_B]
      · have h4 : ¬ at_ < 0 := by omega
        have h5 : ¬ 1073741824 < at_ := by omega
        simp only [if_neg h3, if_neg h4, f16_r4, f16_r4_B, if_true, decide_eq_false h5, Bool.false_eq_true, if_false]
        have hS := tabF_S h0
        obtain ⟨N, rfl⟩ : ∃ N : Nat, S = (N : Int) := ⟨S.toNat, by omega⟩
        refine (repeat_ev (-1) N (by omega)).bind ((best_ev (N : Int) C a at_ l (tabF_len h0)).bind ?_)
        unfold badS at h1
        exact (all_loop (N : Int) C a at_ l (bestW C a at_ l) (tabF_len h0) best_len (good_of h0).2.1 (by omega) (by omega) l.length 0 (List.replicate N (-1)) (by omega) (by simp)).diag
  · simp only [h0, if_false]
    exact Ev.of (fun k => by simp [h0]) (Ev.pure _)
/-! ### What All says of a stop -/
theorem allFold_spec {C fr at_ : Int} {rides : List Ride} {ways : Ways} {S : Int} (hg : ∀ r ∈ rides, ¬ rbad S r) (by_ : Int) (s : Nat) : ∀ (d i : Nat) (out : List Int), i + d = rides.length → (out.length : Int) = S → s < out.length → -1 ≤ out.getD s 0 →
    -1 ≤ ((List.range' i d).foldl (fun o j => allStep ways rides j o) out).getD s 0 ∧
    ((0 ≤ ((List.range' i d).foldl (fun o j => allStep ways rides j o) out).getD s 0 ∧ ((List.range' i d).foldl (fun o j => allStep ways rides j o) out).getD s 0 ≤ by_) ↔
      (0 ≤ out.getD s 0 ∧ out.getD s 0 ≤ by_) ∨ ∃ j, i ≤ j ∧ j < rides.length ∧ (ways.getD j none).isSome = true ∧ (rides.getD j zR).2.1 = (s : Int) ∧ arrAt rides j ≤ by_)
  | 0, i, out, hid, hl, hs, h => ⟨h, ⟨.inl, fun g => g.elim id (fun g => by obtain ⟨j, _, _, _⟩ := g; omega)⟩⟩
  | d + 1, i, out, hid, hl, hs, h => by
    simp only [List.range'_succ, List.foldl_cons]
    have hmem : rides.getD i zR ∈ rides := by
      rw [List.getD_eq_getElem?_getD, List.getElem?_eq_getElem (by omega)]
      exact List.getElem_mem _
    have hgr := hg _ hmem
    unfold rbad at hgr
    have harr : 0 ≤ arrAt rides i := by unfold arrAt; omega
    have hst : -1 ≤ (allStep ways rides i out).getD s 0 ∧ ((0 ≤ (allStep ways rides i out).getD s 0 ∧ (allStep ways rides i out).getD s 0 ≤ by_) ↔ (0 ≤ out.getD s 0 ∧ out.getD s 0 ≤ by_) ∨ ((ways.getD i none).isSome = true ∧ (rides.getD i zR).2.1 = (s : Int) ∧ arrAt rides i ≤ by_)) := by
      unfold allStep
      cases hu : ways.getD i none with
      | none => simp [isNilO]; exact h
      | some u =>
        simp only [isNilO, Bool.false_eq_true, if_false, Option.isSome_some, true_and]
        by_cases hto : (rides.getD i zR).2.1 = (s : Int)
        · rw [hto, Int.toNat_natCast]
          by_cases hc : out.getD s 0 < 0 ∨ arrAt rides i < out.getD s 0
          · rw [if_pos hc, getD_set, if_pos ⟨rfl, hs⟩]
            refine ⟨by omega, ?_⟩
            constructor
            · intro g; exact .inr ⟨rfl, g.2⟩
            · rintro (g | ⟨_, g⟩)
              · exact ⟨harr, by omega⟩
              · exact ⟨harr, g⟩
          · rw [if_neg hc]
            refine ⟨h, ?_⟩
            constructor
            · exact .inl
            · rintro (g | ⟨_, g⟩)
              · exact g
              · exact ⟨by omega, by omega⟩
        · have hne : (rides.getD i zR).2.1.toNat ≠ s := by omega
          have e : (if out.getD (rides.getD i zR).2.1.toNat 0 < 0 ∨ arrAt rides i < out.getD (rides.getD i zR).2.1.toNat 0 then out.set (rides.getD i zR).2.1.toNat (arrAt rides i) else out).getD s 0 = out.getD s 0 := by
            split
            · rw [getD_set, if_neg (fun z => hne z.1)]
            · rfl
          rw [e]
          exact ⟨h, ⟨.inl, fun g => g.elim id (fun g => (hto g.1).elim)⟩⟩
    obtain ⟨k1, k2⟩ := allFold_spec (C := C) (fr := fr) (at_ := at_) (ways := ways) hg by_ s d (i + 1) (allStep ways rides i out) (by omega) (by rw [allStep_len]; exact hl) (by rw [allStep_len]; exact hs) hst.1
    refine ⟨k1, k2.trans ?_⟩
    rw [hst.2]
    constructor
    · rintro ((g | g) | ⟨j, j1, j2, j3⟩)
      · exact .inl g
      · exact .inr ⟨i, Nat.le_refl _, by omega, g⟩
      · exact .inr ⟨j, by omega, j2, j3⟩
    · rintro (g | ⟨j, j1, j2, j3⟩)
      · exact .inl (.inl g)
      · by_cases e : j = i
        · subst e; exact .inl (.inr j3)
        · exact .inr ⟨j, by omega, j2, j3⟩
theorem allL_len {S C : Int} {l : List Ride} {a at_ : Int} : (allL S C l a at_).length = S.toNat := by
  unfold allL; rw [List.length_set, allFold_len]; simp
/-- When one is at a stop by All, in time. -/
theorem all_spec {S C : Int} {l : List Ride} {a at_ : Int} (h0 : tabF S C l = 0) (ha : 0 ≤ a) {s : Nat} (hs : (s : Int) < S) (hsa : (s : Int) ≠ a) (by_ : Int) : -1 ≤ (allL S C l a at_).getD s 0 ∧
    ((0 ≤ (allL S C l a at_).getD s 0 ∧ (allL S C l a at_).getD s 0 ≤ by_) ↔ ∃ j, j < l.length ∧ Reach C a at_ l j ∧ (l.getD j zR).2.1 = (s : Int) ∧ arrAt l j ≤ by_) := by
  obtain ⟨_, hg, hcf⟩ := good_of h0
  have hS := tabF_S h0
  have e : (allL S C l a at_).getD s 0 = ((List.range' 0 l.length).foldl (fun o j => allStep (bestW C a at_ l) l j o) (List.replicate S.toNat (-1))).getD s 0 := by
    unfold allL; rw [getD_set, if_neg (fun z => by omega)]
  have hm1 : (List.replicate S.toNat (-1 : Int)).getD s 0 = -1 := by
    simp only [List.getD_eq_getElem?_getD, List.getElem?_replicate]
    rw [if_pos (by omega)]; rfl
  obtain ⟨k1, k2⟩ := allFold_spec (C := C) (fr := a) (at_ := at_) (ways := bestW C a at_ l) hg by_ s l.length 0 (List.replicate S.toNat (-1)) (by omega) (by simp; omega) (by simp; omega) (by rw [hm1]; omega)
  rw [e]
  refine ⟨k1, k2.trans ?_⟩
  rw [hm1]
  constructor
  · rintro (g | ⟨j, _, j2, j3, j4⟩)
    · omega
    · exact ⟨j, j2, (best_reach hcf j2).1 j3, j4⟩
  · rintro ⟨j, j2, j3, j4⟩
    exact .inr ⟨j, by omega, j2, (best_reach hcf j2).2 j3, j4⟩
end Go.Proofs.Ythfjdcdbimjkjaa.Rw

namespace Go.Proofs.Ythfjdcdbimjkjaa.Rw
open Go.Rx
set_option linter.unusedVariables false
set_option linter.unusedSimpArgs false
def rideE (E : List Ed) (now k : Nat) : Ride := (fromE E (k : Int), (toE E (k : Int), ((now : Int), ((now : Int) + costE E (k : Int), (k : Int)))))
def rowR (E : List Ed) (now d i : Nat) : List Ride := (List.range' i d).map (rideE E now)
def allR (E : List Ed) : Nat → List Ride
  | 0 => []
  | m + 1 => allR E m ++ rowR E m E.length 0
theorem rowR_len (E : List Ed) (now d i : Nat) : (rowR E now d i).length = d := by simp [rowR]
theorem allR_len (E : List Ed) : ∀ m, (allR E m).length = m * E.length
  | 0 => by simp [allR]
  | m + 1 => by rw [allR, List.length_append, allR_len E m, rowR_len, Nat.succ_mul]
theorem rowR_at (E : List Ed) (now d i k : Nat) (hk : k < d) : (rowR E now d i).getD k zR = rideE E now (i + k) := by
  unfold rowR
  rw [List.getD_eq_getElem?_getD, List.getElem?_map, List.getElem?_range' hk]
  simp
theorem allR_at (E : List Ed) : ∀ (m now k : Nat), now < m → k < E.length → (allR E m).getD (now * E.length + k) zR = rideE E now k
  | 0, now, k, h, _ => by omega
  | m + 1, now, k, h, hk => by
    rw [allR]
    by_cases c : now < m
    · have h1 : (now + 1) * E.length ≤ m * E.length := Nat.mul_le_mul_right _ c
      rw [Nat.succ_mul] at h1
      have h2 : now * E.length + k < (allR E m).length := by rw [allR_len]; omega
      have := allR_at E m now k c hk
      rw [List.getD_eq_getElem?_getD] at this ⊢
      rw [List.getElem?_append_left h2]
      exact this
    · obtain rfl : now = m := by omega
      have h2 : (allR E now).length ≤ now * E.length + k := by rw [allR_len]; omega
      have := rowR_at E now E.length 0 k hk
      rw [List.getD_eq_getElem?_getD] at this ⊢
      rw [List.getElem?_append_right h2, allR_len, show now * E.length + k - now * E.length = k by omega]
      rw [this, Nat.zero_add]
theorem allR_ix (E : List Ed) : ∀ (m j : Nat), j < (allR E m).length → ∃ now k, now < m ∧ k < E.length ∧ j = now * E.length + k
  | 0, j, h => by simp [allR] at h
  | m + 1, j, h => by
    rw [allR_len, Nat.succ_mul] at h
    by_cases c : j < m * E.length
    · obtain ⟨now, k, h1, h2, h3⟩ := allR_ix E m j (by rw [allR_len]; exact c)
      exact ⟨now, k, by omega, h2, h3⟩
    · exact ⟨m, j - m * E.length, by omega, by omega, by omega⟩
theorem rowR_mem {E : List Ed} {now d i : Nat} {r : Ride} (h : r ∈ rowR E now d i) : ∃ k, i ≤ k ∧ k < i + d ∧ r = rideE E now k := by
  obtain ⟨k, h1, h2⟩ := List.mem_map.1 h
  rw [List.mem_range'_1] at h1
  exact ⟨k, h1.1, h1.2, h2.symm⟩
theorem allR_mem {E : List Ed} : ∀ {m : Nat} {r : Ride}, r ∈ allR E m → ∃ now k, now < m ∧ k < E.length ∧ r = rideE E now k
  | 0, r, h => by simp [allR] at h
  | m + 1, r, h => by
    rw [allR] at h
    rcases List.mem_append.1 h with h | h
    · obtain ⟨now, k, h1, h2, h3⟩ := allR_mem h
      exact ⟨now, k, by omega, h2, h3⟩
    · obtain ⟨k, h1, h2, h3⟩ := rowR_mem h
      exact ⟨m, k, by omega, by omega, h3⟩
theorem tabL_ok {S : Int} : ∀ (l : List Ride) (d : Int), (∀ r ∈ l, ¬ rbad S r) → l.Pairwise (fun a b => a.2.2.1 ≤ b.2.2.1) → (∀ r ∈ l, d ≤ r.2.2.1) → tabL S d l = 0
  | [], _, _, _, _ => rfl
  | r :: l, d, h1, h2, h3 => by
    rw [List.pairwise_cons] at h2
    simp only [tabL]
    rw [if_neg (h1 r (List.mem_cons_self ..)), if_neg (by have := h3 r (List.mem_cons_self ..); omega)]
    exact tabL_ok l _ (fun x hx => h1 x (List.mem_cons_of_mem _ hx)) h2.2 (fun x hx => h2.1 x hx)
theorem rowR_sorted (E : List Ed) (now d i : Nat) : (rowR E now d i).Pairwise (fun a b => a.2.2.1 ≤ b.2.2.1) := by
  rw [List.pairwise_iff_getElem]
  intro p q hp hq _
  obtain ⟨k, _, _, h1⟩ := rowR_mem (List.getElem_mem hp)
  obtain ⟨k', _, _, h2⟩ := rowR_mem (List.getElem_mem hq)
  rw [h1, h2]
  exact Int.le_refl _
theorem allR_sorted (E : List Ed) : ∀ m, (allR E m).Pairwise (fun a b => a.2.2.1 ≤ b.2.2.1)
  | 0 => List.Pairwise.nil
  | m + 1 => by
    rw [allR, List.pairwise_append]
    refine ⟨allR_sorted E m, rowR_sorted E m _ _, fun a ha b hb => ?_⟩
    obtain ⟨now, k, h1, _, h2⟩ := allR_mem ha
    obtain ⟨k', _, _, h3⟩ := rowR_mem hb
    rw [h2, h3]
    show (now : Int) ≤ (m : Int)
    omega
theorem allR_tab {E : List Ed} {n : Nat} (hE : GoodE n E) (hE6 : E.length ≤ 6) (hn : n ≤ 8) : tabF (n : Int) 0 (allR E 60) = 0 := by
  unfold tabF
  have hl : (allR E 60).length ≤ 360 := by rw [allR_len]; omega
  rw [if_neg (by omega), if_neg (by decide)]
  refine tabL_ok _ _ (fun r hr => ?_) (allR_sorted E 60) (fun r hr => ?_)
  · obtain ⟨now, k, h1, h2, rfl⟩ := allR_mem hr
    have := hE (E.getD k zE) (by rw [List.getD_eq_getElem?_getD, List.getElem?_eq_getElem h2]; exact List.getElem_mem h2)
    have e1 : (rideE E now k).1 = (E.getD k zE).1 := rfl
    have e2 : (rideE E now k).2.1 = (E.getD k zE).2.1 := rfl
    have e3 : (rideE E now k).2.2.1 = (now : Int) := rfl
    have e4 : (rideE E now k).2.2.2.1 = (now : Int) + (E.getD k zE).2.2.1 := rfl
    unfold rbad
    rw [e1, e2, e3, e4]
    unfold inR at this
    omega
  · obtain ⟨now, k, h1, h2, rfl⟩ := allR_mem hr
    show (0 : Int) ≤ (now : Int)
    omega
section
variable {N : List Pt} {E : List Ed} {s : Nat} {a : Int}
theorem top_tr (hE : GoodE N.length E) (hNC : NetC N.length E (E.map evenC)) {j : Nat} (hj : j < (allR E 60).length) (h : Reach 0 (s : Int) a (allR E 60) j) : ∃ t, Tr E (E.map evenC) s a ((allR E 60).getD j zR).2.1.toNat t ∧ t ≤ arrAt (allR E 60) j := by
  have hto : ∀ k, k < E.length → (toE E (k : Int)).toNat = toN E k := fun k hk => by
    obtain ⟨_, q⟩ := hNC.to hk
    unfold toE toN
    rw [Int.toNat_natCast]
  have hfr : ∀ k, k < E.length → fromE E (k : Int) = (frN E k : Int) := fun k hk => by
    obtain ⟨_, q⟩ := hNC.fr hk
    unfold fromE
    rw [Int.toNat_natCast]
    exact q
  have harr : ∀ k, k < E.length → ∀ t, arrC (E.map evenC) k t = t + costE E (k : Int) := fun k hk t => by
    unfold arrC; rw [(evenC_at E k hk t).2]
  induction h with
  | base j h1 h2 =>
    obtain ⟨now, k, k1, k2, rfl⟩ := allR_ix E 60 j hj
    unfold arrAt
    rw [allR_at E 60 now k k1 k2] at h1 h2 ⊢
    have h1' : fromE E (k : Int) = (s : Int) := h1
    have h2' : a ≤ (now : Int) := h2
    rw [hfr k k2] at h1'
    have e : frN E k = s := by omega
    have := Tr.step (E := E) (C := E.map evenC) (s := s) (a := a) (i := k) (t := a) (by rw [e]; exact .start) (by omega) k2
    rw [harr k k2] at this
    refine ⟨_, ?_, show a + costE E (k : Int) ≤ (now : Int) + costE E (k : Int) by omega⟩
    show Tr E (E.map evenC) s a (toE E (k : Int)).toNat _
    rw [hto k k2]; exact this
  | step j i hi h hc ih =>
    obtain ⟨now, k, k1, k2, rfl⟩ := allR_ix E 60 j hj
    obtain ⟨t, t1, t2⟩ := ih (by omega)
    obtain ⟨now', k', k1', k2', e'⟩ := allR_ix E 60 i (by omega)
    unfold arrAt at t2 ⊢
    rw [e', allR_at E 60 now' k' k1' k2'] at hc t1 t2
    rw [allR_at E 60 now k k1 k2] at hc ⊢
    have hw : w64 ((now : Int) - 0) = (now : Int) := w64_id (by omega) (by omega)
    have hcc : toE E (k' : Int) = fromE E (k : Int) ∧ (now' : Int) + costE E (k' : Int) ≤ (now : Int) := by
      unfold canF at hc
      have e1 : (rideE E now k).2.2.1 = (now : Int) := rfl
      rw [e1, hw] at hc
      split at hc
      · simp only [Bool.and_eq_true, decide_eq_true_eq] at hc; exact hc
      · simp only [Bool.and_eq_true, decide_eq_true_eq] at hc; exact hc
    have t2' : t ≤ (now' : Int) + costE E (k' : Int) := t2
    have t1' : Tr E (E.map evenC) s a (toE E (k' : Int)).toNat t := t1
    rw [hcc.1, hfr k k2, Int.toNat_natCast] at t1'
    have := Tr.step (i := k) t1' (by omega) k2
    rw [harr k k2] at this
    refine ⟨_, ?_, show t + costE E (k : Int) ≤ (now : Int) + costE E (k : Int) by omega⟩
    show Tr E (E.map evenC) s a (toE E (k : Int)).toNat _
    rw [hto k k2]; exact this
theorem top_reach (hE : GoodE N.length E) (hNC : NetC N.length E (E.map evenC)) (h0 : 0 ≤ a) {v : Nat} {t : Int} (h : Tr E (E.map evenC) s a v t) : a ≤ t ∧ (t < 60 → (v = s ∧ t = a) ∨ ∃ j, j < (allR E 60).length ∧ Reach 0 (s : Int) a (allR E 60) j ∧ ((allR E 60).getD j zR).2.1 = (v : Int) ∧ arrAt (allR E 60) j = t) := by
  have hgo : ∀ k, k < E.length → 1 ≤ costE E (k : Int) := fun k hk => by
    have := hE (E.getD k zE) (by rw [List.getD_eq_getElem?_getD, List.getElem?_eq_getElem hk]; exact List.getElem_mem hk)
    show 1 ≤ (E.getD ((k : Int)).toNat zE).2.2.1
    rw [Int.toNat_natCast]; omega
  have hto : ∀ k, k < E.length → toE E (k : Int) = (toN E k : Int) := fun k hk => by
    obtain ⟨_, q⟩ := hNC.to hk
    unfold toE
    rw [Int.toNat_natCast]
    exact q
  have hfr : ∀ k, k < E.length → fromE E (k : Int) = (frN E k : Int) := fun k hk => by
    obtain ⟨_, q⟩ := hNC.fr hk
    unfold fromE
    rw [Int.toNat_natCast]
    exact q
  have harr : ∀ k, k < E.length → ∀ t, arrC (E.map evenC) k t = t + costE E (k : Int) := fun k hk t => by
    unfold arrC; rw [(evenC_at E k hk t).2]
  induction h with
  | start => exact ⟨Int.le_refl _, fun _ => .inl ⟨rfl, rfl⟩⟩
  | @step i t h1 h2 hi ih =>
    rw [harr i hi]
    have hc1 := hgo i hi
    refine ⟨by omega, fun h60 => .inr ?_⟩
    have hlt : t.toNat < 60 := by omega
    have et : ((t.toNat : Nat) : Int) = t := by omega
    have hat := allR_at E 60 t.toNat i hlt hi
    have hjl : t.toNat * E.length + i < (allR E 60).length := by
      rw [allR_len]
      have : (t.toNat + 1) * E.length ≤ 60 * E.length := Nat.mul_le_mul_right _ (by omega)
      rw [Nat.succ_mul] at this
      omega
    refine ⟨t.toNat * E.length + i, hjl, ?_, by rw [hat]; exact hto i hi, by unfold arrAt; rw [hat]; show ((t.toNat : Nat) : Int) + _ = _; rw [et]⟩
    rcases ih.2 (by omega) with ⟨e1, e2⟩ | ⟨j0, g1, g2, g3, g4⟩
    · refine .base _ ?_ ?_
      · rw [hat]; show fromE E (i : Int) = _; rw [hfr i hi, e1]
      · rw [hat]; show a ≤ ((t.toNat : Nat) : Int); omega
    · obtain ⟨now0, k0, k1, k2, rfl⟩ := allR_ix E 60 j0 g1
      unfold arrAt at g4
      rw [allR_at E 60 now0 k0 k1 k2] at g3 g4
      have g4' : (now0 : Int) + costE E (k0 : Int) = t := g4
      have g3' : toE E (k0 : Int) = (frN E i : Int) := g3
      have hc0 := hgo k0 k2
      refine .step _ _ ?_ g2 ?_
      · have : (now0 + 1) * E.length ≤ t.toNat * E.length := Nat.mul_le_mul_right _ (by omega)
        rw [Nat.succ_mul] at this
        omega
      · rw [hat, allR_at E 60 now0 k0 k1 k2]
        unfold canF
        have e1 : (rideE E t.toNat i).2.2.1 = ((t.toNat : Nat) : Int) := rfl
        have e2 : (rideE E now0 k0).2.2.2.1 = t := g4'
        have e3 : (rideE E now0 k0).2.1 = (rideE E t.toNat i).1 := by show toE E (k0 : Int) = fromE E (i : Int); rw [g3', hfr i hi]
        rw [e1, e2, e3, et, w64_id (by omega) (by omega), Int.sub_zero]
        simp
theorem top_same (hE : GoodE N.length E) (hNC : NetC N.length E (E.map evenC)) (hE6 : E.length ≤ 6) (hn : N.length ≤ 8) (hs : s < N.length) (h0 : 0 ≤ a) {L : List Int} (hL : OkL N.length E (E.map evenC) s a L) (hS : ∀ i, i < E.length → Shut E (E.map evenC) L i) {v : Nat} (hv : v < N.length) :
    (allL (N.length : Int) 0 (allR E 60) (s : Int) a).getD v 0 = L.getD v 0 ∨ 60 ≤ L.getD v 0 := by
  have htab := allR_tab hE hE6 hn
  by_cases c : v = s
  · subst c
    left
    have e1 : (allL (N.length : Int) 0 (allR E 60) (v : Int) a).getD v 0 = a := by
      unfold allL
      rw [getD_set, if_pos ⟨Int.toNat_natCast v, by rw [allFold_len]; simp; omega⟩]
    obtain ⟨s1, s2⟩ := hL.st
    have := (top_reach hE hNC h0 (hL.true_ v hv s1)).1
    omega
  · have hvs : (v : Int) ≠ (s : Int) := by omega
    have spec := fun by_ => all_spec (a := (s : Int)) (at_ := a) htab (by omega) (s := v) (by omega) hvs by_
    have hback : ∀ by_, 0 ≤ (allL (N.length : Int) 0 (allR E 60) (s : Int) a).getD v 0 → (allL (N.length : Int) 0 (allR E 60) (s : Int) a).getD v 0 ≤ by_ → 0 ≤ L.getD v 0 ∧ L.getD v 0 ≤ by_ := fun by_ g1 g2 => by
      obtain ⟨j, j1, j2, j3, j4⟩ := (spec by_).2.1 ⟨g1, g2⟩
      obtain ⟨t, t1, t2⟩ := top_tr hE hNC j1 j2
      rw [j3, Int.toNat_natCast] at t1
      have := shut_least hNC hL hS t1
      omega
    have hm1 := (spec 0).1
    by_cases c1 : L.getD v 0 < 0
    · left
      have := hL.neg v hv c1
      by_cases g : 0 ≤ (allL (N.length : Int) 0 (allR E 60) (s : Int) a).getD v 0
      · have := hback _ g (Int.le_refl _); omega
      · omega
    · by_cases c2 : 60 ≤ L.getD v 0
      · exact .inr c2
      · left
        rcases (top_reach hE hNC h0 (hL.true_ v hv (by omega))).2 (by omega) with ⟨g, _⟩ | ⟨j, j1, j2, j3, j4⟩
        · exact absurd g c
        · obtain ⟨g1, g2⟩ := (spec (L.getD v 0)).2.2 ⟨j, j1, j2, j3, by omega⟩
          have := hback _ g1 (Int.le_refl _)
          omega
end
end Go.Proofs.Ythfjdcdbimjkjaa.Rw

namespace Go.Proofs.Ythfjdcdbimjkjaa.Rw
open Go.Rx
set_option linter.unusedVariables false
set_option linter.unusedSimpArgs false
theorem g3ways_true (j : Nat) : f18 (j + 60) = some (true, ()) := by kernel_rfl
theorem rowR_snoc (E : List Ed) (now i : Nat) : rowR E now (i + 1) 0 = rowR E now i 0 ++ [rideE E now i] := by
  unfold rowR
  rw [List.range'_concat]
  simp
theorem top_l2 {N : List Pt} {E : List Ed} {B : List Pt} {S x : Int} {res : Bool × Unit} (hE : E.length ≤ 6) (hcs : ∀ k, k < E.length → 0 ≤ costE E (k : Int) ∧ costE E (k : Int) ≤ 1000) {now : Nat} (hnow : now < 60)
    (hres : Ev2 (fun k n => f3_l0 k n N E B S (allR E (now + 1)) ((now + 1 : Nat) : Int) x) res) : ∀ (d i : Nat), i + d = E.length →
    Ev3 (fun k n m => f3_l2 k (f3_l0 k n) m N E B S (allR E now ++ rowR E now i 0) (now : Int) (E.length : Int) (i : Int) x) res
  | 0, i, hi => by
    have e : i = E.length := by omega
    subst e
    refine Ev3.step (g := fun k n _ => f3_l0 k n N E B S (allR E (now + 1)) ((now + 1 : Nat) : Int) x) (fun k n m => ?_) hres.three
    have hw : w64 ((now : Int) + 1) = ((now + 1 : Nat) : Int) := by rw [w64_id (by omega) (by omega)]; omega
    rw [f3_l2, f3_l2_B, if_neg (by omega), hw]
    rfl
  | d + 1, i, hi => by
    have hiE : i < E.length := by omega
    have i0 : (0 : Int) ≤ (i : Int) := by omega
    have i1 : (i : Int) < (E.length : Int) := by omega
    have hw : w64 ((i : Int) + 1) = ((i + 1 : Nat) : Int) := by rw [w64_id (by omega) (by omega)]; omega
    obtain ⟨c0, c1⟩ := hcs i hiE
    have hlen : (allR E now ++ rowR E now i 0).length ≤ 366 := by
      rw [List.length_append, allR_len, rowR_len]
      have : now * E.length ≤ 60 * 6 := Nat.mul_le_mul (by omega) hE
      omega
    have ih := top_l2 (N := N) (B := B) (S := S) (x := x) hE hcs hnow hres d (i + 1) (by omega)
    refine Ev3.step (fun k n m => ?_) ih
    rw [f3_l2, f3_l2_B, if_pos i1, if_pos i0, if_pos i1, if_pos (by omega), hw, rowR_snoc, ← List.append_assoc]
    have hc : w64 ((now : Int) + (E.getD ((i : Int)).toNat (0, (0, (0, 0)))).2.2.1) = (now : Int) + costE E (i : Int) := by
      show w64 ((now : Int) + costE E (i : Int)) = _
      rw [w64_id (by omega) (by omega)]
    rw [hc]
    rfl
theorem top_l0 {N : List Pt} {E : List Ed} {B : List Pt} {S x : Int} {res : Bool × Unit} (hE : E.length ≤ 6) (hcs : ∀ k, k < E.length → 0 ≤ costE E (k : Int) ∧ costE E (k : Int) ≤ 1000)
    (hres : Ev2 (fun k n => f3_l4 k n N E B S (allR E 60) [] (E.length : Int) 0 x) res) : ∀ (d now : Nat), now + d = 60 →
    Ev2 (fun k n => f3_l0 k n N E B S (allR E now) (now : Int) x) res
  | 0, now, hd => by
    have e : now = 60 := by omega
    subst e
    refine Ev2.step (fun k n => ?_) hres.diag.two
    rw [f3_l0, f3_l0_B, if_neg (by decide)]
  | d + 1, now, hd => by
    have ih := top_l0 hE hcs hres d (now + 1) (by omega)
    have := (top_l2 (now := now) hE hcs (by omega) ih E.length 0 (by omega)).in_
    refine Ev2.step (fun k n => ?_) this
    rw [f3_l0, f3_l0_B, if_pos (by omega)]
    simp only [rowR, List.range'_zero, List.map_nil, List.append_nil]
    rfl
theorem top_l6 {A L : List Int} (hl : A.length = L.length) (hn : A.length ≤ 1000) (h : ∀ v, v < A.length → A.getD v 0 = L.getD v 0 ∨ 60 ≤ L.getD v 0) : ∀ (d i : Nat), i + d = A.length →
    Ev2 (fun k n => f3_l6 k n A L (A.length : Int) (i : Int)) (true, ())
  | 0, i, hi => by
    refine Ev2.step (g := fun _ _ => some (true, ())) (fun k n => ?_) (Ev2.pure _)
    rw [f3_l6, f3_l6_B, if_neg (by omega)]
  | d + 1, i, hi => by
    have i0 : (0 : Int) ≤ (i : Int) := by omega
    have i1 : (i : Int) < (A.length : Int) := by omega
    have i2 : (i : Int) < (L.length : Int) := by omega
    have hw : w64 ((i : Int) + 1) = ((i + 1 : Nat) : Int) := by rw [w64_id (by omega) (by omega)]; omega
    have ih := top_l6 hl hn h d (i + 1) (by omega)
    have r27 : ∀ k r, f3_r27 k r A L (A.length : Int) (i : Int) false = r A L (A.length : Int) ((i + 1 : Nat) : Int) := fun k r => by
      rw [f3_r27, f3_r27_B, if_neg (by simp), hw]
    refine Ev2.step (fun k n => ?_) ih
    rw [f3_l6, f3_l6_B, if_pos i1, if_pos i0, if_pos i1, if_pos i0, if_pos i2]
    simp only [Int.toNat_natCast]
    rcases h i (by omega) with e | e
    · rw [if_neg (fun z => z e), r27]
    · by_cases c : A.getD i 0 = L.getD i 0
      · rw [if_neg (fun z => z c), r27]
      · rw [if_pos c, if_pos i0, if_pos i2, if_neg (by omega), if_pos i0, if_pos i2, decide_eq_false (by omega), r27]
theorem top_l4 {N : List Pt} {E : List Ed} {S x : Int} {res : Bool × Unit} (hE : E.length ≤ 6)
    (hres : Ev2 (fun k n => f3_l4 k n N E [] S (allR E 60) (E.map evenC) (E.length : Int) (E.length : Int) x) res) : ∀ (l pre : List Ed), pre ++ l = E →
    Ev2 (fun k n => f3_l4 k n N E [] S (allR E 60) (pre.map evenC) (E.length : Int) (pre.length : Int) x) res
  | [], pre, hpl => by
    have e : pre = E := by simpa using hpl
    subst e
    exact hres
  | e :: l, pre, hpl => by
    have i0 : (0 : Int) ≤ (pre.length : Int) := by omega
    have hlt : pre.length < E.length := by rw [← hpl]; simp
    have i1 : (pre.length : Int) < (E.length : Int) := by omega
    have hg : E.getD ((pre.length : Int)).toNat (0, (0, (0, 0))) = e := by rw [← hpl]; exact getD_mid
    have hw : w64 ((pre.length : Int) + 1) = (((pre ++ [e]).length : Nat) : Int) := by
      rw [w64_id (by omega) (by omega)]; simp
    have ih := top_l4 (N := N) (S := S) (x := x) hE hres l (pre ++ [e]) (by simp [← hpl])
    refine Ev2.step (fun k n => ?_) ih
    rw [f3_l4, f3_l4_B, if_pos i1, if_pos i0, if_pos i1, hg, if_pos (by rw [List.length_map]; simp only [List.length_singleton]; omega), hw, List.map_append]
    rfl
theorem topTimes_law (a : List Int) (x : Int) : Ev (fun k => f3 k a x) (true, ()) := by
  obtain ⟨N, E0, B, n1, n2, n3, e1, e2, b1, b2, hnet⟩ := net_ev a
  have hp : Ev (fun k => f14 k a) ((N, (E0, ([] : List Pt))), ()) := by
    simp only [f14, f14_entry_B]
    exact hnet.bind (Ev.pure _)
  generalize hE : E0.take (min E0.length 6) = E
  have hE6 : E.length ≤ 6 := by rw [← hE, List.length_take]; omega
  have hG : GoodE N.length E := fun e he => e1 e (by rw [← hE] at he; exact List.mem_of_mem_take he)
  have hv : netF (N, (E, ([] : List Pt))) = 0 := made_valid n1 n3 hG (by omega) ⟨List.nodup_nil, fun b hb => by cases hb⟩ (by simp)
  have l1 := below_lt (x := x) (n := 5) (by omega)
  have hcs : ∀ k, k < E.length → 0 ≤ costE E (k : Int) ∧ costE E (k : Int) ≤ 1000 := fun k hk => by
    have := hG (E.getD k zE) (by rw [List.getD_eq_getElem?_getD, List.getElem?_eq_getElem hk]; exact List.getElem_mem hk)
    show 0 ≤ (E.getD ((k : Int)).toNat zE).2.2.1 ∧ (E.getD ((k : Int)).toNat zE).2.2.1 ≤ 1000
    rw [Int.toNat_natCast]; omega
  obtain ⟨hNC, L, k1, k2, k3⟩ := hoursOK_ev (C := E.map evenC) (s := 0) (a := belowF x 5) hv (by simp) (evenC_zero (E := E) E hG) (by omega) l1.1 (by omega)
  have htab := allR_tab hG hE6 n3
  have hall := all_ev (N.length : Int) 0 (allR E 60) 0 (belowF x 5)
  have h1F : valid1F (N.length : Int) 0 (allR E 60) 0 (belowF x 5) = 0 := by
    have hb : ¬ badS (N.length : Int) 0 := by unfold badS; omega
    unfold valid1F
    rw [if_pos htab, if_neg hb, if_neg (by omega)]
  unfold allF at hall
  rw [if_pos h1F] at hall
  have hsame := fun v (hv : v < N.length) => top_same (s := 0) (a := belowF x 5) hG hNC hE6 n3 (by omega) l1.1 k1 k2 hv
  have hAl : (allL (N.length : Int) 0 (allR E 60) 0 (belowF x 5)).length = N.length := by rw [allL_len, Int.toNat_natCast]
  have hend := (top_l6 (A := allL (N.length : Int) 0 (allR E 60) 0 (belowF x 5)) (L := L) (by rw [hAl, k1.len]) (by omega) (fun v hv => hsame v (by omega)) N.length 0 (by omega)).diag
  have hg3 : Ev (fun k => f18 k) (true, ()) := Ev.off 60 g3ways_true
  have hlast : Ev2 (fun k n => f3_l4 k n N E [] (N.length : Int) (allR E 60) (E.map evenC) (E.length : Int) (E.length : Int) (belowF x 5)) (true, ()) := by
    refine Ev2.step (g := fun k _ => (f16 k ((N.length : Int), (0, allR E 60)) 0 (belowF x 5)).bind fun r1 => (f17 k (N, (E, ([] : List Pt))) (E.map evenC) 0 (belowF x 5)).bind fun r2 => (f18 k).bind fun r3 => (if ¬ (r3.1 = true) then (f3_r22 k r1.1 r2.1 true) else (if ¬ (r1.2.1 = 0) then (f3_r22 k r1.1 r2.1 true) else (if ¬ (r2.2.1 = 0) then (f3_r22 k r1.1 r2.1 true) else (if ¬ ((r1.1.length : Int) = (N.length : Int)) then (f3_r22 k r1.1 r2.1 true) else (f3_r22 k r1.1 r2.1 (decide (¬ ((r2.1.length : Int) = (r1.1.length : Int)))))))))) (fun k n => ?_) ?_
    · rw [f3_l4, f3_l4_B, if_neg (by omega)]
    · refine (hall.bind (k3.bind (hg3.bind ?_))).two
      have z1 : ¬ ¬ ((allL (N.length : Int) 0 (allR E 60) 0 (belowF x 5)).length : Int) = (N.length : Int) := fun z => z (by rw [hAl])
      simp only [not_true_eq_false, if_false, if_neg z1]
      refine Ev.of (fun k => ?_) hend
      rw [show decide (¬ (L.length : Int) = ((allL (N.length : Int) 0 (allR E 60) 0 (belowF x 5)).length : Int)) = false from decide_eq_false (fun z => z (by rw [hAl, k1.len])), f3_r22, f3_r22_B, if_neg (by simp)]
      rfl
  have hmx : mx2 false (E0.length : Int) 6 = ((min E0.length 6 : Nat) : Int) := by rw [mx2_min]; omega
  simp only [f3, f3_entry_B]
  refine hp.bind ?_
  simp only [hmx]
  refine Ev.of (fun k => by rw [if_pos (by omega), if_pos (by omega), Int.toNat_natCast, hE, below_eq k x 5 (by omega) (by omega), Option.bind_some]) ?_
  exact (top_l0 (now := 0) hE6 hcs (top_l4 hE6 hlast E [] rfl) 60 (by omega)).diag
/-- **A timetable with a ride at every time for every edge leads just where a search over edges whose costs depend on the time leads, not earlier.** -/
theorem pure_TopTimes : Pure_TopTimes := by
  rintro ⟨a, x, u⟩ hwf
  exact (topTimes_law a x).get
end Go.Proofs.Ythfjdcdbimjkjaa.Rw
