/- Timetables: the best ways of the program. No condition. -/
import Derived.Test.YtpbmlhlpfbcnbaaPlTimedPlansb
namespace Go.Proofs.Ytpbmlhlpfbcnbaa.Rw
open Go.Rx
set_option linter.unusedVariables false
set_option linter.unusedSimpArgs false
/-- The order of rows of numbers. -/
def cmpI : List Int → List Int → Int
  | [], [] => 0
  | [], _ :: _ => -1
  | _ :: _, [] => 1
  | a :: l, b :: m => if a < b then -1 else if b < a then 1 else cmpI l m
theorem cmp1 (k : Nat) (a b : Int) : f133 k a b = some (if a < b then -1 else if b < a then 1 else 0, ()) := by
  simp only [f133, f133_entry_B, f175, f175_entry_B]
  by_cases h1 : a < b <;> by_cases h2 : b < a <;> simp [h1, h2]
theorem cmp_loop : ∀ (l m p q : List Int), p.length = q.length → ((p ++ l).length : Int) ≤ 1073741824 → Ev2 (fun k n => f68_l0 k n (p ++ l) (q ++ m) ((p ++ l).length : Int) (p.length : Int)) (cmpI l m, ())
  | [], m, p, q, hpq, hl => Ev2.step (g := fun _ _ => some (cmpI [] m, ())) (fun k n => by
      rw [f68_l0, f68_l0_B, if_neg (by simp)]
      cases m with
      | nil => rw [if_neg (by simp; omega)]; rfl
      | cons b m => rw [if_pos (by simp; omega)]; rfl) (Ev2.pure _)
  | a :: l, m, p, q, hpq, hl => by
    have h0 : (p.length : Int) < ((p ++ a :: l).length : Int) := by simp; omega
    have h1 : (0 : Int) ≤ p.length := by omega
    have hw : w64 ((p.length : Int) + 1) = (((p ++ [a]).length : Nat) : Int) := by
      rw [w64_id (by omega) (by simp at hl; omega)]; simp
    cases m with
    | nil =>
      refine Ev2.step (g := fun _ _ => some (1, ())) (fun k n => ?_) (Ev2.pure _)
      rw [f68_l0, f68_l0_B, if_pos h0, if_pos h1, if_pos h0, if_pos (by simp; omega)]
    | cons b m =>
      have h2 : ¬ ((q ++ b :: m).length : Int) ≤ (p.length : Int) := by simp; omega
      have h3 : (p.length : Int) < ((q ++ b :: m).length : Int) := by simp; omega
      have h4 : (q ++ b :: m).getD ((p.length : Int)).toNat 0 = b := by rw [hpq]; exact getD_mid
      refine Ev2.step (g := fun k n => if a < b then some (-1, ()) else if b < a then some (1, ()) else f68_l0 k n (p ++ a :: l) (q ++ b :: m) ((p ++ a :: l).length : Int) (((p ++ [a]).length : Nat) : Int)) (fun k n => ?_) ?_
      · rw [f68_l0, f68_l0_B, if_pos h0, if_pos h1, if_pos h0, if_neg h2, if_pos h1, if_pos h3, getD_mid, h4, cmp1]
        simp only [Option.bind_some, hw]
        by_cases g1 : a < b
        · simp [g1]
        · by_cases g2 : b < a <;> simp [g1, g2]
      · simp only [cmpI]
        split
        · exact Ev2.pure _
        · split
          · exact Ev2.pure _
          · have := cmp_loop l m (p ++ [a]) (q ++ [b]) (by simp; omega) (by simpa using hl)
            rw [show p ++ [a] ++ l = p ++ a :: l by simp, show q ++ [b] ++ m = q ++ b :: m by simp] at this
            exact this
theorem cmp_ev (l m : List Int) (hl : (l.length : Int) ≤ 1073741824) : Ev (fun k => f68 k l m) (cmpI l m, ()) := by
  simp only [f68, f68_entry_B]
  simpa using (cmp_loop l m [] [] rfl (by simpa using hl)).diag
theorem clone_eq (k : Nat) (l : List Int) (hl : (l.length : Int) ≤ 1073741824) : f78u k l = some (l, ()) := by
  have h2 : ([] : List Int).length * 8 ≤ 140737488355328 := by simp
  cases l with
  | nil => rfl
  | cons a l =>
    show (if false = true then some (([] : List Int), ()) else if (([] : List Int).length + (a :: l).length) * 8 ≤ 140737488355328 then some (([] : List Int) ++ (a :: l), ()) else none) = some (a :: l, ())
    rw [if_neg (by simp), if_pos (by simp at hl ⊢; omega)]
    rfl

/-! ### best -/
abbrev Ways := List (Option (List Int))
def lessW (w v : List Int) : Bool := decide ((w.length : Int) < (v.length : Int)) || (decide ((w.length : Int) = (v.length : Int)) && decide (cmpI w v < 0))
/-- The way to the ride kk over the ride i, if it is better. -/
def relax (C : Int) (rides : List Ride) (kk i : Nat) (ways : Ways) : Ways :=
  match ways.getD i none with
  | none => ways
  | some u => if folF C (rides.getD i zR) (rides.getD kk zR) = true then
      match ways.getD kk none with
      | none => ways.set kk (some (u ++ [(kk : Int)]))
      | some v => if lessW (u ++ [(kk : Int)]) v = true then ways.set kk (some (u ++ [(kk : Int)])) else ways
    else ways
def okW (rides : List Ride) (ways : Ways) : Prop := ways.length = rides.length ∧ ∀ i u, ways.getD i none = some u → u.length ≤ i + 1
theorem getD_set {α : Type} (l : List α) (i j : Nat) (x z : α) : (l.set i x).getD j z = if i = j ∧ i < l.length then x else l.getD j z := by
  simp only [List.getD_eq_getElem?_getD, List.getElem?_set]
  by_cases h : i = j
  · subst h
    by_cases h2 : i < l.length
    · simp [h2]
    · simp [h2, List.getElem?_eq_none (show l.length ≤ i by omega)]
  · simp [h]
theorem okW_set {rides : List Ride} {ways : Ways} (h : okW rides ways) {kk : Nat} {w : List Int} (hw : w.length ≤ kk + 1) : okW rides (ways.set kk (some w)) := by
  refine ⟨by simp [h.1], fun i u hu => ?_⟩
  rw [getD_set] at hu
  split at hu
  · rename_i hi
    cases hu
    omega
  · exact h.2 i u hu
theorem okW_relax {C : Int} {rides : List Ride} {kk i : Nat} (hi : i < kk) {ways : Ways} (h : okW rides ways) : okW rides (relax C rides kk i ways) := by
  unfold relax
  split
  · exact h
  · rename_i u hu
    have hl := h.2 i u hu
    have hl2 : (u ++ [(kk : Int)]).length ≤ kk + 1 := by simp; omega
    split
    · split
      · exact okW_set h hl2
      · split
        · exact okW_set h hl2
        · exact h
    · exact h
theorem f80x (k : Nat) (S C : Int) (l : List Ride) (a b : Ride) : f83 k (S, (C, l)) a b = some (folF C a b, ()) := f83_eq' k S C l a b
theorem best_r12 {rl2 : Ways → Int → Int → List Ride → Int → Int → Int → Int → Int → Int → Int → Int → Int → Int → Option (Ways × Unit)} {RL : Ways → Int → Int → List Ride → Int → Int → Int → Int → Option (Ways × Unit)} (k : Nat) (S C fr at_ L : Int) (rides : List Ride) (kk i : Nat) (r : Ride) (ways : Ways) (w : List Int) (b : Bool) (hw : w.isEmpty = false) (hk : (kk : Int) < (ways.length : Int)) (hi : i ≤ 1000) :
    f75_r12 k rl2 RL ways S C rides w r.1 r.2.1 r.2.2.1 r.2.2.2.1 r.2.2.2.2 fr b L (kk : Int) at_ (i : Int) = rl2 (if b = true then ways.set kk (some w) else ways) S C rides r.1 r.2.1 r.2.2.1 r.2.2.2.1 r.2.2.2.2 fr L (kk : Int) at_ ((i + 1 : Nat) : Int) := by
  have e : w64 ((i : Int) + 1) = ((i + 1 : Nat) : Int) := by rw [w64_id (by omega) (by omega)]; omega
  have hk0 : (0 : Int) ≤ (kk : Int) := by omega
  simp only [f75_r12, f75_r12_B, f75_c13, f75_c13_B, f75_b3, f75_b3_B, e, if_pos hk, if_pos hk0, if_pos hw, Int.toNat_natCast]
  split <;> rfl
theorem best_inner {RL : Nat → Nat → Ways → Int → Int → List Ride → Int → Int → Int → Int → Option (Ways × Unit)} {res : Ways × Unit} (S C fr at_ L : Int) (rides : List Ride) (kk : Nat) (hkk : kk < rides.length) (hr : rides.length ≤ 400) (r : Ride) (hrk : rides.getD kk zR = r) :
    ∀ (d i : Nat) (ways : Ways), i + d = kk → okW rides ways → Ev2 (fun k n => RL k n ((List.range' i d).foldl (fun w j => relax C rides kk j w) ways) S C rides fr L ((kk : Int) + 1) at_) res →
      Ev3 (fun k n m => f75_l2 k (RL k n) m ways S C rides r.1 r.2.1 r.2.2.1 r.2.2.2.1 r.2.2.2.2 fr L (kk : Int) at_ (i : Int)) res
  | 0, i, ways, hid, hok, hfin => by
    refine Ev3.step (g := fun k n m => RL k n ways S C rides fr L ((kk : Int) + 1) at_) (fun k n m => ?_) (Ev2.three (by simpa using hfin))
    rw [f75_l2, f75_l2_B, if_neg (by omega)]
    simp only [f75_b1, f75_b1_B]
    rw [w64_id (by omega) (by omega)]
  | d + 1, i, ways, hid, hok, hfin => by
    have hi1 : (i : Int) < (kk : Int) := by omega
    have hi0 : (0 : Int) ≤ (i : Int) := by omega
    have hi2 : (i : Int) < (ways.length : Int) := by rw [hok.1]; omega
    have hi3 : (i : Int) < (rides.length : Int) := by omega
    have hk0 : (0 : Int) ≤ (kk : Int) := by omega
    have hk2 : (kk : Int) < (ways.length : Int) := by rw [hok.1]; omega
    have hw : w64 ((i : Int) + 1) = ((i + 1 : Nat) : Int) := by rw [w64_id (by omega) (by omega)]; omega
    have ih := fun ways' hok' h => best_inner (RL := RL) (res := res) S C fr at_ L rides kk hkk hr r hrk d (i + 1) ways' (by omega) hok' h
    simp only [List.range'_succ, List.foldl_cons] at hfin
    have ih := ih (relax C rides kk i ways) (okW_relax (by omega) hok) hfin
    cases hu : ways.getD i none with
    | none =>
      have e : relax C rides kk i ways = ways := by unfold relax; rw [hu]
      rw [e] at ih
      refine Ev3.step (fun k n m => ?_) ih
      rw [f75_l2, f75_l2_B, if_pos hi1, if_pos hi0, if_pos hi2, Int.toNat_natCast, hu]
      simp [isNilO, f75_r10, f75_r10_B, f75_b3, f75_b3_B, hw]
    | some u =>
      have hul := hok.2 i u hu
      have hul2 : (u.length : Int) ≤ 1073741824 := by omega
      have hwl : ((u ++ [(kk : Int)]).length : Int) ≤ 1073741824 := by simp; omega
      have hwe : (u ++ [(kk : Int)]).isEmpty = false := by simp
      have hb : (u.length + 1) * 8 ≤ 140737488355328 := by omega
      have hrd : ∀ z : Ride, rides.getD i z = rides.getD i zR := fun z => by
        have : i < rides.length := by omega
        simp [List.getD_eq_getElem?_getD, List.getElem?_eq_getElem this]
      have open1 : ∀ k n m, f75_l2 k (RL k n) (m + 1) ways S C rides r.1 r.2.1 r.2.2.1 r.2.2.2.1 r.2.2.2.2 fr L (kk : Int) at_ (i : Int) =
          f75_r10 k (fun y15 y3_0 y3_1 y3_2 y9_0 y9_1 y9_2 y9_3 y9_4 x1 x18 x19 x2 x40 => f75_l2 k (RL k n) m y15 y3_0 y3_1 y3_2 y9_0 y9_1 y9_2 y9_3 y9_4 x1 x18 x19 x2 x40) (RL k n) ways S C rides r.1 r.2.1 r.2.2.1 r.2.2.2.1 r.2.2.2.2 fr (i : Int) L (kk : Int) at_ (decide (¬ folF C (rides.getD i zR) r = true)) := fun k n m => by
        rw [f75_l2, f75_l2_B, if_pos hi1, if_pos hi0, if_pos hi2, Int.toNat_natCast, hu]
        simp only [isNilO, Bool.false_eq_true, if_false, if_pos hi0, if_pos hi3, hrd, f80x, eta5, Option.bind_some]
      cases hf : folF C (rides.getD i zR) r with
      | false =>
        have e : relax C rides kk i ways = ways := by unfold relax; rw [hu, hrk]; simp only [hf, Bool.false_eq_true, if_false]
        rw [e] at ih
        refine Ev3.step (fun k n m => ?_) ih
        rw [open1, hf]
        simp [f75_r10, f75_r10_B, f75_b3, f75_b3_B, hw]
      | true =>
        have nx : ∀ (b : Bool) k n m, f75_r12 k (fun y15 y3_0 y3_1 y3_2 y9_0 y9_1 y9_2 y9_3 y9_4 x1 x18 x19 x2 x40 => f75_l2 k (RL k n) m y15 y3_0 y3_1 y3_2 y9_0 y9_1 y9_2 y9_3 y9_4 x1 x18 x19 x2 x40) (RL k n) ways S C rides (u ++ [(kk : Int)]) r.1 r.2.1 r.2.2.1 r.2.2.2.1 r.2.2.2.2 fr b L (kk : Int) at_ (i : Int) =
            f75_l2 k (RL k n) m (if b = true then ways.set kk (some (u ++ [(kk : Int)])) else ways) S C rides r.1 r.2.1 r.2.2.1 r.2.2.2.1 r.2.2.2.2 fr L (kk : Int) at_ ((i + 1 : Nat) : Int) := fun b k n m => best_r12 k S C fr at_ L rides kk i r ways _ b hwe hk2 (by omega)
        cases hv : ways.getD kk none with
        | none =>
          have e : relax C rides kk i ways = ways.set kk (some (u ++ [(kk : Int)])) := by unfold relax; rw [hu, hrk]; simp only [hf, if_true, hv]
          rw [e] at ih
          refine Ev3.step (fun k n m => ?_) ih
          rw [open1, hf]
          simp only [f75_r10, f75_r10_B, not_true_eq_false, decide_false, Bool.false_eq_true, if_false, if_pos hi0, if_pos hi2, Int.toNat_natCast, hu, slL, clone_eq k u hul2, Option.bind_some, if_pos hb, if_pos hk0, if_pos hk2, hv, isNilO, if_true, nx]
        | some v =>
          have e0 : relax C rides kk i ways = if lessW (u ++ [(kk : Int)]) v = true then ways.set kk (some (u ++ [(kk : Int)])) else ways := by unfold relax; rw [hu, hrk]; simp only [hf, if_true, hv]
          rw [e0] at ih
          have open2 : ∀ k n m, f75_l2 k (RL k n) (m + 1) ways S C rides r.1 r.2.1 r.2.2.1 r.2.2.2.1 r.2.2.2.2 fr L (kk : Int) at_ (i : Int) =
              if ((u ++ [(kk : Int)]).length : Int) < (v.length : Int) then f75_l2 k (RL k n) m (ways.set kk (some (u ++ [(kk : Int)]))) S C rides r.1 r.2.1 r.2.2.1 r.2.2.2.1 r.2.2.2.2 fr L (kk : Int) at_ ((i + 1 : Nat) : Int)
              else if ((u ++ [(kk : Int)]).length : Int) = (v.length : Int) then (f68 k (u ++ [(kk : Int)]) v).bind fun r2 => f75_l2 k (RL k n) m (if decide (r2.1 < 0) = true then ways.set kk (some (u ++ [(kk : Int)])) else ways) S C rides r.1 r.2.1 r.2.2.1 r.2.2.2.1 r.2.2.2.2 fr L (kk : Int) at_ ((i + 1 : Nat) : Int)
              else f75_l2 k (RL k n) m ways S C rides r.1 r.2.1 r.2.2.1 r.2.2.2.1 r.2.2.2.2 fr L (kk : Int) at_ ((i + 1 : Nat) : Int) := fun k n m => by
            rw [open1, hf]
            simp only [f75_r10, f75_r10_B, not_true_eq_false, decide_false, Bool.false_eq_true, if_false, if_pos hi0, if_pos hi2, Int.toNat_natCast, hu, slL, clone_eq k u hul2, Option.bind_some, if_pos hb, if_pos hk0, if_pos hk2, hv, isNilO, if_true, nx]
          by_cases c1 : ((u ++ [(kk : Int)]).length : Int) < (v.length : Int)
          · have el : lessW (u ++ [(kk : Int)]) v = true := by unfold lessW; rw [decide_eq_true c1]; rfl
            rw [el] at ih
            refine Ev3.step (fun k n m => ?_) ih
            rw [open2, if_pos c1, if_pos rfl]
          · by_cases c2 : ((u ++ [(kk : Int)]).length : Int) = (v.length : Int)
            · have el : lessW (u ++ [(kk : Int)]) v = decide (cmpI (u ++ [(kk : Int)]) v < 0) := by unfold lessW; rw [decide_eq_false c1, decide_eq_true c2]; simp
              rw [el] at ih
              refine Ev3.step (fun k n m => by rw [open2, if_neg c1, if_pos c2]) ((cmp_ev (u ++ [(kk : Int)]) v hwl).bind3 ih)
            · have el : lessW (u ++ [(kk : Int)]) v = false := by unfold lessW; rw [decide_eq_false c1, decide_eq_false c2]; rfl
              rw [el] at ih
              refine Ev3.step (fun k n m => ?_) ih
              rw [open2, if_neg c1, if_neg c2]
              rfl

def bestStep (C fr at_ : Int) (rides : List Ride) (kk : Nat) (ways : Ways) : Ways :=
  if (rides.getD kk zR).1 = fr ∧ at_ ≤ (rides.getD kk zR).2.2.1 then ways.set kk (some [(kk : Int)]) else (List.range' 0 kk).foldl (fun w j => relax C rides kk j w) ways
def bestW (C fr at_ : Int) (rides : List Ride) : Ways := (List.range' 0 rides.length).foldl (fun w kk => bestStep C fr at_ rides kk w) (List.replicate rides.length none)
theorem okW_fold {C : Int} {rides : List Ride} {kk : Nat} : ∀ (l : List Nat) (ways : Ways), (∀ i ∈ l, i < kk) → okW rides ways → okW rides (l.foldl (fun w j => relax C rides kk j w) ways)
  | [], _, _, h => h
  | i :: l, ways, hl, h => okW_fold l _ (fun j hj => hl j (List.mem_cons_of_mem _ hj)) (okW_relax (hl i (List.mem_cons_self ..)) h)
theorem okW_step {C fr at_ : Int} {rides : List Ride} {kk : Nat} {ways : Ways} (h : okW rides ways) : okW rides (bestStep C fr at_ rides kk ways) := by
  unfold bestStep
  split
  · exact okW_set h (by simp)
  · exact okW_fold _ _ (fun i hi => by simp [List.mem_range'] at hi; omega) h
theorem best_outer (S C fr at_ : Int) (rides : List Ride) (hr : rides.length ≤ 400) : ∀ (d kk : Nat) (ways : Ways), kk + d = rides.length → okW rides ways →
    Ev2 (fun k n => f75_l0 k n ways S C rides fr (rides.length : Int) (kk : Int) at_) ((List.range' kk d).foldl (fun w kk => bestStep C fr at_ rides kk w) ways, ())
  | 0, kk, ways, hid, hok => Ev2.step (g := fun _ _ => some (ways, ())) (fun k n => by rw [f75_l0, f75_l0_B, if_neg (by omega)]) (Ev2.pure _)
  | d + 1, kk, ways, hid, hok => by
    have h1 : (kk : Int) < (rides.length : Int) := by omega
    have h0 : (0 : Int) ≤ (kk : Int) := by omega
    have h2 : (kk : Int) < (ways.length : Int) := by rw [hok.1]; omega
    have hw : w64 ((kk : Int) + 1) = ((kk + 1 : Nat) : Int) := by rw [w64_id (by omega) (by omega)]; omega
    have hrd : ∀ z : Ride, rides.getD kk z = rides.getD kk zR := fun z => by
      have : kk < rides.length := by omega
      simp [List.getD_eq_getElem?_getD, List.getElem?_eq_getElem this]
    have ih := best_outer S C fr at_ rides hr d (kk + 1) (bestStep C fr at_ rides kk ways) (by omega) (okW_step hok)
    simp only [List.range'_succ, List.foldl_cons]
    generalize hrk : rides.getD kk zR = r at hrd
    by_cases hc : r.1 = fr ∧ at_ ≤ r.2.2.1
    · have e : bestStep C fr at_ rides kk ways = ways.set kk (some [(kk : Int)]) := by unfold bestStep; rw [hrk, if_pos hc]
      rw [e] at ih ⊢
      refine Ev2.step (fun k n => ?_) ih
      rw [f75_l0, f75_l0_B, if_pos h1, if_pos h0, if_pos h1]
      simp only [Int.toNat_natCast, hrd, hc.1, if_true, decide_eq_true hc.2, f75_r5, f75_r5_B, if_pos h0, if_pos h2, List.isEmpty_cons, f75_b1, f75_b1_B, hw]
    · have e : bestStep C fr at_ rides kk ways = (List.range' 0 kk).foldl (fun w j => relax C rides kk j w) ways := by unfold bestStep; rw [hrk, if_neg hc]
      rw [e] at ih ⊢
      have hin := (best_inner (RL := fun k n => f75_l0 k n) S C fr at_ (rides.length : Int) rides kk (by omega) hr r hrk kk 0 ways (by omega) hok (by simpa using ih)).in_
      refine Ev2.step (fun k n => ?_) hin
      rw [f75_l0, f75_l0_B, if_pos h1, if_pos h0, if_pos h1]
      simp only [Int.toNat_natCast, hrd, f75_r5, f75_r5_B]
      by_cases c1 : r.1 = fr
      · have c2 : ¬ at_ ≤ r.2.2.1 := fun h => hc ⟨c1, h⟩
        simp only [c1, c2, if_true, decide_false, Bool.false_eq_true, if_false]
        rfl
      · simp only [c1, Bool.false_eq_true, if_false]
        rfl
theorem best_ev (S C fr at_ : Int) (rides : List Ride) (hr : rides.length ≤ 400) : Ev (fun k => f75 k (S, (C, rides)) fr at_) (bestW C fr at_ rides, ()) := by
  have h := (best_outer S C fr at_ rides hr rides.length 0 (List.replicate rides.length none) (by omega) ⟨by simp, fun i u hu => by
    simp only [List.getD_eq_getElem?_getD, List.getElem?_replicate] at hu
    split at hu <;> simp at hu⟩).diag
  refine Ev.of (fun k => ?_) h
  simp only [f75, f75_entry_B]
  rw [if_pos (by omega), if_pos (by omega)]
  simp
end Go.Proofs.Ytpbmlhlpfbcnbaa.Rw
