/- Timetables: the reference's lists and journeys. No condition. -/
import Derived.Test.YtpbmlhlpfbcnbaaPlTimedPlansl
namespace Go.Proofs.Ytpbmlhlpfbcnbaa.Rw
open Go.Rx
set_option linter.unusedVariables false
set_option linter.unusedSimpArgs false
theorem cmpI_snoc (x : Int) : ∀ (u v : List Int), u.length = v.length → cmpI (u ++ [x]) (v ++ [x]) = cmpI u v
  | [], [], _ => by simp [cmpI]
  | a :: u, b :: v, h => by
    simp only [List.cons_append, cmpI]
    rw [cmpI_snoc x u v (by simpa using h)]
  | [], _ :: _, h => by simp at h
  | _ :: _, [], h => by simp at h
theorem lessW_snoc (x : Int) (u v : List Int) : lessW (u ++ [x]) (v ++ [x]) = lessW u v := by
  unfold lessW
  by_cases h : u.length = v.length
  · rw [cmpI_snoc x u v h]; simp [h]
  · have e1 : decide ((((u ++ [x]).length : Nat) : Int) = (((v ++ [x]).length : Nat) : Int)) = false := decide_eq_false (by simp; omega)
    have e2 : decide ((u.length : Int) = (v.length : Int)) = false := decide_eq_false (by omega)
    rw [e1, e2]
    simp
def neW (ways : Ways) : Prop := ∀ i u, ways.getD i none = some u → u ≠ []
/-- The better one of the ways to the ride before. -/
def pick (C : Int) (W : Ways) (rides : List Ride) (kk i : Nat) (b : Option (List Int)) : Option (List Int) :=
  if 0 < ((wayAt W i).length : Int) then (if canF C (rides.getD i zR) (rides.getD kk zR) = true then (if isNilO b = true then W.getD i none else if lessW (wayAt W i) (slL true b) = true then W.getD i none else b) else b) else b
theorem relax_pick {C : Int} {W : Ways} {rides : List Ride} {kk i : Nat} (hi : i < kk) (hk : kk < W.length) (hne : neW W) (hcf : canF C (rides.getD i zR) (rides.getD kk zR) = folF C (rides.getD i zR) (rides.getD kk zR)) (b : Option (List Int)) :
    relax C rides kk i (W.set kk (b.map (· ++ [(kk : Int)]))) = W.set kk ((pick C W rides kk i b).map (· ++ [(kk : Int)])) := by
  have e1 : (W.set kk (b.map (· ++ [(kk : Int)]))).getD i none = W.getD i none := by rw [getD_set, if_neg (fun z => by omega)]
  have e2 : (W.set kk (b.map (· ++ [(kk : Int)]))).getD kk none = b.map (· ++ [(kk : Int)]) := by rw [getD_set, if_pos ⟨rfl, hk⟩]
  unfold relax pick wayAt
  rw [e1, e2, hcf]
  cases hu : W.getD i none with
  | none => simp [slL]
  | some u =>
    have hlen : 0 < ((slL true (some u)).length : Int) := by
      have := hne i u hu
      have : u.length ≠ 0 := fun z => this (List.length_eq_zero_iff.1 z)
      show 0 < (u.length : Int)
      omega
    rw [if_pos hlen]
    by_cases hf : folF C (rides.getD i zR) (rides.getD kk zR) = true
    · simp only [if_pos hf]
      cases b with
      | none => simp [isNilO, List.set_set]
      | some v =>
        show (if lessW (u ++ [(kk : Int)]) (v ++ [(kk : Int)]) = true then (W.set kk (some (v ++ [(kk : Int)]))).set kk (some (u ++ [(kk : Int)])) else W.set kk (some (v ++ [(kk : Int)]))) = W.set kk (Option.map (· ++ [(kk : Int)]) (if lessW u v = true then some u else some v))
        rw [lessW_snoc]
        by_cases hl : lessW u v = true
        · rw [if_pos hl, if_pos hl]
          simp [List.set_set]
        · rw [if_neg hl, if_neg hl]
          rfl
    · simp only [if_neg hf]
theorem relaxs_pick {C : Int} {W : Ways} {rides : List Ride} {kk : Nat} (hk : kk < W.length) (hne : neW W) (hcf : ∀ i, i < kk → canF C (rides.getD i zR) (rides.getD kk zR) = folF C (rides.getD i zR) (rides.getD kk zR)) : ∀ (l : List Nat) (b : Option (List Int)), (∀ i ∈ l, i < kk) →
    l.foldl (fun w j => relax C rides kk j w) (W.set kk (b.map (· ++ [(kk : Int)]))) = W.set kk ((l.foldl (fun b j => pick C W rides kk j b) b).map (· ++ [(kk : Int)]))
  | [], b, _ => rfl
  | i :: l, b, hl => by
    have hi := hl i (List.mem_cons_self ..)
    simp only [List.foldl_cons]
    rw [relax_pick hi hk hne (hcf i hi)]
    exact relaxs_pick hk hne hcf l _ (fun j hj => hl j (List.mem_cons_of_mem _ hj))
theorem set_none {W : Ways} {kk : Nat} (h : W.getD kk none = none) : W.set kk none = W := by
  apply List.ext_getElem?
  intro j
  rw [List.getElem?_set]
  by_cases e : kk = j
  · subst e
    rw [if_pos rfl]
    rw [List.getD_eq_getElem?_getD] at h
    by_cases hk : kk < W.length
    · rw [if_pos hk, List.getElem?_eq_getElem hk] at *
      simp at h
      rw [h]
    · rw [if_neg hk, List.getElem?_eq_none (by omega)]
  · rw [if_neg e]
theorem relaxs_pick0 {C : Int} {W : Ways} {rides : List Ride} {kk : Nat} (hk : kk < W.length) (hne : neW W) (h0 : W.getD kk none = none) (hcf : ∀ i, i < kk → canF C (rides.getD i zR) (rides.getD kk zR) = folF C (rides.getD i zR) (rides.getD kk zR)) :
    (List.range' 0 kk).foldl (fun w j => relax C rides kk j w) W = W.set kk (((List.range' 0 kk).foldl (fun b j => pick C W rides kk j b) none).map (· ++ [(kk : Int)])) := by
  have := relaxs_pick hk hne hcf (List.range' 0 kk) none (fun i hi => by simp [List.mem_range'] at hi; omega)
  rw [Option.map_none, set_none h0] at this
  exact this
/-! ### Lists -/
theorem f77x (k : Nat) (S C : Int) (l : List Ride) (a b : Ride) : f77 k (S, (C, l)) a b = some (canF C a b, ()) := f77_eq' k S C l a b
theorem pick_len {C : Int} {W : Ways} {rides : List Ride} {kk i : Nat} {b : Option (List Int)} (hok : okW rides W) (hi : i < 400) (hb : (slL true b).length ≤ 400) : (slL true (pick C W rides kk i b)).length ≤ 400 := by
  have hw := okW_way hok i
  unfold pick
  split
  · split
    · split
      · show (wayAt W i).length ≤ 400; omega
      · split
        · show (wayAt W i).length ≤ 400; omega
        · exact hb
    · exact hb
  · exact hb
theorem lists_inner {RL : Nat → Nat → Ways → Int → Int → List Ride → Int → Int → Int → Int → Option (Ways × Unit)} {res : Ways × Unit} (S C fr at_ L : Int) (rides : List Ride) (kk : Nat) (hkk : kk < rides.length) (hr : rides.length ≤ 400) (W : Ways) (hok : okW rides W) :
    ∀ (d i : Nat) (b : Option (List Int)), i + d = kk → (slL true b).length ≤ 400 → (W.getD kk none = none) → Ev2 (fun k n => RL k n (W.set kk (((List.range' i d).foldl (fun b j => pick C W rides kk j b) b).map (· ++ [(kk : Int)]))) S C rides fr at_ L ((kk : Int) + 1)) res →
      Ev3 (fun k n m => f18_l2 k (RL k n) m W S C rides (rides.getD kk zR).1 (rides.getD kk zR).2.1 (rides.getD kk zR).2.2.1 (rides.getD kk zR).2.2.2.1 (rides.getD kk zR).2.2.2.2 fr b at_ L (kk : Int) (rides.take kk) ((rides.take kk).length : Int) (i : Int)) res
  | 0, i, b, hid, hb, h0, hfin => by
    have hlt : (rides.take kk).length = kk := by simp; omega
    have hk0 : (0 : Int) ≤ (kk : Int) := by omega
    have hk2 : (kk : Int) < (W.length : Int) := by rw [hok.1]; omega
    have hw : w64 ((kk : Int) + 1) = (kk : Int) + 1 := w64_id (by omega) (by omega)
    simp only [List.range'_zero, List.foldl_nil] at hfin
    refine Ev3.step (fun k n m => ?_) (Ev2.three hfin)
    rw [f18_l2, f18_l2_B, if_neg (by omega)]
    cases b with
    | none =>
      simp only [isNilO, not_true_eq_false, if_false, f18_c16, f18_c16_B, f18_b1, f18_b1_B, hw, Option.map_none, set_none h0]
    | some v =>
      have hv : v.length ≤ 400 := hb
      have hc := clone_eq k v (by omega)
      simp only [isNilO, Bool.false_eq_true, not_false_eq_true, if_true, slL, hc, Option.bind_some, f18_c16, f18_c16_B, f18_b1, f18_b1_B, hw, Option.map_some, Int.toNat_natCast]
      rw [if_pos (by omega), if_pos hk0, if_pos hk2, if_pos (by simp)]
  | d + 1, i, b, hid, hb, h0, hfin => by
    have hlt : (rides.take kk).length = kk := by simp; omega
    have hi0 : (0 : Int) ≤ (i : Int) := by omega
    have hi1 : (i : Int) < ((rides.take kk).length : Int) := by omega
    have hi2 : (i : Int) < (W.length : Int) := by rw [hok.1]; omega
    have hw : w64 ((i : Int) + 1) = ((i + 1 : Nat) : Int) := by rw [w64_id (by omega) (by omega)]; omega
    have hrd : ∀ z : Ride, (rides.take kk).getD i z = rides.getD i zR := fun z => by
      have : i < rides.length := by omega
      simp [List.getD_eq_getElem?_getD, List.getElem?_take, List.getElem?_eq_getElem this, show i < kk by omega]
    simp only [List.range'_succ, List.foldl_cons] at hfin
    have ih := lists_inner (RL := RL) (res := res) S C fr at_ L rides kk hkk hr W hok d (i + 1) (pick C W rides kk i b) (by omega) (pick_len hok (by omega) hb) h0 hfin
    have hwl := okW_way hok i
    have nx : ∀ (q : Bool) k n m, f18_r12 k (fun y17 y3_0 y3_1 y3_2 y9_0 y9_1 y9_2 y9_3 y9_4 x1 x10 x2 x20 x21 x44 x45 x46 => f18_l2 k (RL k n) m y17 y3_0 y3_1 y3_2 y9_0 y9_1 y9_2 y9_3 y9_4 x1 x10 x2 x20 x21 x44 x45 x46) (RL k n) W S C rides (rides.getD kk zR).1 (rides.getD kk zR).2.1 (rides.getD kk zR).2.2.1 (rides.getD kk zR).2.2.2.1 (rides.getD kk zR).2.2.2.2 fr b (W.getD i none) at_ L (kk : Int) (rides.take kk) ((rides.take kk).length : Int) (i : Int) q =
        f18_l2 k (RL k n) m W S C rides (rides.getD kk zR).1 (rides.getD kk zR).2.1 (rides.getD kk zR).2.2.1 (rides.getD kk zR).2.2.2.1 (rides.getD kk zR).2.2.2.2 fr (if q = true then W.getD i none else b) at_ L (kk : Int) (rides.take kk) ((rides.take kk).length : Int) ((i + 1 : Nat) : Int) := fun q k n m => by
      simp only [f18_r12, f18_r12_B, f18_c13, f18_c13_B, hw]
      split <;> rfl
    have open1 : ∀ k n m, f18_l2 k (RL k n) (m + 1) W S C rides (rides.getD kk zR).1 (rides.getD kk zR).2.1 (rides.getD kk zR).2.2.1 (rides.getD kk zR).2.2.2.1 (rides.getD kk zR).2.2.2.2 fr b at_ L (kk : Int) (rides.take kk) ((rides.take kk).length : Int) (i : Int) =
        if 0 < ((wayAt W i).length : Int) then (if canF C (rides.getD i zR) (rides.getD kk zR) = true then (if isNilO b = true then f18_l2 k (RL k n) m W S C rides (rides.getD kk zR).1 (rides.getD kk zR).2.1 (rides.getD kk zR).2.2.1 (rides.getD kk zR).2.2.2.1 (rides.getD kk zR).2.2.2.2 fr (W.getD i none) at_ L (kk : Int) (rides.take kk) ((rides.take kk).length : Int) ((i + 1 : Nat) : Int)
          else if ((wayAt W i).length : Int) < ((slL true b).length : Int) then f18_l2 k (RL k n) m W S C rides (rides.getD kk zR).1 (rides.getD kk zR).2.1 (rides.getD kk zR).2.2.1 (rides.getD kk zR).2.2.2.1 (rides.getD kk zR).2.2.2.2 fr (W.getD i none) at_ L (kk : Int) (rides.take kk) ((rides.take kk).length : Int) ((i + 1 : Nat) : Int)
          else if ((wayAt W i).length : Int) = ((slL true b).length : Int) then (f68 k (wayAt W i) (slL true b)).bind fun r2 => f18_l2 k (RL k n) m W S C rides (rides.getD kk zR).1 (rides.getD kk zR).2.1 (rides.getD kk zR).2.2.1 (rides.getD kk zR).2.2.2.1 (rides.getD kk zR).2.2.2.2 fr (if decide (r2.1 < 0) = true then W.getD i none else b) at_ L (kk : Int) (rides.take kk) ((rides.take kk).length : Int) ((i + 1 : Nat) : Int)
          else f18_l2 k (RL k n) m W S C rides (rides.getD kk zR).1 (rides.getD kk zR).2.1 (rides.getD kk zR).2.2.1 (rides.getD kk zR).2.2.2.1 (rides.getD kk zR).2.2.2.2 fr b at_ L (kk : Int) (rides.take kk) ((rides.take kk).length : Int) ((i + 1 : Nat) : Int))
          else f18_l2 k (RL k n) m W S C rides (rides.getD kk zR).1 (rides.getD kk zR).2.1 (rides.getD kk zR).2.2.1 (rides.getD kk zR).2.2.2.1 (rides.getD kk zR).2.2.2.2 fr b at_ L (kk : Int) (rides.take kk) ((rides.take kk).length : Int) ((i + 1 : Nat) : Int))
        else f18_l2 k (RL k n) m W S C rides (rides.getD kk zR).1 (rides.getD kk zR).2.1 (rides.getD kk zR).2.2.1 (rides.getD kk zR).2.2.2.1 (rides.getD kk zR).2.2.2.2 fr b at_ L (kk : Int) (rides.take kk) ((rides.take kk).length : Int) ((i + 1 : Nat) : Int) := fun k n m => by
      rw [f18_l2, f18_l2_B, if_pos hi1, if_pos hi0, if_pos hi1, if_pos hi0, if_pos hi2]
      simp only [Int.toNat_natCast, hrd, eta5, f77x, Option.bind_some, nx, wayAt, if_true, Bool.false_eq_true, if_false]
      rfl
    have keep : ∀ c, pick C W rides kk i b = c → Ev3 (fun k n m => f18_l2 k (RL k n) m W S C rides (rides.getD kk zR).1 (rides.getD kk zR).2.1 (rides.getD kk zR).2.2.1 (rides.getD kk zR).2.2.2.1 (rides.getD kk zR).2.2.2.2 fr c at_ L (kk : Int) (rides.take kk) ((rides.take kk).length : Int) ((i + 1 : Nat) : Int)) res := fun c h => by rw [← h]; exact ih
    unfold pick at keep
    by_cases c1 : 0 < ((wayAt W i).length : Int)
    · simp only [if_pos c1] at keep open1
      by_cases c2 : canF C (rides.getD i zR) (rides.getD kk zR) = true
      · simp only [if_pos c2] at keep open1
        by_cases c3 : isNilO b = true
        · simp only [if_pos c3] at keep open1
          exact Ev3.step open1 (keep _ rfl)
        · simp only [if_neg c3] at keep open1
          by_cases c4 : ((wayAt W i).length : Int) < ((slL true b).length : Int)
          · have el : lessW (wayAt W i) (slL true b) = true := by unfold lessW; rw [decide_eq_true c4]; rfl
            simp only [if_pos c4] at open1
            exact Ev3.step open1 (keep _ (by rw [if_pos el]))
          · simp only [if_neg c4] at open1
            by_cases c5 : ((wayAt W i).length : Int) = ((slL true b).length : Int)
            · have el : lessW (wayAt W i) (slL true b) = decide (cmpI (wayAt W i) (slL true b) < 0) := by unfold lessW; rw [decide_eq_false c4, decide_eq_true c5]; simp
              simp only [if_pos c5] at open1
              exact Ev3.step open1 ((cmp_ev (wayAt W i) (slL true b) (by omega)).bind3 (keep _ (by rw [el])))
            · have el : lessW (wayAt W i) (slL true b) = false := by unfold lessW; rw [decide_eq_false c4, decide_eq_false c5]; rfl
              simp only [if_neg c5] at open1
              exact Ev3.step open1 (keep _ (by rw [el]; rfl))
      · simp only [if_neg c2] at keep open1
        exact Ev3.step open1 (keep _ rfl)
    · simp only [if_neg c1] at keep open1
      exact Ev3.step open1 (keep _ rfl)
theorem neW_set {ways : Ways} (h : neW ways) {kk : Nat} {w : List Int} (hw : w ≠ []) : neW (ways.set kk (some w)) := fun j u hu => by
  rw [getD_set] at hu
  split at hu
  · cases hu; exact hw
  · exact h j u hu
theorem neW_relax {C : Int} {rides : List Ride} {kk i : Nat} {ways : Ways} (h : neW ways) : neW (relax C rides kk i ways) := by
  unfold relax
  repeat' split
  all_goals first | exact h | exact neW_set h (by simp)
theorem neW_relaxs {C : Int} {rides : List Ride} {kk : Nat} : ∀ (l : List Nat) {ways : Ways}, neW ways → neW (l.foldl (fun w j => relax C rides kk j w) ways)
  | [], _, h => h
  | i :: l, _, h => neW_relaxs l (neW_relax h)
theorem neW_step {C fr at_ : Int} {rides : List Ride} {kk : Nat} {ways : Ways} (h : neW ways) : neW (bestStep C fr at_ rides kk ways) := by
  unfold bestStep
  split
  · exact neW_set h (by simp)
  · exact neW_relaxs _ h
theorem neW_best (C fr at_ : Int) (rides : List Ride) : neW (bestW C fr at_ rides) := by
  have key : ∀ (L : List Nat) (ways : Ways), neW ways → neW (L.foldl (fun w kk => bestStep C fr at_ rides kk w) ways) := fun L => by
    induction L with
    | nil => exact fun _ h => h
    | cons i L ih => exact fun ways h => ih _ (neW_step h)
  exact key _ _ (fun j u hu => by
    simp only [List.getD_eq_getElem?_getD, List.getElem?_replicate] at hu
    split at hu <;> simp at hu)
theorem lists_outer (S C fr at_ : Int) (rides : List Ride) (hr : rides.length ≤ 400) (hcf : ∀ a ∈ rides, ∀ b ∈ rides, canF C a b = folF C a b) : ∀ (d kk : Nat) (W : Ways), kk + d = rides.length → okW rides W → neW W → (∀ j, kk ≤ j → W.getD j none = none) →
    Ev2 (fun k n => f18_l0 k n W S C rides fr at_ (rides.length : Int) (kk : Int)) ((List.range' kk d).foldl (fun w kk => bestStep C fr at_ rides kk w) W, ())
  | 0, kk, W, hid, hok, hne, hn => Ev2.step (g := fun _ _ => some (W, ())) (fun k n => by rw [f18_l0, f18_l0_B, if_neg (by omega)]) (Ev2.pure _)
  | d + 1, kk, W, hid, hok, hne, hn => by
    have hmem : ∀ i, i < rides.length → rides.getD i zR ∈ rides := fun i hi => by
      rw [List.getD_eq_getElem?_getD, List.getElem?_eq_getElem hi]
      exact List.getElem_mem hi
    have h1 : (kk : Int) < (rides.length : Int) := by omega
    have h1' : (kk : Int) ≤ (rides.length : Int) := by omega
    have h0 : (0 : Int) ≤ (kk : Int) := by omega
    have h2 : (kk : Int) < (W.length : Int) := by rw [hok.1]; omega
    have hw : w64 ((kk : Int) + 1) = ((kk + 1 : Nat) : Int) := by rw [w64_id (by omega) (by omega)]; omega
    have hrd : ∀ z : Ride, rides.getD kk z = rides.getD kk zR := fun z => by
      have : kk < rides.length := by omega
      simp [List.getD_eq_getElem?_getD, List.getElem?_eq_getElem this]
    have ih := lists_outer S C fr at_ rides hr hcf d (kk + 1) (bestStep C fr at_ rides kk W) (by omega) (okW_step hok) (neW_step hne) (fun j hj => by rw [step_at (by omega)]; exact hn j (by omega))
    simp only [List.range'_succ, List.foldl_cons]
    by_cases hc : (rides.getD kk zR).1 = fr ∧ at_ ≤ (rides.getD kk zR).2.2.1
    · have e : bestStep C fr at_ rides kk W = W.set kk (some [(kk : Int)]) := by unfold bestStep; rw [if_pos hc]
      rw [e] at ih ⊢
      refine Ev2.step (fun k n => ?_) ih
      rw [f18_l0, f18_l0_B, if_pos h1, if_pos h0, if_pos h1]
      simp only [Int.toNat_natCast, hrd, hc.1, if_true, decide_eq_true hc.2, f18_r5, f18_r5_B, if_pos h0, if_pos h2, List.isEmpty_cons, f18_b1, f18_b1_B, hw]
    · have e : bestStep C fr at_ rides kk W = (List.range' 0 kk).foldl (fun w j => relax C rides kk j w) W := by unfold bestStep; rw [if_neg hc]
      rw [e, relaxs_pick0 (by rw [hok.1]; omega) hne (hn kk (Nat.le_refl _)) (fun i hi => hcf _ (hmem i (by omega)) _ (hmem kk (by omega)))] at ih ⊢
      have hin := (lists_inner (RL := fun k n => f18_l0 k n) S C fr at_ (rides.length : Int) rides kk (by omega) hr W hok kk 0 none (by omega) (by simp [slL]) (hn kk (Nat.le_refl _)) (by simpa using ih)).in_
      refine Ev2.step (fun k n => ?_) hin
      rw [f18_l0, f18_l0_B, if_pos h1, if_pos h0, if_pos h1]
      simp only [Int.toNat_natCast, hrd, f18_r5, f18_r5_B]
      by_cases c1 : (rides.getD kk zR).1 = fr
      · have c2 : ¬ at_ ≤ (rides.getD kk zR).2.2.1 := fun h => hc ⟨c1, h⟩
        simp only [c1, c2, if_true, decide_false, Bool.false_eq_true, if_false, if_pos h0, if_pos h1']
        rfl
      · simp only [c1, Bool.false_eq_true, if_false, if_pos h0, if_pos h1']
        rfl
theorem lists_ev (S C fr at_ : Int) (rides : List Ride) (hr : rides.length ≤ 400) (hcf : ∀ a ∈ rides, ∀ b ∈ rides, canF C a b = folF C a b) : Ev (fun k => f18 k (S, (C, rides)) fr at_) (bestW C fr at_ rides, ()) := by
  have h := (lists_outer S C fr at_ rides hr hcf rides.length 0 (List.replicate rides.length none) (by omega) ⟨by simp, fun i u hu => by
    simp only [List.getD_eq_getElem?_getD, List.getElem?_replicate] at hu
    split at hu <;> simp at hu⟩ (fun i u hu => by
    simp only [List.getD_eq_getElem?_getD, List.getElem?_replicate] at hu
    split at hu <;> simp at hu) (fun j hj => by
    simp only [List.getD_eq_getElem?_getD, List.getElem?_replicate]
    split <;> rfl)).diag
  refine Ev.of (fun k => ?_) h
  simp only [f18, f18_entry_B]
  rw [if_pos (by omega), if_pos (by omega)]
  simp
/-! ### Journey -/
def endJ (W : Ways) (rides : List Ride) (x : Int) : Option (List Int) × Int × Bool × Unit := if x < 0 then (none, 0, false, ()) else (W.getD x.toNat none, arrAt rides x.toNat, true, ())
theorem journey_loop (to : Int) (rides : List Ride) (W : Ways) (hr : rides.length ≤ 400) (hok : okW rides W) (hne : neW W) : ∀ (d i : Nat) (x : Int), i + d = rides.length → (x < 0 ∨ (0 ≤ x ∧ (W.getD x.toNat none).isSome = true)) →
    Ev2 (fun k n => f17_l0 k n W (endJ W rides x).2.1 rides (rides.length : Int) (i : Int) to (endJ W rides x).1) (endJ W rides ((List.range' i d).foldl (fun x j => planStep W rides to j x) x))
  | 0, i, x, hid, hx => by
    refine Ev2.step (g := fun _ _ => some (endJ W rides x)) (fun k n => ?_) (Ev2.pure _)
    rw [f17_l0, f17_l0_B, if_neg (by omega)]
    unfold endJ
    rcases hx with hx | ⟨hx, hu⟩
    · simp only [if_pos hx]; rfl
    · rw [if_neg (by omega)]
      obtain ⟨u, hu⟩ := Option.isSome_iff_exists.1 hu
      simp only [hu]; rfl
  | d + 1, i, x, hid, hx => by
    have h1 : (i : Int) < (rides.length : Int) := by omega
    have h0 : (0 : Int) ≤ (i : Int) := by omega
    have h2 : (i : Int) < (W.length : Int) := by rw [hok.1]; omega
    have hw : w64 ((i : Int) + 1) = ((i + 1 : Nat) : Int) := by rw [w64_id (by omega) (by omega)]; omega
    have hrd : ∀ z : Ride, rides.getD i z = rides.getD i zR := fun z => by
      have : i < rides.length := by omega
      simp [List.getD_eq_getElem?_getD, List.getElem?_eq_getElem this]
    simp only [List.range'_succ, List.foldl_cons]
    have hl0 := okW_way hok i
    have hl1 : ((wayAt W i).length : Int) ≤ 1073741824 := by omega
    have nx : ∀ (q : Bool) k n, f17_r8 k (fun x1 x10 x15 x16 x17 x2 x9 => f17_l0 k n x1 x10 x15 x16 x17 x2 x9) (rides.getD i zR).1 (rides.getD i zR).2.1 (rides.getD i zR).2.2.1 (rides.getD i zR).2.2.2.1 (rides.getD i zR).2.2.2.2 W (endJ W rides x).2.1 (W.getD i none) rides (rides.length : Int) (i : Int) to q (endJ W rides x).1 =
        f17_l0 k n W (if q = true then arrAt rides i else (endJ W rides x).2.1) rides (rides.length : Int) ((i + 1 : Nat) : Int) to (if q = true then W.getD i none else (endJ W rides x).1) := fun q k n => by
      simp only [f17_r8, f17_r8_B, f17_c9, f17_c9_B, f17_b1, f17_b1_B, hw, arrAt]
      cases q <;> rfl
    -- where the ride is not taken into account
    have skip : ∀ q : Bool, q = true → ∀ k n, f17_r7 k (fun x1 x10 x15 x16 x17 x2 x9 => f17_l0 k n x1 x10 x15 x16 x17 x2 x9) (rides.getD i zR).1 (rides.getD i zR).2.1 (rides.getD i zR).2.2.1 (rides.getD i zR).2.2.2.1 (rides.getD i zR).2.2.2.2 W (endJ W rides x).2.1 (W.getD i none) rides (rides.length : Int) (i : Int) to q (endJ W rides x).1 =
        f17_l0 k n W (endJ W rides x).2.1 rides (rides.length : Int) ((i + 1 : Nat) : Int) to (endJ W rides x).1 := fun q hq k n => by
      subst hq
      simp only [f17_r7, f17_r7_B, if_true, f17_b1, f17_b1_B, hw]
    have opn : ∀ k n, f17_l0 k (n + 1) W (endJ W rides x).2.1 rides (rides.length : Int) (i : Int) to (endJ W rides x).1 =
        if ((wayAt W i).length : Int) = 0 then f17_l0 k n W (endJ W rides x).2.1 rides (rides.length : Int) ((i + 1 : Nat) : Int) to (endJ W rides x).1
        else f17_r7 k (fun x1 x10 x15 x16 x17 x2 x9 => f17_l0 k n x1 x10 x15 x16 x17 x2 x9) (rides.getD i zR).1 (rides.getD i zR).2.1 (rides.getD i zR).2.2.1 (rides.getD i zR).2.2.2.1 (rides.getD i zR).2.2.2.2 W (endJ W rides x).2.1 (W.getD i none) rides (rides.length : Int) (i : Int) to (decide (¬ (rides.getD i zR).2.1 = to)) (endJ W rides x).1 := fun k n => by
      rw [f17_l0, f17_l0_B, if_pos h1, if_pos h0, if_pos h1, if_pos h0, if_pos h2]
      simp only [Int.toNat_natCast, hrd]
      by_cases c : ((wayAt W i).length : Int) = 0
      · have c' : ((slL true (W.getD i none)).length : Int) = 0 := c
        rw [if_pos c, if_pos c']
        exact skip true rfl k n
      · have c' : ¬ ((slL true (W.getD i none)).length : Int) = 0 := c
        rw [if_neg c, if_neg c']
    cases hu : W.getD i none with
    | none =>
      have hz : ((wayAt W i).length : Int) = 0 := by unfold wayAt; rw [hu]; rfl
      have e : planStep W rides to i x = x := by
        unfold planStep; rw [hu]; simp [isNilO]
      rw [e]
      refine Ev2.step (fun k n => ?_) (journey_loop to rides W hr hok hne d (i + 1) x (by omega) hx)
      rw [opn, if_pos hz]
    | some u =>
      have hz : ¬ ((wayAt W i).length : Int) = 0 := by
        unfold wayAt; rw [hu]
        have := hne i u hu
        have : u.length ≠ 0 := fun z => this (List.length_eq_zero_iff.1 z)
        show ¬ (u.length : Int) = 0
        omega
      have hwu : wayAt W i = u := by unfold wayAt; rw [hu]; rfl
      simp only [if_neg hz] at opn
      by_cases c1 : (rides.getD i zR).2.1 = to
      · have hi' : (i : Int) < 0 ∨ (0 ≤ (i : Int) ∧ (W.getD (i : Int).toNat none).isSome = true) := .inr ⟨h0, by rw [Int.toNat_natCast, hu]; rfl⟩
        have ihi := journey_loop to rides W hr hok hne d (i + 1) (i : Int) (by omega) hi'
        have ihx := journey_loop to rides W hr hok hne d (i + 1) x (by omega) hx
        have ei : endJ W rides (i : Int) = (W.getD i none, arrAt rides i, true, ()) := by
          unfold endJ; rw [if_neg (by omega), Int.toNat_natCast]
        rw [ei] at ihi
        have opn2 : ∀ k n, f17_l0 k (n + 1) W (endJ W rides x).2.1 rides (rides.length : Int) (i : Int) to (endJ W rides x).1 =
            if isNilO (endJ W rides x).1 = true then f17_l0 k n W (arrAt rides i) rides (rides.length : Int) ((i + 1 : Nat) : Int) to (W.getD i none)
            else if arrAt rides i < (endJ W rides x).2.1 then f17_l0 k n W (arrAt rides i) rides (rides.length : Int) ((i + 1 : Nat) : Int) to (W.getD i none)
            else if arrAt rides i = (endJ W rides x).2.1 then (if ((wayAt W i).length : Int) < ((slL true (endJ W rides x).1).length : Int) then f17_l0 k n W (arrAt rides i) rides (rides.length : Int) ((i + 1 : Nat) : Int) to (W.getD i none)
              else if ((wayAt W i).length : Int) = ((slL true (endJ W rides x).1).length : Int) then (f68 k (wayAt W i) (slL true (endJ W rides x).1)).bind fun r1 => f17_l0 k n W (if decide (r1.1 < 0) = true then arrAt rides i else (endJ W rides x).2.1) rides (rides.length : Int) ((i + 1 : Nat) : Int) to (if decide (r1.1 < 0) = true then W.getD i none else (endJ W rides x).1)
              else f17_l0 k n W (endJ W rides x).2.1 rides (rides.length : Int) ((i + 1 : Nat) : Int) to (endJ W rides x).1)
            else f17_l0 k n W (endJ W rides x).2.1 rides (rides.length : Int) ((i + 1 : Nat) : Int) to (endJ W rides x).1 := fun k n => by
          rw [opn, decide_eq_false (not_not_intro c1)]
          simp only [f17_r7, f17_r7_B, Bool.false_eq_true, if_false, nx, if_true]
          rfl
        have e0 : planStep W rides to i x = if x < 0 then (i : Int) else if arrAt rides i < arrAt rides x.toNat then (i : Int) else if arrAt rides i = arrAt rides x.toNat then (if lessW (wayAt W i) (wayAt W x.toNat) = true then (i : Int) else x) else x := by
          unfold planStep; rw [if_neg (not_not_intro c1), hu]; simp only [isNilO, Bool.false_eq_true, if_false]
        rw [e0]
        by_cases c3 : x < 0
        · have ex : endJ W rides x = (none, 0, false, ()) := by unfold endJ; rw [if_pos c3]
          rw [if_pos c3]
          refine Ev2.step (fun k n => ?_) ihi
          rw [opn2, ex]
          rfl
        · have ex : endJ W rides x = (W.getD x.toNat none, arrAt rides x.toNat, true, ()) := by unfold endJ; rw [if_neg c3]
          obtain ⟨v, hv⟩ := Option.isSome_iff_exists.1 (hx.resolve_left c3).2
          have hnil : ¬ isNilO (W.getD x.toNat none) = true := by rw [hv]; simp [isNilO]
          have hwx : slL true (W.getD x.toNat none) = wayAt W x.toNat := rfl
          rw [if_neg c3]
          rw [ex] at ihx opn2
          rw [ex]
          simp only [if_neg hnil, hwx] at opn2
          by_cases c4 : arrAt rides i < arrAt rides x.toNat
          · simp only [if_pos c4] at opn2 ⊢
            exact Ev2.step opn2 ihi
          · simp only [if_neg c4] at opn2 ⊢
            by_cases c5 : arrAt rides i = arrAt rides x.toNat
            · simp only [if_pos c5] at opn2 ⊢
              by_cases c6 : ((wayAt W i).length : Int) < ((wayAt W x.toNat).length : Int)
              · have el : lessW (wayAt W i) (wayAt W x.toNat) = true := by unfold lessW; rw [decide_eq_true c6]; rfl
                simp only [if_pos c6] at opn2
                rw [if_pos el]
                exact Ev2.step opn2 (by rw [c5] at ihi; rw [c5]; exact ihi)
              · simp only [if_neg c6] at opn2
                by_cases c7 : ((wayAt W i).length : Int) = ((wayAt W x.toNat).length : Int)
                · have el : lessW (wayAt W i) (wayAt W x.toNat) = decide (cmpI (wayAt W i) (wayAt W x.toNat) < 0) := by unfold lessW; rw [decide_eq_false c6, decide_eq_true c7]; simp
                  simp only [if_pos c7] at opn2
                  rw [el]
                  refine Ev2.step opn2 ((cmp_ev _ _ hl1).bind2 ?_)
                  by_cases c8 : cmpI (wayAt W i) (wayAt W x.toNat) < 0
                  · simp only [c8, decide_true, if_true]; exact ihi
                  · simp only [c8, decide_false, Bool.false_eq_true, if_false]; exact ihx
                · have el : lessW (wayAt W i) (wayAt W x.toNat) = false := by unfold lessW; rw [decide_eq_false c6, decide_eq_false c7]; rfl
                  simp only [if_neg c7] at opn2
                  rw [el, if_neg (by simp)]
                  exact Ev2.step opn2 ihx
            · simp only [if_neg c5] at opn2 ⊢
              exact Ev2.step opn2 ihx
      · have e : planStep W rides to i x = x := by unfold planStep; rw [if_pos c1]
        rw [e]
        refine Ev2.step (fun k n => ?_) (journey_loop to rides W hr hok hne d (i + 1) x (by omega) hx)
        rw [opn]
        exact skip _ (decide_eq_true c1) k n
theorem journey_ev (S C to : Int) (rides : List Ride) (W : Ways) (hr : rides.length ≤ 400) (hok : okW rides W) (hne : neW W) : Ev (fun k => f17 k (S, (C, rides)) W to) (endJ W rides ((List.range' 0 rides.length).foldl (fun x j => planStep W rides to j x) (-1))) := by
  have h := (journey_loop to rides W hr hok hne rides.length 0 (-1) (by omega) (.inl (by omega))).diag
  refine Ev.of (fun k => ?_) h
  simp only [f17, f17_entry_B]
  rfl
end Go.Proofs.Ytpbmlhlpfbcnbaa.Rw
