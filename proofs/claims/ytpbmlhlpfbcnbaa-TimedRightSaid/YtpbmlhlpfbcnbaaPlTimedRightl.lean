/- Timetables: Right of the program. No condition. -/
import Derived.Test.YtpbmlhlpfbcnbaaPlTimedRightk
namespace Go.Proofs.Ytpbmlhlpfbcnbaa.Rw
open Go.Rx
set_option linter.unusedVariables false
set_option linter.unusedSimpArgs false
def okL (F : Ride → Ride → Bool) (rides : List Ride) (fr at_ : Int) : Option Ride → List Int → Bool
  | _, [] => true
  | p, x :: w => if x < 0 ∨ (rides.length : Int) ≤ x then false else match p with
    | none => if (rides.getD x.toNat zR).1 ≠ fr ∨ (rides.getD x.toNat zR).2.2.1 < at_ then false else okL F rides fr at_ (some (rides.getD x.toNat zR)) w
    | some q => if F q (rides.getD x.toNat zR) = true then okL F rides fr at_ (some (rides.getD x.toNat zR)) w else false

/-- One ride more: both programs' rounds. -/
def nextL (F : Ride → Ride → Bool) (rides : List Ride) (fr at_ : Int) (pre : List Int) (x : Int) (nx : Option (Bool × Unit)) : Option (Bool × Unit) :=
  if x < 0 ∨ (rides.length : Int) ≤ x then some (false, ()) else match pre.getLast? with
    | none => if (rides.getD x.toNat zR).1 ≠ fr ∨ (rides.getD x.toNat zR).2.2.1 < at_ then some (false, ()) else nx
    | some y => if F (rides.getD y.toNat zR) (rides.getD x.toNat zR) = true then nx else some (false, ())
theorem f25_l0_step (k n : Nat) (S C fr at_ : Int) (rides : List Ride) (pre w : List Int) (x : Int) (hlen : ((pre ++ x :: w).length : Int) ≤ 9223372036854775000) (hv : ∀ y, pre.getLast? = some y → 0 ≤ y ∧ y < (rides.length : Int)) :
    f25_l0 k (n + 1) S C rides fr at_ (pre ++ x :: w) ((pre ++ x :: w).length : Int) (pre.length : Int) = nextL (folF C) rides fr at_ pre x (f25_l0 k n S C rides fr at_ (pre ++ x :: w) ((pre ++ x :: w).length : Int) (((pre ++ [x]).length : Nat) : Int)) := by
  have h0 : (pre.length : Int) < ((pre ++ x :: w).length : Int) := by simp; omega
  have h1 : (0 : Int) ≤ pre.length := by omega
  have hw : w64 ((pre.length : Int) + 1) = (((pre ++ [x]).length : Nat) : Int) := by
    rw [w64_id (by omega) (by simp at hlen; omega)]; simp
  rw [f25_l0, f25_l0_B, if_pos h0, if_pos h1, if_pos h0, getD_mid]
  simp only [f25_r6, f25_r6_B, f25_r9, f25_r9_B, hw, nextL, f83_eq', Option.bind_some, eta5]
  by_cases hx : x < 0
  · simp [hx]
  · by_cases hx2 : (rides.length : Int) ≤ x
    · simp [hx, hx2]
    · have g1 : 0 ≤ x := by omega
      have g2 : x < (rides.length : Int) := by omega
      rcases List.eq_nil_or_concat pre with rfl | ⟨p, q, rfl⟩
      · simp only [hx, hx2, g1, g2, if_true, if_false, decide_false, Bool.false_eq_true, List.length_nil, Int.ofNat_zero, List.getLast?_nil, or_self]
        by_cases h3 : (rides.getD x.toNat zR).1 = fr <;> by_cases h4 : (rides.getD x.toNat zR).2.2.1 < at_ <;> simp [zR] at h3 h4 <;> simp [h3, h4, zR]
      · have hq := hv q (by simp)
        have e1 : (((p.concat q).length : Nat) : Int) = (p.length : Int) + 1 := by simp
        have e2 : w64 ((((p.concat q).length : Nat) : Int) - 1) = (p.length : Int) := by rw [e1, w64_id (by omega) (by simp at hlen; omega)]; omega
        have e5 : (0 : Int) < ((p.concat q).length : Int) := by rw [e1]; omega
        have e8 : ¬ ((p.concat q).length : Int) = 0 := by omega
        have e6 : (p.length : Int) < ((p.concat q ++ x :: w).length : Int) := by simp; omega
        have e7 : (0 : Int) ≤ (p.length : Int) := by omega
        have e9 : (p.concat q).getLast? = some q := by simp
        simp only [hx, hx2, g1, g2, if_true, if_false, decide_false, Bool.false_eq_true, e2, if_pos e5, if_pos e6, if_pos e7, if_neg e8, getD_prev, hq.1, hq.2, e9, or_self]
        by_cases h3 : folF C (rides.getD q.toNat zR) (rides.getD x.toNat zR) = true <;> simp [zR] at h3 <;> simp [h3, zR]
def prevR (rides : List Ride) (pre : List Int) : Option Ride := pre.getLast?.map fun y => rides.getD y.toNat zR
theorem nextL_ok {F : Ride → Ride → Bool} {rides : List Ride} {fr at_ : Int} {pre w : List Int} {x : Int} {G : Nat → Nat → Option (Bool × Unit)} (h : (0 ≤ x ∧ x < (rides.length : Int)) → Ev2 G (okL F rides fr at_ (prevR rides (pre ++ [x])) w, ())) :
    Ev2 (fun k n => nextL F rides fr at_ pre x (G k n)) (okL F rides fr at_ (prevR rides pre) (x :: w), ()) := by
  have e : prevR rides (pre ++ [x]) = some (rides.getD x.toNat zR) := by simp [prevR]
  rw [e] at h
  unfold nextL okL
  by_cases hx : x < 0 ∨ (rides.length : Int) ≤ x
  · simp only [if_pos hx]; exact Ev2.pure _
  · simp only [if_neg hx]
    have h := h (by omega)
    unfold prevR
    cases pre.getLast? with
    | none =>
      simp only [Option.map_none]
      split
      · exact Ev2.pure _
      · exact h
    | some y =>
      simp only [Option.map_some]
      split
      · exact h
      · exact Ev2.pure _
theorem f25_loop (S C fr at_ : Int) (rides : List Ride) : ∀ (w pre : List Int), ((pre ++ w).length : Int) ≤ 9223372036854775000 → (∀ y, pre.getLast? = some y → 0 ≤ y ∧ y < (rides.length : Int)) →
    Ev2 (fun k n => f25_l0 k n S C rides fr at_ (pre ++ w) ((pre ++ w).length : Int) (pre.length : Int)) (okL (folF C) rides fr at_ (prevR rides pre) w, ())
  | [], pre, h, hv => Ev2.step (g := fun _ _ => some (true, ())) (fun k n => by rw [f25_l0, f25_l0_B, if_neg (by simp)]) (Ev2.pure _)
  | x :: w, pre, h, hv => by
    refine Ev2.step (fun k n => f25_l0_step k n S C fr at_ rides pre w x h hv) (nextL_ok fun hx => ?_)
    have := f25_loop S C fr at_ rides w (pre ++ [x]) (by simpa using h) (fun y hy => by simp at hy; subst hy; exact hx)
    rw [show pre ++ [x] ++ w = pre ++ x :: w by simp] at this
    exact this
theorem okL_congr {F G : Ride → Ride → Bool} {rides : List Ride} (h : ∀ a ∈ rides, ∀ b ∈ rides, F a b = G a b) (fr at_ : Int) : ∀ (w : List Int) (p : Option Ride), (∀ q, p = some q → q ∈ rides) → okL F rides fr at_ p w = okL G rides fr at_ p w
  | [], p, _ => rfl
  | x :: w, p, hp => by
    unfold okL
    by_cases hx : x < 0 ∨ (rides.length : Int) ≤ x
    · rw [if_pos hx, if_pos hx]
    · rw [if_neg hx, if_neg hx]
      have hm : rides.getD x.toNat zR ∈ rides := by
        have : x.toNat < rides.length := by omega
        rw [List.getD_eq_getElem?_getD, List.getElem?_eq_getElem this]
        exact List.getElem_mem this
      have ih := okL_congr h fr at_ w (some (rides.getD x.toNat zR)) (fun q hq => by cases hq; exact hm)
      cases p with
      | none => simp only [ih]
      | some q => simp only [ih, h q (hp q rfl) _ hm]
/-- Right in a valid timetable. -/
theorem right_good {S C : Int} {rides : List Ride} {fr at_ : Int} {way : List Int} (h0 : tabF S C rides = 0) (hf : 0 ≤ fr ∧ fr < S) (hway : (way.length : Int) ≤ 9223372036854775000) : Ev (fun k => f25 k (S, (C, rides)) fr at_ way) (okL (folF C) rides fr at_ none way, ()) := by
  have hc := f82_ev S C rides
  simp only [f25, f25_entry_B]
  refine hc.bind ?_
  have := (f25_loop S C fr at_ rides way [] (by simpa using hway) (fun y hy => by cases hy)).diag
  refine Ev.of (fun k => ?_) (by simpa [prevR] using this)
  have g3 : ¬ fr < 0 := by omega
  have g4 : ¬ S ≤ fr := by omega
  simp [h0, g3, g4, f25_r1, f25_r1_B]
end Go.Proofs.Ytpbmlhlpfbcnbaa.Rw
