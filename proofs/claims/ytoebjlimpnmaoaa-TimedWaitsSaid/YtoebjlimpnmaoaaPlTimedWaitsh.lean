/- Curves: costs by time, in plain words. No condition. -/
import Derived.Test.YtoebjlimpnmaoaaPlTimedWaitsg
namespace Go.Proofs.Ytoebjlimpnmaoaa.Rw
open Go.Rx
set_option linter.unusedVariables false
set_option linter.unusedSimpArgs false

abbrev St := Int × Int
/-- A step within the bounds. -/
abbrev goodS (s : St) : Prop := 0 ≤ s.1 ∧ s.1 ≤ 1073741824 ∧ 0 ≤ s.2 ∧ s.2 ≤ 1073741824
def crvFrom : Option St → List St → Int
  | _, [] => 0
  | none, s :: r => if goodS s then crvFrom (some s) r else 1
  | some q, s :: r => if goodS s then (if q.1 ≥ s.1 then 9 else if q.1 + q.2 > s.1 + s.2 then 19 else crvFrom (some s) r) else 1
def crvF (l : List St) : Int := if l.length > 24 then 2 else if l.length = 0 then 14 else crvFrom none l
/-- A valid curve: from a step on. -/
def ChainC : St → List St → Prop
  | a, [] => goodS a
  | a, b :: r => goodS a ∧ a.1 < b.1 ∧ a.1 + a.2 ≤ b.1 + b.2 ∧ ChainC b r
def ValidC : List St → Prop
  | [] => False
  | a :: r => (a :: r).length ≤ 24 ∧ ChainC a r
theorem chain_good {a : St} {r : List St} (h : ChainC a r) : goodS a := by
  cases r with
  | nil => exact h
  | cons b r => exact h.1
theorem crvFrom_zero : ∀ (r : List St) (q : St), goodS q → (crvFrom (some q) r = 0 ↔ ChainC q r)
  | [], q, hq => ⟨fun _ => hq, fun _ => rfl⟩
  | s :: r, q, hq => by
    have ih := crvFrom_zero r s
    simp only [crvFrom, ChainC]
    by_cases h1 : goodS s
    · rw [if_pos h1]
      by_cases h2 : q.1 ≥ s.1
      · rw [if_pos h2]
        exact ⟨fun h => by omega, fun h => by omega⟩
      · rw [if_neg h2]
        by_cases h3 : q.1 + q.2 > s.1 + s.2
        · rw [if_pos h3]
          exact ⟨fun h => by omega, fun h => by omega⟩
        · rw [if_neg h3]
          exact ⟨fun h => ⟨hq, by omega, by omega, (ih h1).1 h⟩, fun h => (ih h1).2 h.2.2.2⟩
    · rw [if_neg h1]
      exact ⟨fun h => by omega, fun h => absurd (chain_good h.2.2.2) h1⟩
theorem crvF_zero (l : List St) : crvF l = 0 ↔ ValidC l := by
  unfold crvF
  cases l with
  | nil => simp [ValidC]
  | cons a r =>
    simp only [ValidC]
    by_cases h : (a :: r).length > 24
    · rw [if_pos h]
      exact ⟨fun h => by omega, fun h => by omega⟩
    rw [if_neg h, if_neg (by simp)]
    simp only [crvFrom]
    by_cases h1 : goodS a
    · rw [if_pos h1]
      exact ⟨fun hh => ⟨by omega, (crvFrom_zero r a h1).1 hh⟩, fun hh => (crvFrom_zero r a h1).2 hh.2⟩
    · rw [if_neg h1]
      exact ⟨fun h => by omega, fun h => absurd (chain_good h.2) h1⟩

/-- The cost between two steps. -/
def segC (a b : St) (t : Int) : Int := a.2 + (b.2 - a.2) * (t - a.1) / (b.1 - a.1)
def atFrom : St → List St → Int → Int
  | a, [], _ => a.2
  | a, b :: r, t => if t ≤ b.1 then segC a b t else atFrom b r t
def atC : List St → Int → Int
  | [], _ => 0
  | a :: r, t => if t ≤ a.1 then a.2 else atFrom a r t

theorem mul_bound {x y : Int} (h1 : -1073741824 ≤ x) (h2 : x ≤ 1073741824) (h3 : 0 ≤ y) (h4 : y ≤ 1073741824) : -1152921504606846976 ≤ x * y ∧ x * y ≤ 1152921504606846976 := by
  have a1 : x * y ≤ 1073741824 * y := Int.mul_le_mul_of_nonneg_right h2 h3
  have a2 : -1073741824 * y ≤ x * y := Int.mul_le_mul_of_nonneg_right h1 h3
  omega
/-- Between two steps the cost lies between theirs. -/
theorem segC_range {a b : St} {t : Int} (hd : a.1 < b.1) (h0 : a.1 ≤ t) (h1 : t ≤ b.1) :
    (a.2 ≤ b.2 → a.2 ≤ segC a b t ∧ segC a b t ≤ b.2) ∧ (b.2 ≤ a.2 → b.2 ≤ segC a b t ∧ segC a b t ≤ a.2) := by
  unfold segC
  have hp : 0 < b.1 - a.1 := by omega
  refine ⟨fun h => ?_, fun h => ?_⟩
  · have l1 : 0 ≤ (b.2 - a.2) * (t - a.1) := Int.mul_nonneg (by omega) (by omega)
    have l2 : (b.2 - a.2) * (t - a.1) ≤ (b.2 - a.2) * (b.1 - a.1) := Int.mul_le_mul_of_nonneg_left (by omega) (by omega)
    have l3 : 0 ≤ (b.2 - a.2) * (t - a.1) / (b.1 - a.1) := Int.ediv_nonneg l1 (by omega)
    have l4 : (b.2 - a.2) * (t - a.1) / (b.1 - a.1) ≤ b.2 - a.2 := Int.ediv_le_of_le_mul hp (by omega)
    omega
  · have l1 : (b.2 - a.2) * (t - a.1) ≤ 0 := Int.mul_nonpos_of_nonpos_of_nonneg (by omega) (by omega)
    have l2 : (b.2 - a.2) * (b.1 - a.1) ≤ (b.2 - a.2) * (t - a.1) := Int.mul_le_mul_of_nonpos_left (by omega) (by omega)
    have l3 : (b.2 - a.2) * (t - a.1) / (b.1 - a.1) ≤ 0 := by
      have := Int.ediv_le_ediv hp l1
      simpa using this
    have l4 : b.2 - a.2 ≤ (b.2 - a.2) * (t - a.1) / (b.1 - a.1) := Int.le_ediv_of_mul_le hp l2
    omega
theorem segC_good {a b : St} {t : Int} (ha : goodS a) (hb : goodS b) (hd : a.1 < b.1) (h0 : a.1 ≤ t) (h1 : t ≤ b.1) : 0 ≤ segC a b t ∧ segC a b t ≤ 1073741824 := by
  obtain ⟨r1, r2⟩ := segC_range hd h0 h1
  unfold goodS at ha hb
  rcases Int.le_total a.2 b.2 with h | h
  · have := r1 h; omega
  · have := r2 h; omega
theorem atFrom_good : ∀ (r : List St) (a : St) (t : Int), ChainC a r → a.1 ≤ t → 0 ≤ atFrom a r t ∧ atFrom a r t ≤ 1073741824
  | [], a, t, h, _ => by have := chain_good h; unfold goodS at this; simp only [atFrom]; omega
  | b :: r, a, t, h, h0 => by
    obtain ⟨ha, hd, hs, hc⟩ := h
    simp only [atFrom]
    by_cases h1 : t ≤ b.1
    · rw [if_pos h1]
      exact segC_good ha (chain_good hc) hd h0 h1
    · rw [if_neg h1]
      exact atFrom_good r b t hc (by omega)
theorem atC_good {l : List St} {t : Int} (h : ValidC l) : 0 ≤ atC l t ∧ atC l t ≤ 1073741824 := by
  cases l with
  | nil => exact h.elim
  | cons a r =>
    simp only [atC]
    by_cases h1 : t ≤ a.1
    · rw [if_pos h1]
      have := chain_good h.2
      unfold goodS at this
      omega
    · rw [if_neg h1]
      exact atFrom_good r a t h.2 (by omega)

theorem segC_mono {a b : St} {t t' : Int} (hd : a.1 < b.1) (hs : a.1 + a.2 ≤ b.1 + b.2) (h : t ≤ t') : t + segC a b t ≤ t' + segC a b t' := by
  unfold segC
  have hp : 0 < b.1 - a.1 := by omega
  have e : (b.2 - a.2) * (t' - a.1) = (b.2 - a.2) * (t - a.1) + (b.2 - a.2) * (t' - t) := by rw [← Int.mul_add]; congr 1; omega
  have l1 : -(b.1 - a.1) * (t' - t) ≤ (b.2 - a.2) * (t' - t) := Int.mul_le_mul_of_nonneg_right (by omega) (by omega)
  have l2 : (b.2 - a.2) * (t - a.1) + -(t' - t) * (b.1 - a.1) ≤ (b.2 - a.2) * (t' - a.1) := by
    have : -(t' - t) * (b.1 - a.1) = -(b.1 - a.1) * (t' - t) := by rw [Int.neg_mul, Int.neg_mul, Int.mul_comm]
    omega
  have l3 := Int.ediv_le_ediv hp l2
  rw [Int.add_mul_ediv_right _ _ (by omega)] at l3
  omega
theorem segC_end {a b : St} (hd : a.1 < b.1) : segC a b b.1 = b.2 := by
  unfold segC
  rw [Int.mul_ediv_cancel _ (by omega)]
  omega
theorem atFrom_start : ∀ (r : List St) (a : St), ChainC a r → atFrom a r a.1 = a.2
  | [], a, _ => rfl
  | b :: r, a, h => by
    simp only [atFrom]
    rw [if_pos (by have := h.2.1; omega)]
    unfold segC
    simp
theorem atFrom_mono : ∀ (r : List St) (a : St) (t t' : Int), ChainC a r → a.1 ≤ t → t ≤ t' → t + atFrom a r t ≤ t' + atFrom a r t'
  | [], a, t, t', _, _, h => by simp only [atFrom]; omega
  | b :: r, a, t, t', hc, h0, h => by
    obtain ⟨ha, hd, hs, hc2⟩ := hc
    simp only [atFrom]
    by_cases h1 : t' ≤ b.1
    · rw [if_pos h1, if_pos (by omega)]
      exact segC_mono hd hs h
    · rw [if_neg h1]
      by_cases h2 : t ≤ b.1
      · rw [if_pos h2]
        have m1 := segC_mono (t := t) (t' := b.1) hd hs h2
        rw [segC_end hd] at m1
        have m2 := atFrom_mono r b b.1 t' hc2 (Int.le_refl _) (by omega)
        rw [atFrom_start r b hc2] at m2
        omega
      · rw [if_neg h2]
        exact atFrom_mono r b t t' hc2 (by omega) h
theorem atC_mono {l : List St} {t t' : Int} (hv : ValidC l) (h : t ≤ t') : t + atC l t ≤ t' + atC l t' := by
  cases l with
  | nil => exact hv.elim
  | cons a r =>
    simp only [atC]
    by_cases h1 : t' ≤ a.1
    · rw [if_pos h1, if_pos (by omega)]
      omega
    · rw [if_neg h1]
      by_cases h2 : t ≤ a.1
      · rw [if_pos h2]
        have m := atFrom_mono r a a.1 t' hv.2 (Int.le_refl _) (by omega)
        rw [atFrom_start r a hv.2] at m
        omega
      · rw [if_neg h2]
        exact atFrom_mono r a t t' hv.2 (by omega) h
theorem chain_all : ∀ (r : List St) (a : St), ChainC a r → ∀ s ∈ a :: r, goodS s
  | [], a, h, s, hs => by
    rcases List.mem_cons.1 hs with rfl | hs
    · exact h
    · cases hs
  | c :: r, a, h, s, hs => by
    rcases List.mem_cons.1 hs with rfl | hs
    · exact h.1
    · exact chain_all r c h.2.2.2 s hs
theorem valid_all {l : List St} (h : ValidC l) : ∀ s ∈ l, goodS s := by
  cases l with
  | nil => exact h.elim
  | cons a r => exact chain_all r a h.2
end Go.Proofs.Ytoebjlimpnmaoaa.Rw
