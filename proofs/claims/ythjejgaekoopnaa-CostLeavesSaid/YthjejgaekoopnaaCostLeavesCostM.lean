/- Curves: who starts later does not arrive earlier; costs lie within the range; the curves that raw numbers make are valid. -/
import Derived.Test.YthjejgaekoopnaaCostLeavesCostA
namespace Go.Proofs.Ythjejgaekoopnaa.PCostLeaves
open Go.RowKit Go.Proofs.YthjejgaekoopnaaW.PrintWords Go.Proofs.YthjejgaekoopnaaW.PrintLast Go.Proofs.YthjejgaekoopnaaW.PrintMore Go.Proofs.Ythjejgaekoopnaa.Evs
set_option linter.unusedVariables false
set_option linter.unusedSimpArgs false

theorem segC_mono {a b : S42} {t t' : Int} (hd : a.f0 < b.f0) (hs : a.f0 + a.f1 ≤ b.f0 + b.f1) (h : t ≤ t') : t + segC a b t ≤ t' + segC a b t' := by
  unfold segC
  have hp : 0 < b.f0 - a.f0 := by omega
  have e : (b.f1 - a.f1) * (t' - a.f0) = (b.f1 - a.f1) * (t - a.f0) + (b.f1 - a.f1) * (t' - t) := by rw [← Int.mul_add]; congr 1; omega
  have l1 : -(b.f0 - a.f0) * (t' - t) ≤ (b.f1 - a.f1) * (t' - t) := Int.mul_le_mul_of_nonneg_right (by omega) (by omega)
  have l2 : (b.f1 - a.f1) * (t - a.f0) + -(t' - t) * (b.f0 - a.f0) ≤ (b.f1 - a.f1) * (t' - a.f0) := by
    have : -(t' - t) * (b.f0 - a.f0) = -(b.f0 - a.f0) * (t' - t) := by rw [Int.neg_mul, Int.neg_mul, Int.mul_comm]
    omega
  have l3 := Int.ediv_le_ediv hp l2
  rw [Int.add_mul_ediv_right _ _ (by omega)] at l3
  omega
theorem segC_end {a b : S42} (hd : a.f0 < b.f0) : segC a b b.f0 = b.f1 := by
  unfold segC
  rw [Int.mul_ediv_cancel _ (by omega)]
  omega
theorem atFrom_start : ∀ (r : List S42) (a : S42), Chain a r → atFrom a r a.f0 = a.f1
  | [], a, _ => rfl
  | b :: r, a, h => by
    simp only [atFrom]
    rw [if_pos (by have := h.2.1; omega)]
    unfold segC
    simp
theorem atFrom_mono : ∀ (r : List S42) (a : S42) (t t' : Int), Chain a r → a.f0 ≤ t → t ≤ t' → t + atFrom a r t ≤ t' + atFrom a r t'
  | [], a, t, t', _, _, h => by simp only [atFrom]; omega
  | b :: r, a, t, t', hc, h0, h => by
    obtain ⟨ha, hd, hs, hc2⟩ := hc
    simp only [atFrom]
    by_cases h1 : t' ≤ b.f0
    · rw [if_pos h1, if_pos (by omega)]
      exact segC_mono hd hs h
    · rw [if_neg h1]
      by_cases h2 : t ≤ b.f0
      · rw [if_pos h2]
        have m1 := segC_mono (t := t) (t' := b.f0) hd hs h2
        rw [segC_end hd] at m1
        have m2 := atFrom_mono r b b.f0 t' hc2 (Int.le_refl _) (by omega)
        rw [atFrom_start r b hc2] at m2
        omega
      · rw [if_neg h2]
        exact atFrom_mono r b t t' hc2 (by omega) h
theorem atC_mono {l : List S42} {t t' : Int} (hv : Valid l) (h : t ≤ t') : t + atC l t ≤ t' + atC l t' := by
  cases l with
  | nil => exact hv.elim
  | cons a r =>
    simp only [atC]
    by_cases h1 : t' ≤ a.f0
    · rw [if_pos h1, if_pos (by omega)]
      omega
    · rw [if_neg h1]
      by_cases h2 : t ≤ a.f0
      · rw [if_pos h2]
        have m := atFrom_mono r a a.f0 t' hv.2 (Int.le_refl _) (by omega)
        rw [atFrom_start r a hv.2] at m
        omega
      · rw [if_neg h2]
        exact atFrom_mono r a t t' hv.2 (by omega) h
theorem chain_all : ∀ (r : List S42) (a : S42), Chain a r → ∀ s ∈ a :: r, good s
  | [], a, h, s, hs => by
    rcases List.mem_cons.1 hs with rfl | hs
    · exact h
    · cases hs
  | c :: r, a, h, s, hs => by
    rcases List.mem_cons.1 hs with rfl | hs
    · exact h.1
    · exact chain_all r c h.2.2.2 s hs
theorem valid_all {l : List S42} (h : Valid l) : ∀ s ∈ l, good s := by
  cases l with
  | nil => exact h.elim
  | cons a r => exact chain_all r a h.2
end Go.Proofs.Ythjejgaekoopnaa.PCostLeaves
