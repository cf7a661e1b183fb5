/- Timetables: who is ready earlier does not arrive later. No condition. -/
import Derived.Test.YthjejgaekoopnaaPlTimedEarlierk
namespace Go.Proofs.Ythjejgaekoopnaa.Rw
open Go.Rx
set_option linter.unusedVariables false
set_option linter.unusedSimpArgs false
def earlyOK (x y : Int) : Prop := 0 ≤ y → 0 ≤ x ∧ x ≤ y
theorem early_loop : ∀ (x y px py : List Int), px.length = py.length → x.length = y.length → (px ++ x).length ≤ 1000 → (∀ i, earlyOK (x.getD i 0) (y.getD i 0)) →
    Ev2 (fun k n => f14_l0 k n (px ++ x) (py ++ y) ((px ++ x).length : Int) (px.length : Int)) (true, ())
  | [], y, px, py, hp, hl, hb, h => Ev2.step (g := fun _ _ => some (true, ())) (fun k n => by rw [f14_l0, f14_l0_B, if_neg (by simp)]) (Ev2.pure _)
  | a :: x, [], px, py, hp, hl, hb, h => by simp at hl
  | a :: x, b :: y, px, py, hp, hl, hb, h => by
    have h0 : (0 : Int) ≤ (px.length : Int) := by omega
    have h1 : (px.length : Int) < ((px ++ a :: x).length : Int) := by simp; omega
    have h2 : (px.length : Int) < ((py ++ b :: y).length : Int) := by simp; omega
    have hw : w64 ((px.length : Int) + 1) = (((px ++ [a]).length : Nat) : Int) := by
      rw [w64_id (by omega) (by simp at hb; omega)]; simp
    have g1 : (px ++ a :: x).getD ((px.length : Int)).toNat 0 = a := getD_mid
    have g2 : (py ++ b :: y).getD ((px.length : Int)).toNat 0 = b := by rw [hp]; exact getD_mid
    have ih := early_loop x y (px ++ [a]) (py ++ [b]) (by simp; omega) (by simpa using hl) (by simp at hb ⊢; omega) (fun i => by have := h (i + 1); simpa using this)
    rw [show px ++ [a] ++ x = px ++ a :: x by simp, show py ++ [b] ++ y = py ++ b :: y by simp] at ih
    have hab : earlyOK a b := by have := h 0; simpa using this
    refine Ev2.step (fun k n => ?_) ih
    rw [f14_l0, f14_l0_B, if_pos h1, if_pos h0, if_pos h2, g1, g2]
    simp only [f14_r10, f14_r10_B, hw]
    by_cases c1 : 0 ≤ b
    · obtain ⟨q1, q2⟩ := hab c1
      rw [if_pos c1, if_pos h0, if_pos h1, if_neg (by omega), if_pos h0, if_pos h1, if_pos h0, if_pos h2, decide_eq_false (by omega), if_neg (by simp)]
    · rw [if_neg c1, if_neg (by simp)]
theorem early_law (a0 : List Int) (a1 a2 a3 : Int) : Ev (fun k => f14 k a0 a1 a2 a3) (true, ()) := by
  obtain ⟨S, C, l, ht, hS1, hS2, h0, hd⟩ := table_ev a0
  have hplan : Ev (fun k => f52 k) (true, ()) := Ev.off 30 f52_true
  have e1 := fun k => below_eq k a1 S (by omega) (by omega)
  have e2 := fun k => below_eq k a2 60 (by omega) (by omega)
  have e3 := fun k => below_eq k a3 20 (by omega) (by omega)
  have b1 := below_lt (x := a1) (n := S) (by omega)
  have b2 := below_lt (x := a2) (n := 60) (by omega)
  have b3 := below_lt (x := a3) (n := 20) (by omega)
  simp only [f14, f14_entry_B]
  refine ht.bind ?_
  simp only [e1, e2, e3, Option.bind_some]
  generalize belowF a1 S = a at b1
  generalize belowF a2 60 = n at b2
  generalize belowF a3 20 = m at b3
  have hw : w64 (n + m) = n + m := w64_id (by omega) (by omega)
  have hv : ∀ d, 0 ≤ d ∧ d ≤ 100 → allF S C l a d = (allL S C l a d, 0, ()) := fun d hd => by
    have hz : valid1F S C l a d = 0 := by
      unfold valid1F
      rw [if_pos h0, if_neg (show ¬ badS S a by unfold badS; omega), if_neg (by omega)]
    unfold allF
    rw [if_pos hz]
  refine (all_ev S C l a n).bind ?_
  rw [hv n (by omega)]
  simp only [hw]
  refine (all_ev S C l a (n + m)).bind ?_
  rw [hv (n + m) (by omega)]
  refine hplan.bind ?_
  have hl1 : ((allL S C l a n).length : Int) = S := by rw [allL_len]; omega
  have hl2 : ((allL S C l a (n + m)).length : Int) = S := by rw [allL_len]; omega
  simp only [hl1, hl2, not_true_eq_false, if_false, decide_false, f14_r5, f14_r5_B, Bool.false_eq_true]
  have key : ∀ s, earlyOK ((allL S C l a n).getD s 0) ((allL S C l a (n + m)).getD s 0) := fun s hs => by
    by_cases hsS : (s : Int) < S
    · by_cases hsa : (s : Int) = a
      · have e : ∀ d, (allL S C l a d).getD s 0 = d := fun d => by
          unfold allL
          rw [getD_set, if_pos ⟨by omega, by rw [allFold_len]; simp; omega⟩]
        rw [e] at hs ⊢
        rw [e]
        omega
      · obtain ⟨_, k1⟩ := all_spec (at_ := n + m) h0 b1.1 hsS hsa ((allL S C l a (n + m)).getD s 0)
        obtain ⟨_, k2⟩ := all_spec (at_ := n) h0 b1.1 hsS hsa ((allL S C l a (n + m)).getD s 0)
        obtain ⟨j, j1, j2, j3⟩ := k1.1 ⟨hs, Int.le_refl _⟩
        exact k2.2 ⟨j, j1, j2.mono (by omega), j3⟩
    · have e : ∀ d, (allL S C l a d).getD s 0 = 0 := fun d => by
        rw [List.getD_eq_getElem?_getD, List.getElem?_eq_none (by rw [allL_len]; omega)]; rfl
      rw [e] at hs ⊢
      rw [e]
      omega
  have := (early_loop (allL S C l a n) (allL S C l a (n + m)) [] [] rfl (by omega) (by simp; omega) key).diag
  simpa [hl1] using this
/-- **Who is ready earlier does not arrive later.** -/
theorem pure_TimedEarlier : Pure_TimedEarlier := by
  rintro ⟨a0, a1, a2, a3, u⟩ hwf
  exact (early_law a0 a1 a2 a3).get
end Go.Proofs.Ythjejgaekoopnaa.Rw
