/- Who starts later does not arrive earlier; in small networks times stay small. No program in sight. -/
import Derived.Test.YtoebjlimpnmaoaaPlTimedWaitsn
namespace Go.Proofs.Ytoebjlimpnmaoaa.Rw
open Go.Rx
set_option linter.unusedVariables false
set_option linter.unusedSimpArgs false

theorem later_least {n : Nat} {E : List Ed} {C : List (List St)} {s : Nat} {a a' : Int} (haa : a ≤ a') (hN : NetC n E C) {L : List Int} (h : OkL n E C s a L) (hS : ∀ i, i < E.length → Shut E C L i) {v : Nat} {t : Int} (ht : Tr E C s a' v t) : 0 ≤ L.getD v 0 ∧ L.getD v 0 ≤ t := by
  induction ht with
  | start => have := h.st; omega
  | step h2 h3 hi ih =>
    have k := hS _ hi ih.1 (by omega)
    have := hN.mono hi ih.2
    omega
def cntT (n : Nat) (L : List Int) (T : Int) : Nat := ((List.range n).filter (fun v => decide (0 ≤ L.getD v 0 ∧ L.getD v 0 ≤ T))).length
theorem gap {n : Nat} {E : List Ed} {C : List (List St)} {s : Nat} {a : Int} (hN : NetC n E C) (hs : s < n) (h0 : 0 ≤ a) (hc : ∀ i, i < E.length → ∀ t, atC (C.getD i []) t ≤ 200) {L : List Int} (h : OkL n E C s a L) (hS : ∀ i, i < E.length → Shut E C L i) {T : Int} (hT : a ≤ T) (hT1 : T ≤ 1000000) {v : Nat} {t : Int} (ht : Tr E C s a v t) :
    T < L.getD v 0 → ∃ u, u < n ∧ T < L.getD u 0 ∧ L.getD u 0 ≤ T + 200 := by
  induction ht with
  | start => intro hv; have := h.st; omega
  | @step i t h2 h3 hi ih =>
    intro hv
    have hl := shut_least hN h hS h2
    by_cases c : T < L.getD (frN E i) 0
    · exact ih c
    · have k := hS i hi hl.1 (by omega)
      have hb := hc i hi (L.getD (frN E i) 0)
      unfold arrC at k
      exact ⟨toN E i, (hN.to hi).1, hv, by omega⟩
theorem cnt_up {n : Nat} {L : List Int} {T T' : Int} (hTT : T ≤ T') {u : Nat} (hu : u < n) (h1 : T < L.getD u 0) (h2 : L.getD u 0 ≤ T') (h0 : 0 ≤ T) : cntT n L T < cntT n L T' := by
  unfold cntT
  have hsub : (List.range n).filter (fun v => decide (0 ≤ L.getD v 0 ∧ L.getD v 0 ≤ T)) = ((List.range n).filter (fun v => decide (0 ≤ L.getD v 0 ∧ L.getD v 0 ≤ T'))).filter (fun v => decide (0 ≤ L.getD v 0 ∧ L.getD v 0 ≤ T)) := by
    rw [List.filter_filter]
    refine List.filter_congr fun q _ => ?_
    by_cases g : 0 ≤ L.getD q 0 ∧ L.getD q 0 ≤ T
    · have g' : 0 ≤ L.getD q 0 ∧ L.getD q 0 ≤ T' := ⟨g.1, by omega⟩
      simp only [g, g', decide_true, Bool.and_self]
    · simp only [g, decide_false, Bool.false_and]
  rw [hsub]
  refine List.length_filter_lt_length_iff_exists.2 ⟨u, List.mem_filter.2 ⟨List.mem_range.2 hu, decide_eq_true ⟨by omega, h2⟩⟩, ?_⟩
  simp only [decide_eq_true_eq]
  omega
theorem small_times {n : Nat} {E : List Ed} {C : List (List St)} {s : Nat} {a : Int} (hn : n ≤ 8) (hN : NetC n E C) (hs : s < n) (h0 : 0 ≤ a) (h1 : a ≤ 10000) (hc : ∀ i, i < E.length → ∀ t, atC (C.getD i []) t ≤ 200) {L : List Int} (h : OkL n E C s a L) (hS : ∀ i, i < E.length → Shut E C L i) {v : Nat} (hv : v < n) : L.getD v 0 ≤ a + 1600 := by
  have key : ∀ j : Nat, j ≤ 8 → (∃ u, u < n ∧ a + 200 * (j : Int) < L.getD u 0) → j + 1 ≤ cntT n L (a + 200 * (j : Int)) := fun j => by
    induction j with
    | zero =>
      intro _ _
      have hm : s ∈ (List.range n).filter (fun v => decide (0 ≤ L.getD v 0 ∧ L.getD v 0 ≤ a + 200 * ((0 : Nat) : Int))) := List.mem_filter.2 ⟨List.mem_range.2 hs, decide_eq_true ⟨h.st.1, by have := h.st.2; omega⟩⟩
      have := List.length_pos_of_mem hm
      unfold cntT; omega
    | succ j ih =>
      intro hj hex
      obtain ⟨u, hu, hg⟩ := hex
      have i1 := ih (by omega) ⟨u, hu, by omega⟩
      have hpos : 0 ≤ L.getD u 0 := by omega
      obtain ⟨q, q1, q2, q3⟩ := gap hN hs h0 hc h hS (T := a + 200 * (j : Int)) (by omega) (by omega) (h.true_ u hu hpos) (by omega)
      have := cnt_up (n := n) (L := L) (T := a + 200 * (j : Int)) (T' := a + 200 * ((j + 1 : Nat) : Int)) (by omega) q1 q2 (by omega) (by omega)
      omega
  rcases Int.lt_or_le (a + 1600) (L.getD v 0) with g | g
  · have k := key 8 (by omega) ⟨v, hv, by omega⟩
    have : cntT n L (a + 200 * ((8 : Nat) : Int)) ≤ n := by
      unfold cntT
      refine Nat.le_trans (List.length_filter_le _ _) ?_
      simp
    omega
  · exact g
/-- Later starts: the same nodes, not earlier. -/
theorem waits {n : Nat} {E : List Ed} {C : List (List St)} {s : Nat} {a a' : Int} (hn : n ≤ 8) (hN : NetC n E C) (hs : s < n) (h0 : 0 ≤ a) (haa : a ≤ a') (h1 : a' ≤ 10000) (hc : ∀ i, i < E.length → ∀ t, atC (C.getD i []) t ≤ 200) {L M : List Int} (hL : OkL n E C s a L) (hLS : ∀ i, i < E.length → Shut E C L i) (hM : OkL n E C s a' M) (hMS : ∀ i, i < E.length → Shut E C M i) {v : Nat} (hv : v < n) :
    (L.getD v 0 < 0 ↔ M.getD v 0 < 0) ∧ L.getD v 0 ≤ M.getD v 0 := by
  have up : 0 ≤ M.getD v 0 → 0 ≤ L.getD v 0 ∧ L.getD v 0 ≤ M.getD v 0 := fun g => later_least haa hN hL hLS (hM.true_ v hv g)
  have dn : 0 ≤ L.getD v 0 → 0 ≤ M.getD v 0 := fun g => by
    have ht := hL.true_ v hv g
    have key : ∀ {u : Nat} {t : Int}, Tr E C s a u t → 0 ≤ M.getD u 0 := fun {u t} htr => by
      induction htr with
      | start => exact hM.st.1
      | @step i t h2 h3 hi ih =>
        have := small_times hn hN hs (by omega) h1 hc hM hMS (hN.fr hi).1
        exact (hMS i hi ih (by omega)).1
    exact key ht
  by_cases g : 0 ≤ M.getD v 0
  · have := up g; omega
  · have g2 : ¬ 0 ≤ L.getD v 0 := fun z => g (dn z)
    have e1 := hM.neg v hv (by omega)
    have e2 := hL.neg v hv (by omega)
    omega
end Go.Proofs.Ytoebjlimpnmaoaa.Rw
