/- Earliest arrivals over edges whose costs depend on the time: what makes a row of times the right one. No program in sight. -/
import Derived.Test.YtoebjlimpnmaoaaPlTimedWaitsi
namespace Go.Proofs.Ytoebjlimpnmaoaa.Rw
open Go.Rx
set_option linter.unusedVariables false
set_option linter.unusedSimpArgs false

theorem gset {α : Type} (l : List α) (i j : Nat) (x z : α) : (l.set i x).getD j z = if i = j ∧ i < l.length then x else l.getD j z := by
  simp only [List.getD_eq_getElem?_getD, List.getElem?_set]
  by_cases h : i = j
  · subst h
    by_cases h2 : i < l.length
    · simp [h2]
    · simp [h2, List.getElem?_eq_none (show l.length ≤ i by omega)]
  · simp [h]
theorem getD_in {α : Type} {l : List α} {i : Nat} (h : i < l.length) (z z' : α) : l.getD i z = l.getD i z' := by
  simp [List.getD_eq_getElem?_getD, List.getElem?_eq_getElem h]
theorem getD_memb {α : Type} {l : List α} {i : Nat} (h : i < l.length) (z : α) : l.getD i z ∈ l := by
  rw [List.getD_eq_getElem?_getD, List.getElem?_eq_getElem h]; exact List.getElem_mem h
theorem row_ext {l m : List Int} (hl : l.length = m.length) (h : ∀ i, i < l.length → l.getD i 0 = m.getD i 0) : l = m := by
  refine List.ext_getElem hl (fun i h1 h2 => ?_)
  have := h i h1
  simpa [List.getD_eq_getElem?_getD, List.getElem?_eq_getElem h1, List.getElem?_eq_getElem h2] using this

def frN (E : List Ed) (i : Nat) : Nat := (E.getD i zE).1.toNat
def toN (E : List Ed) (i : Nat) : Nat := (E.getD i zE).2.1.toNat
def arrC (C : List (List St)) (i : Nat) (t : Int) : Int := t + atC (C.getD i []) t
/-- One can be at a node at a time. -/
inductive Tr (E : List Ed) (C : List (List St)) (s : Nat) (a : Int) : Nat → Int → Prop
  | start : Tr E C s a s a
  | step {i : Nat} {t : Int} : Tr E C s a (frN E i) t → t ≤ 1073741824 → i < E.length → Tr E C s a (toN E i) (arrC C i t)
structure NetC (n : Nat) (E : List Ed) (C : List (List St)) : Prop where
  ends : ∀ i, i < E.length → inR (E.getD i zE).1 n ∧ inR (E.getD i zE).2.1 n
  curves : ∀ i, i < E.length → ValidC (C.getD i [])
  len : C.length = E.length
  few : E.length ≤ 600
theorem NetC.fr {n : Nat} {E : List Ed} {C : List (List St)} (h : NetC n E C) {i : Nat} (hi : i < E.length) : frN E i < n ∧ (E.getD i zE).1 = (frN E i : Int) := by
  have := (h.ends i hi).1
  unfold inR at this; unfold frN; omega
theorem NetC.to {n : Nat} {E : List Ed} {C : List (List St)} (h : NetC n E C) {i : Nat} (hi : i < E.length) : toN E i < n ∧ (E.getD i zE).2.1 = (toN E i : Int) := by
  have := (h.ends i hi).2
  unfold inR at this; unfold toN; omega
theorem NetC.up {n : Nat} {E : List Ed} {C : List (List St)} (h : NetC n E C) {i : Nat} (hi : i < E.length) (t : Int) : t ≤ arrC C i t ∧ arrC C i t ≤ t + 1073741824 := by
  have := atC_good (t := t) (h.curves i hi)
  unfold arrC; omega
theorem NetC.mono {n : Nat} {E : List Ed} {C : List (List St)} (h : NetC n E C) {i : Nat} (hi : i < E.length) {t t' : Int} (ht : t ≤ t') : arrC C i t ≤ arrC C i t' := atC_mono (h.curves i hi) ht
theorem Tr.bound {n : Nat} {E : List Ed} {C : List (List St)} {s : Nat} {a : Int} (h : NetC n E C) (hs : s < n) (h0 : 0 ≤ a) (h1 : a ≤ 1073741824) {v : Nat} {t : Int} (ht : Tr E C s a v t) : v < n ∧ 0 ≤ t ∧ t ≤ 2147483648 := by
  induction ht with
  | start => exact ⟨hs, h0, by omega⟩
  | @step i t h2 h3 hi ih =>
    have := h.up hi t
    exact ⟨(h.to hi).1, by omega, by omega⟩
/-- A row of times at which one can be there, or -1. -/
structure OkL (n : Nat) (E : List Ed) (C : List (List St)) (s : Nat) (a : Int) (L : List Int) : Prop where
  len : L.length = n
  true_ : ∀ v, v < n → 0 ≤ L.getD v 0 → Tr E C s a v (L.getD v 0)
  neg : ∀ v, v < n → L.getD v 0 < 0 → L.getD v 0 = -1
  st : 0 ≤ L.getD s 0 ∧ L.getD s 0 ≤ a
/-- No edge leads somewhere earlier. -/
def Shut (E : List Ed) (C : List (List St)) (L : List Int) (i : Nat) : Prop :=
  0 ≤ L.getD (frN E i) 0 → L.getD (frN E i) 0 ≤ 1073741824 → 0 ≤ L.getD (toN E i) 0 ∧ L.getD (toN E i) 0 ≤ arrC C i (L.getD (frN E i) 0)
def relL (L : List Int) (v : Nat) (t : Int) : List Int := if L.getD v 0 < 0 ∨ t < L.getD v 0 then L.set v t else L
theorem OkL.first {n : Nat} {E : List Ed} {C : List (List St)} {s : Nat} {a : Int} (hs : s < n) (h0 : 0 ≤ a) : OkL n E C s a ((List.replicate n (-1)).set s a) := by
  have hg : ∀ v, v < n → ((List.replicate n (-1 : Int)).set s a).getD v 0 = if s = v then a else -1 := fun v hv => by
    rw [gset]
    simp only [List.length_replicate, hs, and_true]
    split
    · rfl
    · simp [List.getD_eq_getElem?_getD, List.getElem?_replicate, hv]
  refine ⟨by simp, fun v hv h => ?_, fun v hv h => ?_, ?_⟩
  · rw [hg v hv] at h ⊢
    by_cases e : s = v
    · subst e; rw [if_pos rfl]; exact .start
    · rw [if_neg e] at h; omega
  · rw [hg v hv] at h ⊢
    by_cases e : s = v
    · rw [if_pos e] at h; omega
    · rw [if_neg e]
  · rw [hg s hs, if_pos rfl]; omega
theorem rel_len (L : List Int) (v : Nat) (t : Int) : (relL L v t).length = L.length := by unfold relL; split <;> simp
theorem rel_at {L : List Int} {v : Nat} {t : Int} (hv : v < L.length) (w : Nat) : (relL L v t).getD w 0 = if v = w ∧ (L.getD v 0 < 0 ∨ t < L.getD v 0) then t else L.getD w 0 := by
  unfold relL
  by_cases c : L.getD v 0 < 0 ∨ t < L.getD v 0
  · rw [if_pos c, gset]
    by_cases e : v = w
    · rw [if_pos ⟨e, hv⟩, if_pos ⟨e, c⟩]
    · rw [if_neg (fun h => e h.1), if_neg (fun h => e h.1)]
  · rw [if_neg c, if_neg (fun h => c h.2)]
/-- Every place is at most what it was, or was empty. -/
def Below (L' L : List Int) : Prop := ∀ v, 0 ≤ L.getD v 0 → 0 ≤ L'.getD v 0 ∧ L'.getD v 0 ≤ L.getD v 0
theorem rel_below {L : List Int} {v : Nat} {t : Int} (hv : v < L.length) (ht : 0 ≤ t) : Below (relL L v t) L := fun w hw => by
  rw [rel_at hv]
  split
  · rename_i h; obtain ⟨rfl, h⟩ := h; omega
  · omega
theorem OkL.rel {n : Nat} {E : List Ed} {C : List (List St)} {s : Nat} {a : Int} {L : List Int} (h : OkL n E C s a L) {v : Nat} {t : Int} (hv : v < n) (ht : 0 ≤ t) (htr : Tr E C s a v t) : OkL n E C s a (relL L v t) := by
  have hl := h.len
  refine ⟨by rw [rel_len]; exact hl, fun w hw hp => ?_, fun w hw hp => ?_, ?_⟩
  · rw [rel_at (by omega)] at hp ⊢
    split
    · rename_i g; obtain ⟨rfl, _⟩ := g; exact htr
    · rename_i g; rw [if_neg g] at hp; exact h.true_ w hw hp
  · rw [rel_at (by omega)] at hp ⊢
    split
    · rename_i g; rw [if_pos g] at hp; omega
    · rename_i g; rw [if_neg g] at hp; exact h.neg w hw hp
  · have := rel_below (L := L) (v := v) (t := t) (by omega) ht s h.st.1
    have := h.st; omega
/-- A shut row is at most every time at which one can be there. -/
theorem shut_least {n : Nat} {E : List Ed} {C : List (List St)} {s : Nat} {a : Int} (hN : NetC n E C) {L : List Int} (h : OkL n E C s a L) (hS : ∀ i, i < E.length → Shut E C L i) {v : Nat} {t : Int} (ht : Tr E C s a v t) : 0 ≤ L.getD v 0 ∧ L.getD v 0 ≤ t := by
  induction ht with
  | start => exact h.st
  | step h2 h3 hi ih =>
    have k := hS _ hi ih.1 (by omega)
    have := hN.mono hi ih.2
    omega
theorem shut_one {n : Nat} {E : List Ed} {C : List (List St)} {s : Nat} {a : Int} (hN : NetC n E C) {L M : List Int} (h : OkL n E C s a L) (hS : ∀ i, i < E.length → Shut E C L i) (k : OkL n E C s a M) (kS : ∀ i, i < E.length → Shut E C M i) : L = M := by
  refine row_ext (by rw [h.len, k.len]) (fun v hv => ?_)
  have hv' : v < n := by have := h.len; omega
  by_cases c1 : 0 ≤ L.getD v 0
  · have a1 := shut_least hN k kS (h.true_ v hv' c1)
    have a2 := shut_least hN h hS (k.true_ v hv' a1.1)
    omega
  · by_cases c2 : 0 ≤ M.getD v 0
    · have a2 := shut_least hN h hS (k.true_ v hv' c2); omega
    · rw [h.neg v hv' (by omega), k.neg v hv' (by omega)]
/-! ### A measure -/
def wt (x : Int) : Nat := if x < 0 then 2147483649 else x.toNat
def meas (L : List Int) : Nat := (L.map wt).sum
theorem meas_set : ∀ (L : List Int) (v : Nat) (t : Int), v < L.length → wt t < wt (L.getD v 0) → meas (L.set v t) < meas L
  | [], v, t, hv, h => by simp at hv
  | x :: L, 0, t, hv, h => by
    simp only [meas, List.set_cons_zero, List.map_cons, List.sum_cons]
    simp at h; omega
  | x :: L, v + 1, t, hv, h => by
    have := meas_set L v t (by simpa using hv) (by simpa using h)
    simp only [meas, List.set_cons_succ, List.map_cons, List.sum_cons] at this ⊢
    omega
theorem meas_rel {L : List Int} {v : Nat} {t : Int} (hv : v < L.length) (h0 : 0 ≤ t) (h1 : t ≤ 2147483648) (c : L.getD v 0 < 0 ∨ t < L.getD v 0) : meas (relL L v t) < meas L := by
  unfold relL
  rw [if_pos c]
  refine meas_set L v t hv ?_
  unfold wt
  rw [if_neg (by omega)]
  split <;> omega
end Go.Proofs.Ytoebjlimpnmaoaa.Rw
