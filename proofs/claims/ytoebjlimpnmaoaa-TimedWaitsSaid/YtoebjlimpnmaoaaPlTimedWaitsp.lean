/- Curves out of raw numbers: valid, with small costs. No condition. -/
import Derived.Test.YtoebjlimpnmaoaaPlTimedWaitso
namespace Go.Proofs.Ytoebjlimpnmaoaa.Rw
open Go.Rx
set_option linter.unusedVariables false
set_option linter.unusedSimpArgs false

def SmallC (c : List St) : Prop := ∀ s ∈ c, s.1 ≤ 200 ∧ s.2 ≤ 200
theorem atFrom_le {hi : Int} : ∀ (r : List St) (a : St) (t : Int), ChainC a r → a.1 ≤ t → (∀ s ∈ a :: r, s.2 ≤ hi) → atFrom a r t ≤ hi
  | [], a, t, _, _, h => h a (List.mem_cons_self ..)
  | b :: r, a, t, hc, h0, h => by
    obtain ⟨ha, hd, hs, hc2⟩ := hc
    simp only [atFrom]
    by_cases h1 : t ≤ b.1
    · rw [if_pos h1]
      have b1 := h a (List.mem_cons_self ..)
      have b2 := h b (List.mem_cons_of_mem _ (List.mem_cons_self ..))
      obtain ⟨r1, r2⟩ := segC_range hd h0 h1
      rcases Int.le_total a.2 b.2 with h | h
      · have := r1 h; omega
      · have := r2 h; omega
    · rw [if_neg h1]
      exact atFrom_le r b t hc2 (by omega) (fun s hs => h s (List.mem_cons_of_mem _ hs))
theorem atC_small {c : List St} (hv : ValidC c) (hs : SmallC c) (t : Int) : atC c t ≤ 200 := by
  cases c with
  | nil => exact hv.elim
  | cons a r =>
    simp only [atC]
    by_cases h1 : t ≤ a.1
    · rw [if_pos h1]; exact (hs a (List.mem_cons_self ..)).2
    · rw [if_neg h1]
      exact atFrom_le r a t hv.2 (by omega) (fun s h => (hs s h).2)
theorem chain_snoc : ∀ (r : List St) (a s : St), ChainC a r → goodS s → ((a :: r).getD r.length (0, 0)).1 < s.1 → ((a :: r).getD r.length (0, 0)).1 + ((a :: r).getD r.length (0, 0)).2 ≤ s.1 + s.2 → ChainC a (r ++ [s])
  | [], a, s, h, hs, h1, h2 => ⟨h, h1, h2, hs⟩
  | b :: r, a, s, h, hs, h1, h2 => ⟨h.1, h.2.1, h.2.2.1, chain_snoc r b s h.2.2.2 hs h1 h2⟩
theorem curve_loop (m : Nat) (hm : m ≤ 4) : ∀ (d : Nat) (a : St) (r : List St) (l : List Int), r.length + d = m → ChainC a r → SmallC (a :: r) → ((a :: r).getD r.length (0, 0)).1 ≤ 20 + 20 * (r.length : Int) → ((a :: r).getD r.length (0, 0)).2 ≤ 30 + 30 * (r.length : Int) →
    ∃ c, Ev2 (fun k n => f24_l0 k n (a :: r) l (m : Int) (r.length : Int)) (c, ()) ∧ ValidC c ∧ SmallC c
  | 0, a, r, l, hd, hc, hs, h0, h1 => by
    refine ⟨a :: r, Ev2.step (g := fun _ _ => some (a :: r, ())) (fun k n => ?_) (Ev2.pure _), ⟨by simp; omega, hc⟩, hs⟩
    rw [f24_l0, f24_l0_B, if_neg (by omega)]
  | d + 1, a, r, l, hd, hc, hs, h0, h1 => by
    have hw : w64 (((a :: r).length : Int) - 1) = (r.length : Int) := by rw [w64_id (by simp only [List.length_cons]; omega) (by simp only [List.length_cons]; omega)]; simp
    have hwi : w64 ((r.length : Int) + 1) = ((r.length + 1 : Nat) : Int) := by rw [w64_id (by omega) (by omega)]; omega
    generalize hb : (a :: r).getD r.length (0, 0) = b at *
    have hmem : b ∈ a :: r := by
      rw [← hb, List.getD_eq_getElem?_getD, List.getElem?_eq_getElem (by simp)]
      exact List.getElem_mem _
    have hgb : goodS b := chain_all r a hc b hmem
    have hgb' := hgb
    unfold goodS at hgb'
    have n1 := next_lt (a := l) (n := 20) (by omega)
    have n2 := next_lt (a := (nextF l 20).1) (n := 30) (by omega)
    generalize hr1 : nextF l 20 = r1 at n1 n2
    generalize hr2 : nextF r1.1 30 = r2 at n2
    have w1 : w64 (1 + r1.2) = 1 + r1.2 := w64_id (by omega) (by omega)
    have w2 : w64 (b.1 + (1 + r1.2)) = b.1 + (1 + r1.2) := w64_id (by omega) (by omega)
    have w3 : w64 (b.2 - (1 + r1.2)) = b.2 - (1 + r1.2) := w64_id (by omega) (by omega)
    have hmx : mx2 true 0 (b.2 - (1 + r1.2)) = max 0 (b.2 - (1 + r1.2)) := mx2_max _ _
    have w4 : w64 (max 0 (b.2 - (1 + r1.2)) + r2.2) = max 0 (b.2 - (1 + r1.2)) + r2.2 := w64_id (by omega) (by omega)
    have hs2 : goodS (b.1 + (1 + r1.2), max 0 (b.2 - (1 + r1.2)) + r2.2) := by unfold goodS; simp only; omega
    have hg2 : (a :: (r ++ [(b.1 + (1 + r1.2), max 0 (b.2 - (1 + r1.2)) + r2.2)])).getD (r ++ [(b.1 + (1 + r1.2), max 0 (b.2 - (1 + r1.2)) + r2.2)]).length (0, 0) = (b.1 + (1 + r1.2), max 0 (b.2 - (1 + r1.2)) + r2.2) := by
      simp [List.getD_eq_getElem?_getD]
    obtain ⟨c, hc1, hc2, hc3⟩ := curve_loop m hm d a (r ++ [(b.1 + (1 + r1.2), max 0 (b.2 - (1 + r1.2)) + r2.2)]) r2.1 (by simp; omega)
      (chain_snoc r a _ hc hs2 (by rw [hb]; simp only; omega) (by rw [hb]; simp only; omega))
      (fun s hs' => by
        rw [← List.cons_append] at hs'
        rcases List.mem_append.1 hs' with h | h
        · exact hs s h
        · rw [List.mem_singleton.1 h]; simp only; omega)
      (by rw [hg2]; simp; omega) (by rw [hg2]; simp; omega)
    refine ⟨c, Ev2.step (fun k n => ?_) hc1, hc2, hc3⟩
    have hl : (a :: r).length = r.length + 1 := rfl
    rw [f24_l0, f24_l0_B, if_pos (by omega), hw, if_pos (by omega), if_pos (by rw [hl]; omega)]
    simp only [next_eq k l 20 (by omega) (by omega), Option.bind_some, hr1, next_eq k r1.1 30 (by omega) (by omega), hr2]
    rw [if_pos (by rw [hl]; omega), Int.toNat_natCast, hb, w1, w2, w3, hmx, w4, hwi]
    simp
theorem curve_ev (l : List Int) : ∃ c, Ev (fun k => f24 k l) (c, ()) ∧ ValidC c ∧ SmallC c := by
  have n1 := next_lt (a := l) (n := 20) (by omega)
  have n2 := next_lt (a := (nextF l 20).1) (n := 30) (by omega)
  have n3 := next_lt (a := (nextF (nextF l 20).1 30).1) (n := 4) (by omega)
  generalize hr1 : nextF l 20 = r1 at n1 n2 n3
  generalize hr2 : nextF r1.1 30 = r2 at n2 n3
  generalize hr3 : nextF r2.1 4 = r3 at n3
  obtain ⟨m, hm⟩ : ∃ m : Nat, r3.2 = (m : Int) := ⟨r3.2.toNat, by omega⟩
  obtain ⟨c, h1, h2, h3⟩ := curve_loop m (by omega) m (r1.2, r2.2) [] r3.1 (by simp) (by show goodS _; unfold goodS; simp only; omega)
    (fun s hs => by rw [List.mem_singleton.1 hs]; simp only; omega) (by simp; omega) (by simp; omega)
  refine ⟨c, ?_, h2, h3⟩
  simp only [f24, f24_entry_B, next_eq _ l 20 (show (1 : Int) ≤ 20 by omega) (show (20 : Int) ≤ 1000000000000 by omega), Option.bind_some, hr1, next_eq _ r1.1 30 (show (1 : Int) ≤ 30 by omega) (show (30 : Int) ≤ 1000000000000 by omega), hr2, next_eq _ r2.1 4 (show (1 : Int) ≤ 4 by omega) (show (4 : Int) ≤ 1000000000000 by omega), hr3, hm]
  exact h1.diag
end Go.Proofs.Ytoebjlimpnmaoaa.Rw
