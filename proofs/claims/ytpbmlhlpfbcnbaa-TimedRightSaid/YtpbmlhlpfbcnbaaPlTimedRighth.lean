/- Timetables out of raw numbers are valid. No condition. -/
import Derived.Test.YtpbmlhlpfbcnbaaPlTimedRightg
namespace Go.Proofs.Ytpbmlhlpfbcnbaa.Rw
open Go.Rx
set_option linter.unusedVariables false
set_option linter.unusedSimpArgs false
theorem tabL_snoc {S : Int} {r : Ride} (hr : ¬ rbad S r) : ∀ {l : List Ride} {d : Int}, tabL S d l = 0 → (∀ q ∈ l, q.2.2.1 ≤ r.2.2.1) → d ≤ r.2.2.1 → tabL S d (l ++ [r]) = 0
  | [], d, _, _, h => by
    simp only [List.nil_append, tabL]
    rw [if_neg hr, if_neg (by omega)]
  | q :: l, d, h, hq, hd => by
    simp only [List.cons_append, tabL] at h ⊢
    split at h
    · cases h
    · rename_i h1
      split at h
      · cases h
      · rename_i h2
        rw [if_neg h1, if_neg h2]
        exact tabL_snoc hr h (fun x hx => hq x (List.mem_cons_of_mem _ hx)) (hq q (List.mem_cons_self ..))
/-- Rides in order, none later than a time. -/
def rowOK (S : Int) (l : List Ride) (dep : Int) : Prop := tabL S 0 l = 0 ∧ ∀ q ∈ l, q.2.2.1 ≤ dep
theorem table_loop (S C cnt : Int) (hS : 2 ≤ S ∧ S ≤ 5) (hc : cnt ≤ 13) : ∀ (d i : Nat) (L : List Int) (l : List Ride) (dep : Int), (i : Int) + d = cnt → l.length = i → rowOK S l dep → 0 ≤ dep → dep ≤ 5 * i →
    ∃ l' : List Ride, Ev2 (fun k n => f22_l0 k n S C l L cnt (i : Int) dep) ((S, (C, l')), ()) ∧ rowOK S l' 65 ∧ l'.length ≤ 13
  | 0, i, L, l, dep, hid, hl, hr, h0, h1 => ⟨l, Ev2.step (g := fun _ _ => some ((S, (C, l)), ())) (fun k n => by
      rw [f22_l0, f22_l0_B, if_neg (by omega)]) (Ev2.pure _), ⟨hr.1, fun q hq => by have := hr.2 q hq; omega⟩, by omega⟩
  | d + 1, i, L, l, dep, hid, hl, hr, h0, h1 => by
    have hw1 : w64 (S - 1) = S - 1 := w64_id (by omega) (by omega)
    have n1 := fun k => next_eq k L 6 (by omega) (by omega)
    have b1 := next_lt (a := L) (n := 6) (by omega)
    generalize nextF L 6 = p1 at n1 b1
    have n2 := fun k => next_eq k p1.1 S (by omega) (by omega)
    have b2 := next_lt (a := p1.1) (n := S) (by omega)
    generalize nextF p1.1 S = p2 at n2 b2
    have n3 := fun k => next_eq k p2.1 (S - 1) (by omega) (by omega)
    have b3 := next_lt (a := p2.1) (n := S - 1) (by omega)
    generalize nextF p2.1 (S - 1) = p3 at n3 b3
    have n4 := fun k => next_eq k p3.1 9 (by omega) (by omega)
    have b4 := next_lt (a := p3.1) (n := 9) (by omega)
    generalize nextF p3.1 9 = p4 at n4 b4
    have n5 := fun k => next_eq k p4.1 4 (by omega) (by omega)
    generalize nextF p4.1 4 = p5 at n5
    have w1 : w64 (dep + p1.2) = dep + p1.2 := w64_id (by omega) (by omega)
    have w2 : w64 (p2.2 + 1) = p2.2 + 1 := w64_id (by omega) (by omega)
    have w3 : w64 (p2.2 + 1 + p3.2) = p2.2 + 1 + p3.2 := w64_id (by omega) (by omega)
    have w4 : w64 (dep + p1.2 + 1) = dep + p1.2 + 1 := w64_id (by omega) (by omega)
    have w5 : w64 (dep + p1.2 + 1 + p4.2) = dep + p1.2 + 1 + p4.2 := w64_id (by omega) (by omega)
    have hw : w64 ((i : Int) + 1) = ((i + 1 : Nat) : Int) := by rw [w64_id (by omega) (by omega)]; omega
    have ht1 := Int.tmod_lt_of_pos (p2.2 + 1 + p3.2) (show 0 < S by omega)
    have ht2 := Int.tmod_nonneg (a := p2.2 + 1 + p3.2) S (by omega)
    generalize hto : (p2.2 + 1 + p3.2).tmod S = to at ht1 ht2
    have hrow : rowOK S (l ++ [(p2.2, (to, (dep + p1.2, (dep + p1.2 + 1 + p4.2, p5.2))))]) (dep + p1.2) := by
      refine ⟨tabL_snoc (by unfold rbad; simp only []; omega) hr.1 (fun q hq => by have := hr.2 q hq; simp only []; omega) (by simp only []; omega), fun q hq => ?_⟩
      rcases List.mem_append.1 hq with hq | hq
      · have := hr.2 q hq; omega
      · rw [List.mem_singleton.1 hq]; exact Int.le_refl _
    obtain ⟨l', k1, k2⟩ := table_loop S C cnt hS hc d (i + 1) p5.1 _ (dep + p1.2) (by omega) (by simp [hl]) hrow (by omega) (by omega)
    refine ⟨l', Ev2.step (fun k n => ?_) k1, k2⟩
    rw [f22_l0, f22_l0_B, if_pos (by omega)]
    simp only [n1, n2, n3, n4, n5, hw1, Option.bind_some, w1, w2, w3, w4, w5, hw, hto]
    rw [if_pos (by omega), if_pos (by omega)]
theorem table_ev (a : List Int) : ∃ (S C : Int) (l : List Ride), Ev (fun k => f22 k a) ((S, (C, l)), ()) ∧ 2 ≤ S ∧ S ≤ 5 ∧ tabF S C l = 0 ∧ ∀ r ∈ l, r.2.2.1 ≤ 65 := by
  have n1 := fun k => next_eq k a 4 (by omega) (by omega)
  have b1 := next_lt (a := a) (n := 4) (by omega)
  generalize nextF a 4 = p1 at n1 b1
  have n2 := fun k => next_eq k p1.1 4 (by omega) (by omega)
  have b2 := next_lt (a := p1.1) (n := 4) (by omega)
  generalize nextF p1.1 4 = p2 at n2 b2
  have n3 := fun k => next_eq k p2.1 14 (by omega) (by omega)
  have b3 := next_lt (a := p2.1) (n := 14) (by omega)
  generalize nextF p2.1 14 = p3 at n3 b3
  have w1 : w64 (2 + p1.2) = 2 + p1.2 := w64_id (by omega) (by omega)
  obtain ⟨l, k1, k2, k3⟩ := table_loop (2 + p1.2) p2.2 p3.2 (by omega) (by omega) p3.2.toNat 0 p3.1 [] 0 (by omega) rfl ⟨rfl, fun q hq => by cases hq⟩ (by omega) (by omega)
  refine ⟨2 + p1.2, p2.2, l, ?_, by omega, by omega, ?_, k2.2⟩
  · refine Ev.of (fun k => ?_) k1.diag
    simp only [f22, f22_entry_B, n1, n2, n3, Option.bind_some, w1]
    rfl
  · unfold tabF
    rw [if_neg (by omega), if_neg (by omega)]
    exact k2.1
end Go.Proofs.Ytpbmlhlpfbcnbaa.Rw
