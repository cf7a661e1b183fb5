/- Who starts later does not arrive earlier. No condition. -/
import Derived.Test.YtoebjlimpnmaoaaPlTimedWaitsp
namespace Go.Proofs.Ytoebjlimpnmaoaa.Rw
open Go.Rx
set_option linter.unusedVariables false
set_option linter.unusedSimpArgs false

theorem plannedK_true (j : Nat) : f26 (j + 30) = some (true, ()) := by kernel_rfl
theorem wait_cmp (N : List Pt) (E : List Ed) (L M : List Int) (hl : L.length = N.length) (hm : M.length = N.length) (hN : N.length ≤ 200) (h : ∀ v, v < N.length → (L.getD v 0 < 0 ↔ M.getD v 0 < 0) ∧ L.getD v 0 ≤ M.getD v 0) : ∀ (d i : Nat), i + d = L.length →
    Ev2 (fun k n => f4_l2 k n L M N E ([] : List Pt) (L.length : Int) (i : Int)) (true, ())
  | 0, i, hi => by
    refine Ev2.step (g := fun _ _ => some (true, ())) (fun k n => ?_) (Ev2.pure _)
    rw [f4_l2, f4_l2_B, if_neg (by omega), decide_eq_true (by omega)]
  | d + 1, i, hi => by
    have ih := wait_cmp N E L M hl hm hN h d (i + 1) (by omega)
    have hw : w64 ((i : Int) + 1) = ((i + 1 : Nat) : Int) := by rw [w64_id (by omega) (by omega)]; omega
    obtain ⟨h1, h2⟩ := h i (by omega)
    refine Ev2.step (fun k n => ?_) ih
    rw [f4_l2, f4_l2_B, if_pos (by omega), if_pos (by omega), if_pos (by omega), if_pos (by omega), if_pos (by omega), Int.toNat_natCast, if_neg (by simp only [Classical.not_not]; exact decide_eq_decide.2 h1), if_pos (by omega), if_pos (by omega), if_pos (by omega), if_pos (by omega), decide_eq_false (by omega), f4_r16, f4_r16_B, if_neg (by simp), hw]
theorem wait_end {N : List Pt} {E : List Ed} {C : List (List St)} (hv : netF (N, (E, ([] : List Pt))) = 0) (h2 : 2 ≤ N.length) (h8 : N.length ≤ 8) (hC : C.length = E.length) (hgood : ∀ c ∈ C, ValidC c ∧ SmallC c) (m : List Int) (x y : Int) :
    Ev2 (fun k n => f4_l0 k n C N E ([] : List Pt) m x (E.length : Int) (E.length : Int) y) (true, ()) := by
  have l1 := below_lt (x := x) (n := 60) (by omega)
  have l2 := below_lt (x := y) (n := 60) (by omega)
  have hcv : ∀ (l : List (List St)), (∀ c ∈ l, ValidC c ∧ SmallC c) → cvF l = 0 := fun l => by
    induction l with
    | nil => intro _; rfl
    | cons c l ih =>
      intro h
      simp only [cvF]
      rw [if_pos ((crvF_zero c).2 (h c (List.mem_cons_self ..)).1)]
      exact ih fun c' hc' => h c' (List.mem_cons_of_mem _ hc')
  have hw : w64 (belowF x 60 + belowF y 60) = belowF x 60 + belowF y 60 := w64_id (by omega) (by omega)
  obtain ⟨hN, L, k1, k2, k3⟩ := hoursOK_ev (s := 0) (a := belowF x 60) hv hC (hcv C hgood) (by omega) l1.1 (by omega)
  obtain ⟨_, M, g1, g2, g3⟩ := hoursOK_ev (s := 0) (a := belowF x 60 + belowF y 60) hv hC (hcv C hgood) (by omega) (by omega) (by omega)
  have hs : ∀ i, i < E.length → ∀ t, atC (C.getD i []) t ≤ 200 := fun i hi t => by
    have hm := hgood _ (getD_memb (l := C) (i := i) (by omega) [])
    exact atC_small hm.1 hm.2 t
  have hcmp : ∀ v, v < N.length → (L.getD v 0 < 0 ↔ M.getD v 0 < 0) ∧ L.getD v 0 ≤ M.getD v 0 := fun v hv' => waits h8 hN (by omega) l1.1 (by omega) (by omega) hs k1 k2 g1 g2 hv'
  have hll := k1.len
  have hml := g1.len
  refine Ev2.step (g := fun k _ => (f25 k (N, (E, ([] : List Pt))) C 0 (belowF x 60)).bind fun r3 => (f25 k (N, (E, ([] : List Pt))) C 0 (belowF x 60 + belowF y 60)).bind fun r5 => (f26 k).bind fun r6 => if ¬ (r6.1 = true) then f4_r11 k r3.1 r5.1 N E ([] : List Pt) true else if ¬ (r3.2.1 = 0) then f4_r11 k r3.1 r5.1 N E ([] : List Pt) true else if ¬ (r5.2.1 = 0) then f4_r11 k r3.1 r5.1 N E ([] : List Pt) true else f4_r11 k r3.1 r5.1 N E ([] : List Pt) (decide (¬ ((r3.1.length : Int) = (r5.1.length : Int))))) (fun k n => ?_) (Ev.two ?_)
  · rw [f4_l0, f4_l0_B, if_neg (by omega)]
    simp only [below_eq k _ 60 (by omega) (by omega), Option.bind_some, hw]
  · refine k3.bind (g3.bind ((Ev.off 30 plannedK_true : Ev (fun k => f26 k) (true, ())).bind ?_))
    simp only [not_true_eq_false, if_false, hll, hml, decide_false]
    refine Ev.of (fun k => ?_) (wait_cmp N E L M hll hml (by omega) hcmp L.length 0 (by omega)).diag
    rw [f4_r11, f4_r11_B, if_neg (by simp)]
    rfl
theorem wait_curves {N : List Pt} {E : List Ed} (hv : netF (N, (E, ([] : List Pt))) = 0) (h2 : 2 ≤ N.length) (h8 : N.length ≤ 8) (hE : E.length ≤ 16) (m : List Int) (x y : Int) : ∀ (d i : Nat) (C : List (List St)), i + d = E.length → C.length = i → (∀ c ∈ C, ValidC c ∧ SmallC c) →
    Ev2 (fun k n => f4_l0 k n C N E ([] : List Pt) m x (E.length : Int) (i : Int) y) (true, ())
  | 0, i, C, hi, hC, hg => by
    have : i = E.length := by omega
    subst this
    exact wait_end hv h2 h8 hC hg m x y
  | d + 1, i, C, hi, hC, hg => by
    have hw : w64 ((i : Int) + 1) = ((i + 1 : Nat) : Int) := by rw [w64_id (by omega) (by omega)]; omega
    have hw3 : w64 (3 * (i : Int)) = 3 * (i : Int) := w64_id (by omega) (by omega)
    have hmx : mx2 false (m.length : Int) (3 * (i : Int)) = ((min m.length (3 * i) : Nat) : Int) := by rw [mx2_min]; omega
    obtain ⟨c, c1, c2, c3⟩ := curve_ev (m.drop (min m.length (3 * i)))
    have ih := wait_curves hv h2 h8 hE m x y d (i + 1) (C ++ [c]) (by omega) (by simp [hC]) (fun c' hc' => by
      rcases List.mem_append.1 hc' with h | h
      · exact hg c' h
      · rw [List.mem_singleton.1 h]; exact ⟨c2, c3⟩)
    obtain ⟨K, hK⟩ := c1
    refine Ev2.stepE K (fun k n hk => ?_) ih
    have hk' := hK k hk; simp only at hk'
    rw [f4_l0, f4_l0_B, if_pos (by omega), hw3, hmx, if_pos (by omega), if_pos (by omega), Int.toNat_natCast, hk', Option.bind_some, if_pos (by omega), hw]
theorem wait_law (a m : List Int) (x y : Int) : Ev (fun k => f4 k a m x y) (true, ()) := by
  obtain ⟨N, E, B, n1, n2, n3, e1, e2, b1, b2, hnet⟩ := net_ev a
  have hv := made_valid n1 n3 e1 e2 (B := []) ⟨List.nodup_nil, fun b hb => by cases hb⟩ (by simp)
  have hp : Ev (fun k => f23 k a) ((N, (E, ([] : List Pt))), ()) := by
    simp only [f23, f23_entry_B]
    exact hnet.bind (Ev.pure _)
  simp only [f4, f4_entry_B]
  refine hp.bind ?_
  exact (wait_curves hv n2 n3 e2 m x y E.length 0 [] (by omega) rfl (fun c hc => by cases hc)).diag
/-- **Who starts later does not arrive earlier.** -/
theorem pure_TimedWaits : Pure_TimedWaits := by
  rintro ⟨a, m, x, y, u⟩ hwf
  exact (wait_law a m x y).get
end Go.Proofs.Ytoebjlimpnmaoaa.Rw
