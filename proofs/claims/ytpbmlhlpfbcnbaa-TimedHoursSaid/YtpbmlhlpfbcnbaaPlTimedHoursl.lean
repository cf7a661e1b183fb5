/- The reference's HoursOf. No condition. -/
import Derived.Test.YtpbmlhlpfbcnbaaPlTimedHoursk
namespace Go.Proofs.Ytpbmlhlpfbcnbaa.Rw
open Go.Rx
set_option linter.unusedVariables false
set_option linter.unusedSimpArgs false

theorem hof_pass {n : Nat} {N B : List Pt} {E : List Ed} {C : List (List St)} {s : Nat} {a : Int} (hN : NetC n E C) (hs : s < n) (h0 : 0 ≤ a) (h1 : a ≤ 1073741824) : ∀ (l pre : List Ed), pre ++ l = E → ∀ (L : List Int) (b : Bool), OkL n E C s a L → (b = false → ∀ i, i < pre.length → Shut E C L i) →
    ∃ (L' : List Int) (b' : Bool), OkL n E C s a L' ∧ (b' = false → ∀ i, i < E.length → Shut E C L' i) ∧ meas L' ≤ meas L ∧ (b' = true → b = true ∨ meas L' < meas L) ∧
      ∀ res, Ev2 (fun k n => f44_l0 k n L' N E B C b') res → Ev3 (fun k n m => f44_l2 k (fun y19 y4_0 y4_1 y4_2 x1 x10 => f44_l0 k n y19 y4_0 y4_1 y4_2 x1 x10) m L N E B C b (E.length : Int) (pre.length : Int)) res
  | [], pre, hpl, L, b, hL, hb => by
    have e : pre = E := by simpa using hpl
    subst e
    refine ⟨L, b, hL, hb, Nat.le_refl _, fun h => .inl h, fun res h => ?_⟩
    refine Ev3.step (fun k n m => ?_) h.three
    rw [f44_l2, f44_l2_B, if_neg (by simp), Bool.decide_eq_true]
  | e :: l, pre, hpl, L, b, hL, hb => by
    have i0 : (0 : Int) ≤ (pre.length : Int) := by omega
    have hi : pre.length < E.length := by rw [← hpl]; simp
    have i1 : (pre.length : Int) < (E.length : Int) := by omega
    have i2 : (pre.length : Int) < (C.length : Int) := by have := hN.len; omega
    have few := hN.few
    have hg : E.getD ((pre.length : Int)).toNat (0, (0, (0, 0))) = e := by rw [← hpl]; exact getD_mid
    have hg' : E.getD pre.length zE = e := by rw [← hpl]; simp
    have hw : w64 ((pre.length : Int) + 1) = (((pre ++ [e]).length : Nat) : Int) := by
      rw [w64_id (by omega) (by omega)]; simp
    have hpl' : (pre ++ [e]) ++ l = E := by simp [← hpl]
    obtain ⟨hfn, hfe⟩ := hN.fr hi
    obtain ⟨htn, hte⟩ := hN.to hi
    rw [hg'] at hfe hte
    have f0 : 0 ≤ e.1 := by omega
    have f1 : e.1 < (L.length : Int) := by have := hL.len; omega
    have t0 : 0 ≤ e.2.1 := by omega
    have t1 : e.2.1 < (L.length : Int) := by have := hL.len; omega
    have ef : L.getD e.1.toNat 0 = L.getD (frN E pre.length) 0 := by rw [hfe]; rfl
    have et : L.getD e.2.1.toNat 0 = L.getD (toN E pre.length) 0 := by rw [hte]; rfl
    have lst : ∀ {L' : List Int} {b' : Bool}, (b' = false → ∀ i, i < pre.length → Shut E C L' i) → (b' = false → Shut E C L' pre.length) → (b' = false → ∀ i, i < (pre ++ [e]).length → Shut E C L' i) := fun h h' hb i hi => by
      simp at hi
      by_cases c : i < pre.length
      · exact h hb i c
      · have : i = pre.length := by omega
        subst this; exact h' hb
    by_cases c1 : L.getD (frN E pre.length) 0 < 0 ∨ 1073741824 < L.getD (frN E pre.length) 0
    · obtain ⟨L', b', k1, k2, k3, k4, k5⟩ := hof_pass hN hs h0 h1 l (pre ++ [e]) hpl' L b hL (lst hb (fun _ h h' => by omega))
      refine ⟨L', b', k1, k2, k3, k4, fun res h => ?_⟩
      refine Ev3.step (fun k n m => ?_) (k5 res h)
      rw [f44_l2, f44_l2_B, if_pos i1, if_pos i0, if_pos i1, hg, if_pos f0, if_pos f1, ef]
      by_cases d1 : L.getD (frN E pre.length) 0 < 0
      · rw [if_pos d1]
        simp only [f44_r10, f44_r10_B, f44_b3, f44_b3_B, if_true, Bool.decide_eq_true, hw]
      · rw [if_neg d1, decide_eq_true (show 1073741824 < L.getD (frN E pre.length) 0 by omega)]
        simp only [f44_r10, f44_r10_B, f44_b3, f44_b3_B, if_true, Bool.decide_eq_true, hw]
    · have d1 : ¬ L.getD (frN E pre.length) 0 < 0 := by omega
      have d2 : ¬ 1073741824 < L.getD (frN E pre.length) 0 := by omega
      have hup := hN.up hi (L.getD (frN E pre.length) 0)
      have htr : Tr E C s a (toN E pre.length) (arrC C pre.length (L.getD (frN E pre.length) 0)) := .step (hL.true_ _ hfn (by omega)) (by omega) hi
      have hat := refAt_ev (t := L.getD (frN E pre.length) 0) (hN.curves _ hi)
      have hwa : w64 (L.getD (frN E pre.length) 0 + atC (C.getD pre.length []) (L.getD (frN E pre.length) 0)) = arrC C pre.length (L.getD (frN E pre.length) 0) := by
        unfold arrC at hup ⊢
        exact w64_id (by omega) (by omega)
      by_cases c2 : L.getD (toN E pre.length) 0 < 0 ∨ arrC C pre.length (L.getD (frN E pre.length) 0) < L.getD (toN E pre.length) 0
      · have hlen := hL.len
        obtain ⟨L', b', k1, k2, k3, k4, k5⟩ := hof_pass hN hs h0 h1 l (pre ++ [e]) hpl' (relL L (toN E pre.length) (arrC C pre.length (L.getD (frN E pre.length) 0))) true (hL.rel htn (by omega) htr) (fun h => by cases h)
        have hm := meas_rel (L := L) (v := toN E pre.length) (t := arrC C pre.length (L.getD (frN E pre.length) 0)) (by omega) (by omega) (by omega) c2
        refine ⟨L', b', k1, k2, by omega, fun _ => .inr (by omega), fun res h => ?_⟩
        have h5 := k5 res h
        unfold relL at h5
        rw [if_pos c2] at h5
        obtain ⟨K, hK⟩ := hat
        refine Ev3.stepE K (fun k n m hk => ?_) h5
        have hk' := hK k hk; simp only at hk'
        rw [f44_l2, f44_l2_B, if_pos i1, if_pos i0, if_pos i1, hg, if_pos f0, if_pos f1, ef, if_neg d1, decide_eq_false d2, f44_r10, f44_r10_B, if_neg (by simp), if_pos i0, if_pos i2, Int.toNat_natCast, hk', Option.bind_some, if_pos t0, if_pos t1, et, hwa]
        have fin : f44_r12 k (fun y19 y4_0 y4_1 y4_2 x1 x10 x27 x28 => f44_l2 k (fun y19 y4_0 y4_1 y4_2 x1 x10 => f44_l0 k n y19 y4_0 y4_1 y4_2 x1 x10) m y19 y4_0 y4_1 y4_2 x1 x10 x27 x28) (fun y19 y4_0 y4_1 y4_2 x1 x10 => f44_l0 k n y19 y4_0 y4_1 y4_2 x1 x10) e.1 e.2.1 e.2.2.1 e.2.2.2 L N E B C (decide (decide (b = true) = true)) (arrC C pre.length (L.getD (frN E pre.length) 0)) (E.length : Int) (pre.length : Int) true = f44_l2 k (fun y19 y4_0 y4_1 y4_2 x1 x10 => f44_l0 k n y19 y4_0 y4_1 y4_2 x1 x10) m (L.set (toN E pre.length) (arrC C pre.length (L.getD (frN E pre.length) 0))) N E B C true (E.length : Int) (((pre ++ [e]).length : Nat) : Int) := by
          rw [f44_r12, f44_r12_B, if_pos rfl, if_pos t0, if_pos t1, f44_c13, f44_c13_B, f44_b3, f44_b3_B, hw, hte, Int.toNat_natCast]; rfl
        by_cases c3 : L.getD (toN E pre.length) 0 < 0
        · rw [if_pos c3]; exact fin
        · rw [if_neg c3, if_pos t0, if_pos t1, decide_eq_true (show arrC C pre.length (L.getD (frN E pre.length) 0) < L.getD (toN E pre.length) 0 by omega)]; exact fin
      · obtain ⟨L', b', k1, k2, k3, k4, k5⟩ := hof_pass hN hs h0 h1 l (pre ++ [e]) hpl' L b hL (lst hb (fun _ _ _ => by omega))
        refine ⟨L', b', k1, k2, k3, k4, fun res h => ?_⟩
        have h5 := k5 res h
        obtain ⟨K, hK⟩ := hat
        refine Ev3.stepE K (fun k n m hk => ?_) h5
        have hk' := hK k hk; simp only at hk'
        have c3 : ¬ L.getD (toN E pre.length) 0 < 0 := by omega
        have c4 : ¬ arrC C pre.length (L.getD (frN E pre.length) 0) < L.getD (toN E pre.length) 0 := by omega
        rw [f44_l2, f44_l2_B, if_pos i1, if_pos i0, if_pos i1, hg, if_pos f0, if_pos f1, ef, if_neg d1, decide_eq_false d2, f44_r10, f44_r10_B, if_neg (by simp), if_pos i0, if_pos i2, Int.toNat_natCast, hk', Option.bind_some, if_pos t0, if_pos t1, et, hwa, if_neg c3, if_pos t0, if_pos t1, decide_eq_false c4, f44_r12, f44_r12_B, if_neg (by simp), f44_c13, f44_c13_B, f44_b3, f44_b3_B, hw]
        simp only [Bool.decide_eq_true]
theorem hof_rounds {n : Nat} {N B : List Pt} {E : List Ed} {C : List (List St)} {s : Nat} {a : Int} (hN : NetC n E C) (hs : s < n) (h0 : 0 ≤ a) (h1 : a ≤ 1073741824) : ∀ (d : Nat) (L : List Int), meas L < d → OkL n E C s a L →
    ∃ L', OkL n E C s a L' ∧ (∀ i, i < E.length → Shut E C L' i) ∧ Ev2 (fun k n => f44_l0 k n L N E B C true) (L', ())
  | 0, L, hd, hL => by omega
  | d + 1, L, hd, hL => by
    obtain ⟨L', b', k1, k2, k3, k4, k5⟩ := hof_pass (N := N) (B := B) hN hs h0 h1 E [] rfl L false hL (fun _ i hi => by simp at hi)
    have key : ∀ res, Ev2 (fun k n => f44_l0 k n L' N E B C b') res → Ev2 (fun k n => f44_l0 k n L N E B C true) res := fun res h =>
      Ev2.step (g := fun k n => f44_l2 k (fun y19 y4_0 y4_1 y4_2 x1 x10 => f44_l0 k n y19 y4_0 y4_1 y4_2 x1 x10) k L N E B C false (E.length : Int) 0) (fun k n => by rw [f44_l0, f44_l0_B, if_pos rfl]) (k5 res h).in_
    cases b' with
    | false =>
      refine ⟨L', k1, k2 rfl, key _ ?_⟩
      exact Ev2.step (g := fun _ _ => some (L', ())) (fun k n => by rw [f44_l0, f44_l0_B, if_neg (by simp)]) (Ev2.pure _)
    | true =>
      have hm : meas L' < meas L := (k4 rfl).resolve_left (by simp)
      obtain ⟨M, m1, m2, m3⟩ := hof_rounds hN hs h0 h1 d L' (by omega) k1
      exact ⟨M, m1, m2, key _ m3⟩
theorem hof_ev {N B : List Pt} {E : List Ed} {C : List (List St)} {s : Nat} {a : Int} (hN : NetC N.length E C) (hl : N.length ≤ 200) (hs : s < N.length) (h0 : 0 ≤ a) (h1 : a ≤ 1073741824) :
    ∃ L', OkL N.length E C s a L' ∧ (∀ i, i < E.length → Shut E C L' i) ∧ Ev (fun k => f44 k (N, (E, B)) C (s : Int) a) (L', ()) := by
  obtain ⟨L', k1, k2, k3⟩ := hof_rounds (N := N) (B := B) hN hs h0 h1 _ _ (Nat.lt_succ_self _) (OkL.first (E := E) (C := C) hs h0)
  refine ⟨L', k1, k2, ?_⟩
  simp only [f44, f44_entry_B]
  refine (repeat_ev (-1) N.length (by omega)).bind ?_
  refine Ev.of (fun k => ?_) k3.diag
  rw [if_pos (by omega), if_pos (by simp; omega), Int.toNat_natCast]
end Go.Proofs.Ytpbmlhlpfbcnbaa.Rw
