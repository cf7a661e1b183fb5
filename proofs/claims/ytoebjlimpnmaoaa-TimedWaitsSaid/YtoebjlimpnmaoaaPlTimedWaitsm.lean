/- Hours of the program: its rounds. No condition. -/
import Derived.Test.YtoebjlimpnmaoaaPlTimedWaitsl
namespace Go.Proofs.Ytoebjlimpnmaoaa.Rw
open Go.Rx
set_option linter.unusedVariables false
set_option linter.unusedSimpArgs false

theorem rlx_loop {n : Nat} {N B : List Pt} {E : List Ed} {C : List (List St)} {s : Nat} {a : Int} (hN : NetC n E C) (hs : s < n) (h0 : 0 ≤ a) (h1 : a ≤ 1073741824) {u : Nat} (hu : u < n) {D : List Bool} {ks : List Int} (hkl : ks.length ≤ 600) (hks : ∀ k ∈ ks, 0 ≤ k ∧ k < (E.length : Int) ∧ fromE E k = (u : Int)) :
    ∀ (l pre : List Int), pre ++ l = ks → ∀ L, OkL n E C s a L → Mid n E C u pre L D →
    ∃ L', OkL n E C s a L' ∧ Mid n E C u ks L' D ∧ ∀ res, Ev2 (fun k n => f25_l2 k n N E B L' D C) res →
      Ev3 (fun k n m => f25_l6 k (fun y4_0 y4_1 y4_2 y72 y76 x1 => f25_l2 k n y4_0 y4_1 y4_2 y72 y76 x1) m ks N E B L D C (ks.length : Int) (pre.length : Int) (u : Int)) res
  | [], pre, hpl, L, hL, hM => by
    have e : pre = ks := by simpa using hpl
    subst e
    exact ⟨L, hL, hM, fun res h => Ev3.step (fun k n m => by rw [f25_l6, f25_l6_B, if_neg (by simp)]) h.three⟩
  | q :: l, pre, hpl, L, hL, hM => by
    have i0 : (0 : Int) ≤ (pre.length : Int) := by omega
    have i1 : (pre.length : Int) < (ks.length : Int) := by rw [← hpl]; simp; omega
    have hg : ks.getD ((pre.length : Int)).toNat 0 = q := by rw [← hpl]; exact getD_mid
    have hw : w64 ((pre.length : Int) + 1) = (((pre ++ [q]).length : Nat) : Int) := by
      rw [w64_id (by omega) (by omega)]; simp
    have hpl' : (pre ++ [q]) ++ l = ks := by simp [← hpl]
    obtain ⟨q0, q1, q2⟩ := hks q (by rw [← hpl]; simp)
    obtain ⟨i, rfl⟩ : ∃ i : Nat, q = (i : Int) := ⟨q.toNat, by omega⟩
    have hi : i < E.length := by omega
    obtain ⟨hfn, hfe⟩ := hN.fr hi
    obtain ⟨htn, hte⟩ := hN.to hi
    have hf : frN E i = u := by unfold fromE at q2; rw [Int.toNat_natCast] at q2; unfold frN; omega
    have hl := hL.len
    have hcl := hN.len
    have q1' : (i : Int) < (C.length : Int) := by omega
    have u0 : (0 : Int) ≤ (u : Int) := by omega
    have u1 : (u : Int) < (L.length : Int) := by omega
    have hLu := (hM.top u hu hM.at_).1
    have hup := hN.up hi (L.getD u 0)
    have hex : (E.getD i (0, (0, (0, 0)))).2.1 = (toN E i : Int) := hte
    have t0 : (0 : Int) ≤ (toN E i : Int) := by omega
    have t1 : (toN E i : Int) < (L.length : Int) := by omega
    have har := arrive_ev (t := L.getD u 0) (hN.curves i hi) hLu
    by_cases c1 : L.getD u 0 ≤ 1073741824
    · rw [if_pos c1] at har
      have htr : Tr E C s a (toN E i) (arrC C i (L.getD u 0)) := by
        have := hL.true_ u hu hLu
        rw [← hf] at this ⊢
        exact .step this (by rw [hf]; exact c1) hi
      obtain ⟨L', k1, k2, k3⟩ := rlx_loop hN hs h0 h1 hu hkl hks l (pre ++ [(i : Int)]) hpl' _ (hL.rel htn (by omega) htr) (hM.rel hN hl hu hi hf)
      refine ⟨L', k1, k2, fun res h => ?_⟩
      have h5 := k3 res h
      obtain ⟨K, hK⟩ := har
      refine Ev3.stepE K (fun k n m hk => ?_) h5
      have hk' := hK k hk; simp only at hk'
      change f55 k (C.getD i []) (L.getD u 0) = some (arrC C i (L.getD u 0), 0, ()) at hk'
      rw [f25_l6, f25_l6_B, if_pos i1, if_pos i0, if_pos i1, hg, if_pos q0, if_pos q1', if_pos u0, if_pos u1]
      simp only [Int.toNat_natCast, hk', Option.bind_some, if_pos q0, if_pos q1, if_true, hex, if_pos t0, if_pos t1]
      unfold relL
      by_cases c2 : L.getD (toN E i) 0 < 0
      · rw [if_pos c2, if_pos (.inl c2), f25_r35, f25_r35_B, if_pos rfl, if_pos t0, if_pos t1, f25_c36, f25_c36_B, hw, Int.toNat_natCast]
      · rw [if_neg c2]
        by_cases c3 : arrC C i (L.getD u 0) < L.getD (toN E i) 0
        · rw [decide_eq_true c3, if_pos (.inr c3), f25_r35, f25_r35_B, if_pos rfl, if_pos t0, if_pos t1, f25_c36, f25_c36_B, hw, Int.toNat_natCast]
        · rw [decide_eq_false c3, if_neg (by omega), f25_r35, f25_r35_B, if_neg (by simp), f25_c36, f25_c36_B, hw]
    · rw [if_neg c1] at har
      obtain ⟨L', k1, k2, k3⟩ := rlx_loop hN hs h0 h1 hu hkl hks l (pre ++ [(i : Int)]) hpl' L hL (hM.skip hi hf (by omega))
      refine ⟨L', k1, k2, fun res h => ?_⟩
      have h5 := k3 res h
      obtain ⟨K, hK⟩ := har
      refine Ev3.stepE K (fun k n m hk => ?_) h5
      have hk' := hK k hk; simp only at hk'
      have z1 : ¬ (1 : Int) = 0 := by decide
      rw [f25_l6, f25_l6_B, if_pos i1, if_pos i0, if_pos i1, hg, if_pos q0, if_pos q1', if_pos u0, if_pos u1]
      simp only [Int.toNat_natCast, hk', Option.bind_some, if_pos q0, if_pos q1, if_neg z1, f25_r35, f25_r35_B, Bool.false_eq_true, if_false, f25_c36, f25_c36_B, hw]
theorem cnt_set : ∀ (D : List Bool) (u : Nat), u < D.length → D.getD u false = false → (D.set u true).count false < D.count false
  | [], u, hu, h => by simp at hu
  | x :: D, 0, hu, h => by
    have : x = false := by simpa using h
    subst this; simp
  | x :: D, u + 1, hu, h => by
    have := cnt_set D u (by simpa using hu) (by simpa using h)
    simp only [List.set_cons_succ, List.count_cons]
    omega
theorem hours_rounds {n : Nat} {N B : List Pt} {E : List Ed} {C : List (List St)} {s : Nat} {a : Int} (hn : n ≤ 200) (hN : NetC n E C) (hs : s < n) (h0 : 0 ≤ a) (h1 : a ≤ 1073741824) : ∀ (d : Nat) (L : List Int) (D : List Bool), D.count false < d → OkL n E C s a L → Front n E C L D →
    ∃ L', OkL n E C s a L' ∧ (∀ i, i < E.length → Shut E C L' i) ∧ Ev2 (fun k n => f25_l2 k n N E B L D C) (L', 0, ())
  | 0, L, D, hd, hL, hF => by omega
  | d + 1, L, D, hd, hL, hF => by
    have hl := hL.len
    have hdl := hF.len
    obtain ⟨v, hp, hpick⟩ := pick_loop (N := N) (B := B) (E := E) (C := C) (L := L) (D := D) (by omega) (by omega) L.length 0 (-1) (by omega) (.inl ⟨rfl, fun i hi => by omega⟩)
    have hend : ¬ (L.length : Int) < (L.length : Int) := by omega
    rcases hp with ⟨rfl, hno⟩ | ⟨u, rfl, hu, hwu, hmin⟩
    · refine ⟨L, hL, fun i hi => ?_, ?_⟩
      · intro g0 g1
        have hfn := (hN.fr hi).1
        refine hF.shut i hi ?_ g0 g1
        cases hD : D.getD (frN E i) false with
        | true => rfl
        | false => exact absurd ⟨g0, hD⟩ (hno _ (by omega))
      · refine Ev2.step (g := fun k n => f25_l4 k (fun y4_0 y4_1 y4_2 y72 y76 x1 => f25_l2 k n y4_0 y4_1 y4_2 y72 y76 x1) k N E B L D C (-1) (L.length : Int) 0) (fun k n => by rw [f25_l2, f25_l2_B]) ?_
        refine (hpick _ ?_).in_
        exact Ev3.step (g := fun _ _ _ => some (L, 0, ())) (fun k n m => by rw [f25_l4, f25_l4_B, if_neg hend, if_pos (by omega)]) (Ev2.three (Ev2.pure _))
    · have hun : u < n := by omega
      have hM := hF.mid hun hwu (fun i hi => hmin i (by omega))
      obtain ⟨ks, o1, o2, o3⟩ := out_ev N E B (u : Int) hN.few
      obtain ⟨L', k1, k2, k3⟩ := rlx_loop (N := N) (B := B) hN hs h0 h1 hun (by have := hN.few; omega) (fun k hk => (o2 k).1 hk) ks [] rfl L hL hM
      have hF' := k2.front (fun i hi hfr => (o2 _).2 ⟨by omega, by omega, by
        unfold fromE; rw [Int.toNat_natCast]; have := (hN.fr hi).2; rw [hfr] at this; exact this⟩)
      have hc := cnt_set D u (by omega) hwu.2
      obtain ⟨M, m1, m2, m3⟩ := hours_rounds hn hN hs h0 h1 d L' (D.set u true) (by omega) k1 hF'
      refine ⟨M, m1, m2, ?_⟩
      refine Ev2.step (g := fun k n => f25_l4 k (fun y4_0 y4_1 y4_2 y72 y76 x1 => f25_l2 k n y4_0 y4_1 y4_2 y72 y76 x1) k N E B L D C (-1) (L.length : Int) 0) (fun k n => by rw [f25_l2, f25_l2_B]) ?_
      refine (hpick _ ?_).in_
      obtain ⟨K, hK⟩ := o3
      refine Ev3.stepE K (fun k n m hk => ?_) (Ev2.three (k3 _ m3).in_)
      have hk' := hK k hk; simp only at hk'
      rw [f25_l4, f25_l4_B, if_neg hend, if_neg (by omega), if_pos (by omega), if_pos (by omega), hk', Option.bind_some, Int.toNat_natCast]
      rfl
theorem hours_ev {N B : List Pt} {E : List Ed} {C : List (List St)} {s : Nat} {a : Int} (hN : NetC N.length E C) (hl : N.length ≤ 200) (hs : s < N.length) (h0 : 0 ≤ a) (h1 : a ≤ 1073741824) :
    ∃ L', OkL N.length E C s a L' ∧ (∀ i, i < E.length → Shut E C L' i) ∧ Ev (fun k => f25_r15 k N E B C (s : Int) a false) (L', 0, ()) := by
  have hz : ∀ u, (List.replicate N.length false).getD u false = false := fun u => by
    simp only [List.getD_eq_getElem?_getD, List.getElem?_replicate]
    split <;> rfl
  obtain ⟨L', k1, k2, k3⟩ := hours_rounds (N := N) (B := B) hl hN hs h0 h1 _ _ (List.replicate N.length false) (Nat.lt_succ_self _) (OkL.first (E := E) (C := C) hs h0) ⟨by simp, fun u v hu hv hD => (by rw [hz] at hD; cases hD), fun u hu hD => (by rw [hz] at hD; cases hD), fun i hi hD => (by rw [hz] at hD; cases hD)⟩
  refine ⟨L', k1, k2, ?_⟩
  simp only [f25_r15, f25_r15_B, Bool.false_eq_true, if_false]
  refine (repeat_ev (-1) N.length (by omega)).bind ?_
  refine Ev.of (fun k => ?_) k3.diag
  rw [if_pos (by omega), if_pos (by omega), if_pos (by omega), if_pos (by simp; omega), Int.toNat_natCast, Int.toNat_natCast]
end Go.Proofs.Ytoebjlimpnmaoaa.Rw
