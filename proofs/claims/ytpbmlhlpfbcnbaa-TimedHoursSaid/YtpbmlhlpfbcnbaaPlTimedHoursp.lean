/- Hours returns what the reference says. No condition. -/
import Derived.Test.YtpbmlhlpfbcnbaaPlTimedHourso
namespace Go.Proofs.Ytpbmlhlpfbcnbaa.Rw
open Go.Rx
set_option linter.unusedVariables false
set_option linter.unusedSimpArgs false

theorem edF_good {n : Nat} : ∀ {E : List Ed}, edF n E = 0 → ∀ i, i < E.length → inR (E.getD i zE).1 n ∧ inR (E.getD i zE).2.1 n
  | [], h, i, hi => by simp at hi
  | e :: l, h, i, hi => by
    simp only [edF] at h
    by_cases c : badE n e
    · rw [if_pos c] at h; cases h
    · rw [if_neg c] at h
      by_cases c2 : e.1 = e.2.1
      · rw [if_pos c2] at h; cases h
      · rw [if_neg c2] at h
        cases i with
        | zero =>
          have c' : ¬ badE n e := c
          unfold badE at c'
          simp only [List.getD_cons_zero]
          exact ⟨Classical.not_not.1 (fun z => c' (.inl z)), Classical.not_not.1 (fun z => c' (.inr (.inl z)))⟩
        | succ i => simpa using edF_good h i (by simpa using hi)
theorem netF_parts {n : Nt} (h : netF n = 0) : n.1.length ≤ 200 ∧ n.2.1.length ≤ 600 ∧ n.2.2.length ≤ 600 ∧ edF n.1.length n.2.1 = 0 := by
  unfold netF at h
  split at h
  · cases h
  · split at h
    · split at h
      · rename_i h2; exact ⟨by omega, by omega, by omega, h2⟩
      · rename_i h2; exact absurd h h2
    · rename_i h1; exact absurd h h1
def cvF : List (List St) → Int
  | [] => 0
  | c :: l => if crvF c = 0 then cvF l else crvF c
theorem cvF_good : ∀ {C : List (List St)}, cvF C = 0 → ∀ i, i < C.length → ValidC (C.getD i [])
  | [], h, i, hi => by simp at hi
  | c :: l, h, i, hi => by
    simp only [cvF] at h
    by_cases g : crvF c = 0
    · rw [if_pos g] at h
      cases i with
      | zero => simpa using (crvF_zero c).1 g
      | succ i => simpa using cvF_good h i (by simpa using hi)
    · rw [if_neg g] at h; exact absurd h g
theorem hcv_loop (N B : List Pt) (E : List Ed) (C : List (List St)) (s a : Int) (hC : C.length ≤ 600) {res : List Int × Int × Unit} : ∀ (l pre : List (List St)), pre ++ l = C → (cvF l = 0 → Ev2 (fun k n => f41_l0 k n N E B C s a (C.length : Int) (C.length : Int)) res) →
    Ev2 (fun k n => f41_l0 k n N E B C s a (C.length : Int) (pre.length : Int)) (if cvF l = 0 then res else ([], cvF l, ()))
  | [], pre, hpl, hR => by
    have e : pre = C := by simpa using hpl
    subst e
    exact hR rfl
  | c :: l, pre, hpl, hR => by
    have i0 : (0 : Int) ≤ (pre.length : Int) := by omega
    have i1 : (pre.length : Int) < (C.length : Int) := by rw [← hpl]; simp; omega
    have hg : C.getD ((pre.length : Int)).toNat [] = c := by rw [← hpl]; exact getD_mid
    have hw : w64 ((pre.length : Int) + 1) = (((pre ++ [c]).length : Nat) : Int) := by
      rw [w64_id (by omega) (by omega)]; simp
    obtain ⟨K, hK⟩ := crv_ev c
    simp only [cvF] at hR ⊢
    by_cases g : crvF c = 0
    · simp only [if_pos g] at hR ⊢
      have ih := hcv_loop N B E C s a hC (res := res) l (pre ++ [c]) (by simp [← hpl]) hR
      refine Ev2.stepE K (fun k n hk => ?_) ih
      have hk' := hK k hk; simp only at hk'
      rw [f41_l0, f41_l0_B, if_pos i1, if_pos i0, if_pos i1, hg, hk', Option.bind_some, if_neg (by simp [g]), hw]
    · simp only [if_neg g]
      refine Ev2.stepE (g := fun _ _ => some ([], crvF c, ())) K (fun k n hk => ?_) (Ev2.pure _)
      have hk' := hK k hk; simp only at hk'
      rw [f41_l0, f41_l0_B, if_pos i1, if_pos i0, if_pos i1, hg, hk', Option.bind_some, if_pos g]
theorem lcv_loop (y20 : List Int) (N B : List Pt) (E : List Ed) (C : List (List St)) (x10 : Int) (s a : Int) (hC : C.length ≤ 9000000000000000000) {res : Bool × Unit} : ∀ (l pre : List (List St)) (x11 : Int), pre ++ l = C →
    Ev2 (fun k n => f8_l0 k n y20 N E B C x10 (if x11 = 0 then cvF l else x11) s a (C.length : Int) (C.length : Int)) res →
    Ev2 (fun k n => f8_l0 k n y20 N E B C x10 x11 s a (C.length : Int) (pre.length : Int)) res
  | [], pre, x11, hpl, hR => by
    have e : pre = C := by simpa using hpl
    subst e
    have e2 : (if x11 = 0 then cvF [] else x11) = x11 := by
      split
      · rename_i h; rw [h]; rfl
      · rfl
    rw [e2] at hR
    exact hR
  | c :: l, pre, x11, hpl, hR => by
    have i0 : (0 : Int) ≤ (pre.length : Int) := by omega
    have i1 : (pre.length : Int) < (C.length : Int) := by rw [← hpl]; simp; omega
    have hg : C.getD ((pre.length : Int)).toNat [] = c := by rw [← hpl]; exact getD_mid
    have hw : w64 ((pre.length : Int) + 1) = (((pre ++ [c]).length : Nat) : Int) := by
      rw [w64_id (by omega) (by omega)]; simp
    obtain ⟨K, hK⟩ := cflt_ev c
    by_cases g : x11 = 0
    · subst g
      have ih := lcv_loop y20 N B E C x10 s a hC (res := res) l (pre ++ [c]) (crvF c) (by simp [← hpl]) (by simpa [cvF] using hR)
      refine Ev2.stepE K (fun k n hk => ?_) ih
      have hk' := hK k hk; simp only at hk'
      rw [f8_l0, f8_l0_B, if_pos i1, if_pos i0, if_pos i1, if_pos rfl, hg, hk', Option.bind_some, f8_c11, f8_c11_B, hw]
    · have ih := lcv_loop y20 N B E C x10 s a hC (res := res) l (pre ++ [c]) x11 (by simp [← hpl]) (by rw [if_neg g] at hR ⊢; exact hR)
      refine Ev2.step (fun k n => ?_) ih
      rw [f8_l0, f8_l0_B, if_pos i1, if_pos i0, if_pos i1, if_neg g, f8_c11, f8_c11_B, hw]
def argBad (N : List Pt) (s a : Int) : Prop := s < 0 ∨ (N.length : Int) ≤ s ∨ a < 0 ∨ 1073741824 < a
instance (N : List Pt) (s a : Int) : Decidable (argBad N s a) := by unfold argBad; infer_instance
def hourF (N : List Pt) (E : List Ed) (B : List Pt) (C : List (List St)) (s a : Int) : Int :=
  if netF (N, (E, B)) = 0 then (if 0 < (B.length : Int) then 19 else if (C.length : Int) = (E.length : Int) then (if cvF C = 0 then (if argBad N s a then 1 else 0) else cvF C) else 3) else netF (N, (E, B))
theorem law_end (k : Nat) (x : List Int) (e : Int) (j : Nat) (hk : k = j + 30) (h : f20 k x x = some (true, ())) : f8_c17 k x x e e = some (true, ()) := by
  subst hk
  rw [f8_c17, f8_c17_B, f19_true, Option.bind_some, if_pos rfl, if_pos rfl, h, Option.bind_some, f8_r18, f8_r18_B]; rfl
theorem law_fin (x : List Int) (e : Int) (hx : x.length ≤ 1073741824) : Ev (fun k => f8_c17 k x x e e) (true, ()) := by
  obtain ⟨K, hK⟩ := equal_ev x hx
  exact ⟨max K 30, fun k hk => law_end k x e (k - 30) (by omega) (hK k (by omega))⟩
theorem hour_law (N : List Pt) (E : List Ed) (B : List Pt) (C : List (List St)) (s a : Int) (hCl : C.length ≤ 9000000000000000000) : Ev (fun k => f8 k (N, (E, B)) C s a) (true, ()) := by
  have fin0 : ∀ e : Int, e ≠ 0 → Ev (fun k => f8_c14 k [] N E B C e e s a) (true, ()) := fun e he => by
    refine Ev.of (fun k => ?_) (law_fin [] e (by simp))
    rw [f8_c14, f8_c14_B, if_neg he]
  -- the faults of the law, from the fault behind the curves on
  have tailE : ∀ e : Int, e ≠ 0 → Ev2 (fun k n => f8_l0 k n [] N E B C e e s a (C.length : Int) (C.length : Int)) (true, ()) := fun e he => by
    refine Ev2.step (g := fun k _ => f8_c14 k [] N E B C e e s a) (fun k n => ?_) (fin0 e he).two
    rw [f8_l0, f8_l0_B, if_neg (by omega), if_neg he, f8_r13, f8_r13_B, if_neg (by simp)]
  have headE : ∀ e : Int, e ≠ 0 → Ev (fun k => f8_c6 k [] N E B C e e s a) (true, ()) := fun e he => by
    refine Ev.of (fun k => by rw [f8_c6, f8_c6_B]; rfl) (lcv_loop [] N B E C e s a hCl C [] e rfl ?_).diag
    rw [if_neg he]; exact tailE e he
  simp only [f8, f8_entry_B, f41, f41_entry_B]
  by_cases c0 : netF (N, (E, B)) = 0
  · obtain ⟨n1, n2, n3, n4⟩ := netF_parts c0
    have n1 : N.length ≤ 200 := n1
    have n2 : E.length ≤ 600 := n2
    by_cases c1 : 0 < (B.length : Int)
    · have hh : Ev (fun k => (f73 k (N, (E, B))).bind fun r1 => if ¬ (r1.1 = 0) then some (([] : List Int), r1.1, ()) else if 0 < (B.length : Int) then some ([], 19, ()) else if ¬ ((C.length : Int) = (E.length : Int)) then some ([], 3, ()) else f41_l0 k k N E B C s a (C.length : Int) 0) ([], 19, ()) := by
        refine (chk_ev (N, (E, B))).bind ?_
        simp only [c0, not_true_eq_false, if_false, if_pos c1]
        exact Ev.pure _
      refine hh.bind ((flt_ev (N, (E, B))).bind ?_)
      simp only [c0, if_true, decide_eq_true c1]
      refine Ev.of (fun k => ?_) (headE 19 (by decide))
      rw [f8_r3, f8_r3_B, if_pos rfl, f8_c4, f8_c4_B, if_neg (by decide), f8_r5, f8_r5_B, if_neg (by simp)]
    · by_cases c2 : (C.length : Int) = (E.length : Int)
      · have hCE : C.length = E.length := by omega
        have pre2 : ∀ k (y : List Int) (e : Int), f8_r3 k y N E B C e 0 s a (decide (0 < (B.length : Int))) = f8_l0 k k y N E B C e 0 s a (C.length : Int) 0 := fun k y e => by
          rw [f8_r3, f8_r3_B, decide_eq_false c1, if_neg (by simp), f8_c4, f8_c4_B, if_pos rfl, decide_eq_false (by simpa using c2), f8_r5, f8_r5_B, if_neg (by simp), f8_c6, f8_c6_B]
        by_cases c3 : cvF C = 0
        · have hN : NetC N.length E C := ⟨edF_good n4, fun i hi => cvF_good c3 i (by omega), hCE, n2⟩
          by_cases c4 : argBad N s a
          · have hh : Ev (fun k => (f73 k (N, (E, B))).bind fun r1 => if ¬ (r1.1 = 0) then some (([] : List Int), r1.1, ()) else if 0 < (B.length : Int) then some ([], 19, ()) else if ¬ ((C.length : Int) = (E.length : Int)) then some ([], 3, ()) else f41_l0 k k N E B C s a (C.length : Int) 0) ([], 1, ()) := by
              refine (chk_ev (N, (E, B))).bind ?_
              simp only [c0, not_true_eq_false, if_false, if_neg c1, if_pos c2, c2]
              have hend : Ev2 (fun k n => f41_l0 k n N E B C s a (C.length : Int) (C.length : Int)) ([], 1, ()) := by
                refine Ev2.step (g := fun _ _ => some ([], 1, ())) (fun k n => ?_) (Ev2.pure _)
                rw [f41_l0, f41_l0_B, if_neg (by omega)]
                unfold argBad at c4
                by_cases d1 : s < 0
                · rw [if_pos d1]; rfl
                · rw [if_neg d1]
                  by_cases d2 : (N.length : Int) ≤ s
                  · rw [if_pos d2]; rfl
                  · rw [if_neg d2]
                    by_cases d3 : a < 0
                    · rw [if_pos d3]; rfl
                    · rw [if_neg d3, decide_eq_true (by omega)]; rfl
              have := (hcv_loop N B E C s a (by omega) C [] rfl (fun _ => hend)).diag
              rw [if_pos c3] at this
              simpa [c2] using this
            refine hh.bind ((flt_ev (N, (E, B))).bind ?_)
            simp only [c0, if_true]
            refine Ev.of (fun k => by rw [pre2]; rfl) (lcv_loop [] N B E C 1 s a hCl C [] 0 rfl ?_).diag
            rw [if_pos rfl, c3]
            refine Ev2.step (g := fun k _ => f8_c14 k [] N E B C 1 1 s a) (fun k n => ?_) (fin0 1 (by decide)).two
            rw [f8_l0, f8_l0_B, if_neg (by omega), if_pos rfl]
            unfold argBad at c4
            by_cases d1 : s < 0
            · rw [if_pos d1, f8_r13, f8_r13_B, if_pos rfl]
            · rw [if_neg d1]
              by_cases d2 : (N.length : Int) ≤ s
              · rw [if_pos d2, f8_r13, f8_r13_B, if_pos rfl]
              · rw [if_neg d2]
                by_cases d3 : a < 0
                · rw [if_pos d3, f8_r13, f8_r13_B, if_pos rfl]
                · rw [if_neg d3, decide_eq_true (by omega), f8_r13, f8_r13_B, if_pos rfl]
          · have c4' := c4
            unfold argBad at c4'
            have d1 : ¬ s < 0 := by omega
            have d2 : ¬ (N.length : Int) ≤ s := by omega
            have d3 : ¬ a < 0 := by omega
            have d4 : ¬ 1073741824 < a := by omega
            obtain ⟨q, rfl⟩ : ∃ q : Nat, s = (q : Int) := ⟨s.toNat, by omega⟩
            obtain ⟨L, l1, l2, l3⟩ := hours_ev (B := B) hN n1 (s := q) (by omega) (by omega) (show a ≤ 1073741824 by omega)
            obtain ⟨M, m1, m2, m3⟩ := hof_ev (B := B) hN n1 (s := q) (by omega) (by omega) (show a ≤ 1073741824 by omega)
            have hLM : L = M := shut_one hN l1 l2 m1 m2
            subst hLM
            have hh : Ev (fun k => (f73 k (N, (E, B))).bind fun r1 => if ¬ (r1.1 = 0) then some (([] : List Int), r1.1, ()) else if 0 < (B.length : Int) then some ([], 19, ()) else if ¬ ((C.length : Int) = (E.length : Int)) then some ([], 3, ()) else f41_l0 k k N E B C (q : Int) a (C.length : Int) 0) (L, 0, ()) := by
              refine (chk_ev (N, (E, B))).bind ?_
              simp only [c0, not_true_eq_false, if_false, if_neg c1, if_pos c2, c2]
              have hend : Ev2 (fun k n => f41_l0 k n N E B C (q : Int) a (C.length : Int) (C.length : Int)) (L, 0, ()) := by
                refine Ev2.step (g := fun k _ => f41_r15 k N E B C (q : Int) a false) (fun k n => ?_) l3.two
                rw [f41_l0, f41_l0_B, if_neg (by omega), if_neg d1, if_neg d2, if_neg d3, decide_eq_false d4]
              have := (hcv_loop N B E C (q : Int) a (by omega) C [] rfl (fun _ => hend)).diag
              rw [if_pos c3] at this
              simpa [c2] using this
            refine hh.bind ((flt_ev (N, (E, B))).bind ?_)
            simp only [c0, if_true]
            refine Ev.of (fun k => by rw [pre2]; rfl) (lcv_loop L N B E C 0 (q : Int) a hCl C [] 0 rfl ?_).diag
            rw [if_pos rfl, c3]
            refine Ev2.step (g := fun k _ => (f44 k (N, (E, B)) C (q : Int) a).bind fun r1 => f8_c17 k L r1.1 0 0) (fun k n => ?_) (Ev.two ((m3).bind (law_fin L 0 (by have := l1.len; omega))))
            rw [f8_l0, f8_l0_B, if_neg (by omega), if_pos rfl, if_neg d1, if_neg d2, if_neg d3, decide_eq_false d4, f8_r13, f8_r13_B, if_neg (by simp), f8_c14, f8_c14_B, if_pos rfl]
        · have hh : Ev (fun k => (f73 k (N, (E, B))).bind fun r1 => if ¬ (r1.1 = 0) then some (([] : List Int), r1.1, ()) else if 0 < (B.length : Int) then some ([], 19, ()) else if ¬ ((C.length : Int) = (E.length : Int)) then some ([], 3, ()) else f41_l0 k k N E B C s a (C.length : Int) 0) ([], cvF C, ()) := by
            refine (chk_ev (N, (E, B))).bind ?_
            simp only [c0, not_true_eq_false, if_false, if_neg c1, if_pos c2, c2]
            have := (hcv_loop N B E C s a (by omega) (res := ([], 0, ())) C [] rfl (fun z => absurd z c3)).diag
            rw [if_neg c3] at this
            simpa [c2] using this
          refine hh.bind ((flt_ev (N, (E, B))).bind ?_)
          simp only [c0, if_true]
          refine Ev.of (fun k => by rw [pre2]; rfl) (lcv_loop [] N B E C (cvF C) s a hCl C [] 0 rfl ?_).diag
          rw [if_pos rfl]
          exact tailE _ c3
      · have hh : Ev (fun k => (f73 k (N, (E, B))).bind fun r1 => if ¬ (r1.1 = 0) then some (([] : List Int), r1.1, ()) else if 0 < (B.length : Int) then some ([], 19, ()) else if ¬ ((C.length : Int) = (E.length : Int)) then some ([], 3, ()) else f41_l0 k k N E B C s a (C.length : Int) 0) ([], 3, ()) := by
          refine (chk_ev (N, (E, B))).bind ?_
          simp only [c0, not_true_eq_false, if_false, if_neg c1, if_pos c2, c2, not_false_eq_true, if_true]
          exact Ev.pure _
        refine hh.bind ((flt_ev (N, (E, B))).bind ?_)
        simp only [c0, if_true]
        refine Ev.of (fun k => ?_) (headE 3 (by decide))
        rw [f8_r3, f8_r3_B, decide_eq_false c1, if_neg (by simp), f8_c4, f8_c4_B, if_pos rfl, decide_eq_true c2, f8_r5, f8_r5_B, if_pos rfl]
  · have hh : Ev (fun k => (f73 k (N, (E, B))).bind fun r1 => if ¬ (r1.1 = 0) then some (([] : List Int), r1.1, ()) else if 0 < (B.length : Int) then some ([], 19, ()) else if ¬ ((C.length : Int) = (E.length : Int)) then some ([], 3, ()) else f41_l0 k k N E B C s a (C.length : Int) 0) ([], netF (N, (E, B)), ()) := by
      refine (chk_ev (N, (E, B))).bind ?_
      simp only [c0, not_false_eq_true, if_true]
      exact Ev.pure _
    refine hh.bind ((flt_ev (N, (E, B))).bind ?_)
    simp only [if_neg c0]
    refine Ev.of (fun k => ?_) (headE _ c0)
    rw [f8_r3, f8_r3_B, if_neg (by simp), f8_c4, f8_c4_B, if_neg c0, f8_r5, f8_r5_B, if_neg (by simp)]
/-- **Hours returns what the reference says.** -/
theorem pure_TimedHours : Pure_TimedHours := by
  rintro ⟨n, c, s, a, u⟩ hwf
  have hc : List.length (α := List St) c ≤ 9000000000000000000 := by
    have : List.length (α := List St) c * 24 ≤ 140737488351232 := hwf.2.1.1
    omega
  exact (hour_law n.1 n.2.1 n.2.2 c s a hc).get
end Go.Proofs.Ytpbmlhlpfbcnbaa.Rw
