/- Hours of the program in a valid network. No condition. -/
import Derived.Test.YtoebjlimpnmaoaaPlTimedWaitsm
namespace Go.Proofs.Ytoebjlimpnmaoaa.Rw
open Go.Rx
set_option linter.unusedVariables false
set_option linter.unusedSimpArgs false

theorem edF_good {n : Nat} : ∀ {E : List Ed}, edF n E = 0 → ∀ i, i < E.length → inR (E.getD i zE).1 n ∧ inR (E.getD i zE).2.1 n
  | [], h, i, hi => by simp at hi
  | e :: l, h, i, hi => by
    simp only [edF] at h
    by_cases c : badE n e
    · rw [if_pos c] at h; cases h
    · rw [if_neg c] at h
      by_cases c2 : e.1 = e.2.1
      · rw [if_pos c2] at h; cases h
      · rw [if_neg c2] at h
        cases i with
        | zero =>
          have c' : ¬ badE n e := c
          unfold badE at c'
          simp only [List.getD_cons_zero]
          exact ⟨Classical.not_not.1 (fun z => c' (.inl z)), Classical.not_not.1 (fun z => c' (.inr (.inl z)))⟩
        | succ i => simpa using edF_good h i (by simpa using hi)
theorem netF_parts {n : Nt} (h : netF n = 0) : n.1.length ≤ 200 ∧ n.2.1.length ≤ 600 ∧ n.2.2.length ≤ 600 ∧ edF n.1.length n.2.1 = 0 := by
  unfold netF at h
  split at h
  · cases h
  · split at h
    · split at h
      · rename_i h2; exact ⟨by omega, by omega, by omega, h2⟩
      · rename_i h2; exact absurd h h2
    · rename_i h1; exact absurd h h1
def cvF : List (List St) → Int
  | [] => 0
  | c :: l => if crvF c = 0 then cvF l else crvF c
theorem cvF_good : ∀ {C : List (List St)}, cvF C = 0 → ∀ i, i < C.length → ValidC (C.getD i [])
  | [], h, i, hi => by simp at hi
  | c :: l, h, i, hi => by
    simp only [cvF] at h
    by_cases g : crvF c = 0
    · rw [if_pos g] at h
      cases i with
      | zero => simpa using (crvF_zero c).1 g
      | succ i => simpa using cvF_good h i (by simpa using hi)
    · rw [if_neg g] at h; exact absurd h g
theorem hcv_loop (N B : List Pt) (E : List Ed) (C : List (List St)) (s a : Int) (hC : C.length ≤ 600) {res : List Int × Int × Unit} : ∀ (l pre : List (List St)), pre ++ l = C → (cvF l = 0 → Ev2 (fun k n => f25_l0 k n N E B C s a (C.length : Int) (C.length : Int)) res) →
    Ev2 (fun k n => f25_l0 k n N E B C s a (C.length : Int) (pre.length : Int)) (if cvF l = 0 then res else ([], cvF l, ()))
  | [], pre, hpl, hR => by
    have e : pre = C := by simpa using hpl
    subst e
    exact hR rfl
  | c :: l, pre, hpl, hR => by
    have i0 : (0 : Int) ≤ (pre.length : Int) := by omega
    have i1 : (pre.length : Int) < (C.length : Int) := by rw [← hpl]; simp; omega
    have hg : C.getD ((pre.length : Int)).toNat [] = c := by rw [← hpl]; exact getD_mid
    have hw : w64 ((pre.length : Int) + 1) = (((pre ++ [c]).length : Nat) : Int) := by
      rw [w64_id (by omega) (by omega)]; simp
    obtain ⟨K, hK⟩ := crv_ev c
    simp only [cvF] at hR ⊢
    by_cases g : crvF c = 0
    · simp only [if_pos g] at hR ⊢
      have ih := hcv_loop N B E C s a hC (res := res) l (pre ++ [c]) (by simp [← hpl]) hR
      refine Ev2.stepE K (fun k n hk => ?_) ih
      have hk' := hK k hk; simp only at hk'
      rw [f25_l0, f25_l0_B, if_pos i1, if_pos i0, if_pos i1, hg, hk', Option.bind_some, if_neg (by simp [g]), hw]
    · simp only [if_neg g]
      refine Ev2.stepE (g := fun _ _ => some ([], crvF c, ())) K (fun k n hk => ?_) (Ev2.pure _)
      have hk' := hK k hk; simp only at hk'
      rw [f25_l0, f25_l0_B, if_pos i1, if_pos i0, if_pos i1, hg, hk', Option.bind_some, if_pos g]
/-- Hours in a valid network without bans. -/
theorem hoursOK_ev {N : List Pt} {E : List Ed} {C : List (List St)} {s : Nat} {a : Int} (hv : netF (N, (E, ([] : List Pt))) = 0) (hC : C.length = E.length) (hcv : cvF C = 0) (hs : s < N.length) (h0 : 0 ≤ a) (h1 : a ≤ 1073741824) :
    NetC N.length E C ∧ ∃ L, OkL N.length E C s a L ∧ (∀ i, i < E.length → Shut E C L i) ∧ Ev (fun k => f25 k (N, (E, ([] : List Pt))) C (s : Int) a) (L, 0, ()) := by
  obtain ⟨n1, n2, n3, n4⟩ := netF_parts hv
  have n1 : N.length ≤ 200 := n1
  have n2 : E.length ≤ 600 := n2
  have hN : NetC N.length E C := ⟨edF_good n4, fun i hi => cvF_good hcv i (by omega), hC, n2⟩
  obtain ⟨L, l1, l2, l3⟩ := hours_ev (B := ([] : List Pt)) hN n1 hs h0 h1
  refine ⟨hN, L, l1, l2, ?_⟩
  simp only [f25, f25_entry_B]
  refine (chk_ev (N, (E, ([] : List Pt)))).bind ?_
  simp only [hv, not_true_eq_false, if_false]
  have hend : Ev2 (fun k n => f25_l0 k n N E ([] : List Pt) C (s : Int) a (C.length : Int) (C.length : Int)) (L, 0, ()) := by
    refine Ev2.step (g := fun k _ => f25_r15 k N E ([] : List Pt) C (s : Int) a false) (fun k n => ?_) l3.two
    rw [f25_l0, f25_l0_B, if_neg (by omega), if_neg (by omega), if_neg (by omega), if_neg (by omega), decide_eq_false (by omega)]
  have := (hcv_loop N ([] : List Pt) E C (s : Int) a (by omega) C [] rfl (fun _ => hend)).diag
  rw [if_pos hcv] at this
  refine Ev.of (fun k => ?_) this
  rw [if_neg (by simp), if_neg (by simp only [Classical.not_not]; omega)]
  rfl
end Go.Proofs.Ytoebjlimpnmaoaa.Rw
