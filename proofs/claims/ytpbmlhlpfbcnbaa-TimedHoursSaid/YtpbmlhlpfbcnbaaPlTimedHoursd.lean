/- Networks: the reference of Check. No condition. -/
import Derived.Test.YtpbmlhlpfbcnbaaPlTimedHoursc
namespace Go.Proofs.Ytpbmlhlpfbcnbaa.Rw
open Go.Rx
set_option linter.unusedVariables false
set_option linter.unusedSimpArgs false

theorem pointOK_eq (k : Nat) (p : Pt) : f30 k p = some (decide (okP p), ()) := by
  have key : ∀ x : Int, (x = cut x ↔ -1048576 ≤ x ∧ x ≤ 1048576) := fun x => by
    have := cut_range x
    exact ⟨fun h => by omega, fun h => (cut_in h.1 h.2).symm⟩
  simp only [f30, f30_entry_B, f30_r1, f30_r1_B]
  have e : decide (okP p) = decide ((-1048576 ≤ p.1 ∧ p.1 ≤ 1048576) ∧ (-1048576 ≤ p.2 ∧ p.2 ≤ 1048576)) := decide_eq_decide.2 (by unfold okP; rw [key, key])
  rw [e]
  by_cases h1 : -1048576 ≤ p.1 <;> by_cases h2 : p.1 ≤ 1048576 <;> by_cases h3 : -1048576 ≤ p.2 <;> simp [h1, h2, h3]
theorem inS_eq (k : Nat) (i : Int) (n : Nat) : f109 k i (n : Int) = some (decide (inR i n), ()) := by
  simp only [f109, f109_entry_B, f109_r1, f109_r1_B, inR]
  by_cases h : 0 ≤ i <;> simp [h]
theorem flt_bans (N : List Pt) (E : List Ed) (B : List Pt) (hB : B.length ≤ 600) : ∀ (l pre : List Pt), pre ++ l = B →
    Ev2 (fun k n => f42_l6 k n N E B pre (B.length : Int) (pre.length : Int)) (banF E pre l, ())
  | [], pre, hpl => by
    subst hpl
    exact Ev2.step (g := fun _ _ => some (0, ())) (fun k n => by rw [f42_l6, f42_l6_B, if_neg (by simp)]) (Ev2.pure _)
  | b :: l, pre, hpl => by
    have ih := flt_bans N E B hB l (pre ++ [b]) (by simp [← hpl])
    have h0 : (0 : Int) ≤ (pre.length : Int) := by omega
    have h1 : (pre.length : Int) < (B.length : Int) := by rw [← hpl]; simp; omega
    have hg : B.getD ((pre.length : Int)).toNat (0, 0) = b := by rw [← hpl]; exact getD_mid
    have hw : w64 ((pre.length : Int) + 1) = (((pre ++ [b]).length : Nat) : Int) := by
      rw [w64_id (by omega) (by omega)]; simp
    have hbb : (b.1, b.2) = b := rfl
    have opn : ∀ k n, f42_l6 k (n + 1) N E B pre (B.length : Int) (pre.length : Int) = if inR b.1 E.length ∧ inR b.2 E.length then (if toE E b.1 = fromE E b.2 then (if b ∈ pre then some (5, ()) else f42_l6 k n N E B (pre ++ [b]) (B.length : Int) (((pre ++ [b]).length : Nat) : Int)) else some (9, ())) else some (1, ()) := fun k n => by
      rw [f42_l6, f42_l6_B, if_pos h1, if_pos h0, if_pos h1, hg]
      simp only [inS_eq, Option.bind_some, f42_c30, f42_c30_B, hw, hbb]
      by_cases c1 : inR b.1 E.length
      · by_cases c2 : inR b.2 E.length
        · have d1 := c1; have d2 := c2
          unfold inR at d1 d2
          simp only [c1, c2, and_self, decide_true, if_true, not_true_eq_false, if_false, decide_false, Bool.false_eq_true, if_pos d1.1, if_pos d1.2, if_pos d2.1, if_pos d2.2]
          by_cases c3 : toE E b.1 = fromE E b.2
          · have c3' : (E.getD b.1.toNat (0, (0, (0, 0)))).2.1 = (E.getD b.2.toNat (0, (0, (0, 0)))).1 := c3
            rw [if_neg (not_not_intro c3'), if_pos c3]
          · have c3' : ¬ (E.getD b.1.toNat (0, (0, (0, 0)))).2.1 = (E.getD b.2.toNat (0, (0, (0, 0)))).1 := c3
            rw [if_pos c3', if_neg c3]
        · simp only [c1, c2, and_false, decide_false, not_true_eq_false, if_false, decide_true, Bool.false_eq_true, not_false_eq_true, if_true]
      · simp only [c1, decide_false, false_and, not_false_eq_true, if_true, if_false, Bool.false_eq_true, decide_true]
    refine Ev2.step opn ?_
    simp only [banF]
    split
    · split
      · split
        · exact Ev2.pure _
        · exact ih
      · exact Ev2.pure _
    · exact Ev2.pure _
theorem flt_edges (N : List Pt) (E : List Ed) (B : List Pt) (hE : E.length ≤ 600) {res : Int × Unit} (hB : Ev (fun k => f42_l6 k k N E B [] (B.length : Int) 0) res) : ∀ (l pre : List Ed), pre ++ l = E →
    Ev2 (fun k n => f42_l3 k n N E B (E.length : Int) (pre.length : Int)) (if edF N.length l = 0 then res else (edF N.length l, ()))
  | [], pre, hpl => by
    subst hpl
    exact Ev2.step (fun k n => by rw [f42_l3, f42_l3_B, if_neg (by simp)]) (by simpa [edF] using hB.two)
  | e :: l, pre, hpl => by
    have ih := flt_edges N E B hE hB l (pre ++ [e]) (by simp [← hpl])
    have h0 : (0 : Int) ≤ (pre.length : Int) := by omega
    have h1 : (pre.length : Int) < (E.length : Int) := by rw [← hpl]; simp; omega
    have hg : E.getD ((pre.length : Int)).toNat (0, (0, (0, 0))) = e := by rw [← hpl]; exact getD_mid
    have hw : w64 ((pre.length : Int) + 1) = (((pre ++ [e]).length : Nat) : Int) := by
      rw [w64_id (by omega) (by omega)]; simp
    have opn : ∀ k n, f42_l3 k (n + 1) N E B (E.length : Int) (pre.length : Int) = if badE N.length e then some (1, ()) else if e.1 = e.2.1 then some (11, ()) else f42_l3 k n N E B (E.length : Int) (((pre ++ [e]).length : Nat) : Int) := fun k n => by
      rw [f42_l3, f42_l3_B, if_pos h1, if_pos h0, if_pos h1, hg]
      simp only [inS_eq, Option.bind_some, f42_c18, f42_c18_B, hw]
      unfold badE
      by_cases c1 : inR e.1 N.length <;> by_cases c2 : inR e.2.1 N.length <;> by_cases c3 : e.2.2.1 < 0 <;> by_cases c4 : 1099511627776 < e.2.2.1 <;> simp [c1, c2, c3, c4]
    refine Ev2.step opn ?_
    simp only [edF]
    by_cases c1 : badE N.length e
    · simp only [if_pos c1]; exact Ev2.pure _
    · simp only [if_neg c1]
      by_cases c2 : e.1 = e.2.1
      · simp only [if_pos c2]; exact Ev2.pure _
      · simp only [if_neg c2]; exact ih
theorem flt_nodes (N : List Pt) (E : List Ed) (B : List Pt) (hN : N.length ≤ 200) {res : Int × Unit} (hE : Ev (fun k => f42_l3 k k N E B (E.length : Int) 0) res) : ∀ (l pre : List Pt), pre ++ l = N →
    Ev2 (fun k n => f42_l0 k n N E B pre (N.length : Int) (pre.length : Int)) (if nodF pre l = 0 then res else (nodF pre l, ()))
  | [], pre, hpl => by
    subst hpl
    exact Ev2.step (fun k n => by rw [f42_l0, f42_l0_B, if_neg (by simp)]) (by simpa [nodF] using hE.two)
  | p :: l, pre, hpl => by
    have ih := flt_nodes N E B hN hE l (pre ++ [p]) (by simp [← hpl])
    have h0 : (0 : Int) ≤ (pre.length : Int) := by omega
    have h1 : (pre.length : Int) < (N.length : Int) := by rw [← hpl]; simp; omega
    have hg : N.getD ((pre.length : Int)).toNat (0, 0) = p := by rw [← hpl]; exact getD_mid
    have hpp : (p.1, p.2) = p := rfl
    have hw : w64 ((pre.length : Int) + 1) = (((pre ++ [p]).length : Nat) : Int) := by
      rw [w64_id (by omega) (by omega)]; simp
    have opn : ∀ k n, f42_l0 k (n + 1) N E B pre (N.length : Int) (pre.length : Int) = if okP p then (if p ∈ pre then some (5, ()) else f42_l0 k n N E B (pre ++ [p]) (N.length : Int) (((pre ++ [p]).length : Nat) : Int)) else some (1, ()) := fun k n => by
      rw [f42_l0, f42_l0_B, if_pos h1, if_pos h0, if_pos h1, hg]
      simp only [pointOK_eq, Option.bind_some, hw, hpp]
      by_cases c1 : okP p
      · simp only [decide_eq_true c1, not_true_eq_false, if_false, if_pos c1]
      · simp only [decide_eq_false c1, Bool.false_eq_true, not_false_eq_true, if_true, if_neg c1]
    refine Ev2.step opn ?_
    simp only [nodF]
    by_cases c1 : okP p
    · simp only [if_pos c1]
      by_cases c2 : p ∈ pre
      · simp only [if_pos c2]; exact Ev2.pure _
      · simp only [if_neg c2]; exact ih
    · simp only [if_neg c1]; exact Ev2.pure _
theorem flt_ev (n : Nt) : Ev (fun k => f42 k n) (netF n, ()) := by
  obtain ⟨N, E, B⟩ := n
  unfold netF
  simp only [f42, f42_entry_B, f42_r1, f42_r1_B]
  by_cases h1 : 200 < (N.length : Int)
  · rw [if_pos (.inl h1)]; exact Ev.of (fun k => by rw [if_pos h1]; rfl) (Ev.pure _)
  · by_cases h2 : 600 < (E.length : Int)
    · rw [if_pos (.inr (.inl h2))]; exact Ev.of (fun k => by rw [if_neg h1, if_pos h2]; rfl) (Ev.pure _)
    · by_cases h3 : 600 < (B.length : Int)
      · rw [if_pos (.inr (.inr h3))]; exact Ev.of (fun k => by rw [if_neg h1, if_neg h2, decide_eq_true h3]; rfl) (Ev.pure _)
      · rw [if_neg (by omega)]
        have kB := (flt_bans N E B (by omega) B [] rfl).diag
        have kE := (flt_edges N E B (by omega) kB E [] rfl).diag
        have kN := (flt_nodes N E B (by omega) kE N [] rfl).diag
        have e : (if nodF [] N = 0 then (if edF N.length E = 0 then (banF E [] B, ()) else (edF N.length E, ())) else (nodF [] N, ()) : Int × Unit) = (if nodF [] N = 0 then (if edF N.length E = 0 then banF E [] B else edF N.length E) else nodF [] N, ()) := by
          repeat' split
          all_goals rfl
        rw [e] at kN
        exact Ev.of (fun k => by rw [if_neg h1, if_neg h2, decide_eq_false h3]; rfl) kN
end Go.Proofs.Ytpbmlhlpfbcnbaa.Rw
