/- Networks: Turn and Cost of the program, and the network that is turned around. No condition. -/
import Derived.Test.YtpbmlhlpfbcnbaaPlNetWalksd
namespace Go.Proofs.Ytpbmlhlpfbcnbaa.Rw
open Go.Rx
set_option linter.unusedVariables false
set_option linter.unusedSimpArgs false

theorem netF_len {n : Nt} (h : netF n = 0) : n.1.length ≤ 200 ∧ n.2.1.length ≤ 600 ∧ n.2.2.length ≤ 600 := by
  unfold netF at h
  split at h
  · cases h
  · omega
def turnF (E : List Ed) (B : List Pt) (a b : Int) : Bool := decide (inR a E.length ∧ inR b E.length ∧ toE E a = fromE E b ∧ (a, b) ∉ B)
theorem turn_ev (N : List Pt) (E : List Ed) (B : List Pt) (hB : B.length ≤ 1000000) (a b : Int) : Ev (fun k => f63 k (N, (E, B)) a b) (turnF E B a b, ()) := by
  simp only [f63, f63_entry_B, edge_eq, Option.bind_some, f63_r1, f63_r1_B, turnF]
  by_cases c1 : inR a E.length
  · by_cases c2 : inR b E.length
    · have d1 := c1; have d2 := c2
      unfold inR at d1 d2
      simp only [c1, c2, decide_true, if_true, if_pos d1.1, if_pos d1.2, if_pos d2.1, if_pos d2.2, true_and]
      by_cases c3 : toE E a = fromE E b
      · have c3' : (E.getD a.toNat (0, (0, (0, 0)))).2.1 = (E.getD b.toNat (0, (0, (0, 0)))).1 := c3
        simp only [if_pos c3']
        refine (conB_ev B (a, b) hB).bind ?_
        by_cases c4 : (a, b) ∈ B
        · simp only [c3, c4, decide_true, not_true_eq_false, decide_false, true_and, Bool.false_eq_true]; exact Ev.pure _
        · simp only [c3, c4, decide_false, Bool.false_eq_true, not_false_eq_true, decide_true, true_and]; exact Ev.pure _
      · have c3' : ¬ (E.getD a.toNat (0, (0, (0, 0)))).2.1 = (E.getD b.toNat (0, (0, (0, 0)))).1 := c3
        simp only [if_neg c3', c3, false_and, decide_false, Bool.false_eq_true]
        exact Ev.pure _
    · simp only [c1, c2, decide_true, decide_false, if_true, Bool.false_eq_true, if_false, false_and, and_false]
      exact Ev.pure _
  · simp only [c1, decide_false, Bool.false_eq_true, if_false, false_and]
    exact Ev.pure _
/-- What a way costs; or what is wrong with it. -/
def costL (E : List Ed) (B : List Pt) : Option Int → Int → List Int → Int × Int × Unit
  | _, s, [] => (s, 0, ())
  | p, s, x :: w => if inR x E.length then (match p with
    | none => costL E B (some x) (w64 (s + costE E x)) w
    | some y => if toE E y = fromE E x then (if (y, x) ∈ B then (0, 19, ()) else costL E B (some x) (w64 (s + costE E x)) w) else (0, 9, ())) else (0, 1, ())
theorem cost_loop (N : List Pt) (E : List Ed) (B : List Pt) (hB : B.length ≤ 1000000) : ∀ (w pre : List Int) (s : Int), ((pre ++ w).length : Int) ≤ 9000000000000000000 → (∀ y, pre.getLast? = some y → inR y E.length) →
    Ev2 (fun k n => f54_l0 k n N E B (pre ++ w) ((pre ++ w).length : Int) (pre.length : Int) s) (costL E B pre.getLast? s w)
  | [], pre, s, hl, hv => Ev2.step (g := fun _ _ => some (s, 0, ())) (fun k n => by rw [f54_l0, f54_l0_B, if_neg (by simp)]) (Ev2.pure _)
  | x :: w, pre, s, hl, hv => by
    have h0 : (0 : Int) ≤ (pre.length : Int) := by omega
    have h1 : (pre.length : Int) < ((pre ++ x :: w).length : Int) := by simp; omega
    have hw : w64 ((pre.length : Int) + 1) = (((pre ++ [x]).length : Nat) : Int) := by
      rw [w64_id (by omega) (by simp at hl; omega)]; simp
    simp only [costL]
    by_cases c1 : inR x E.length
    · have d1 := c1
      unfold inR at d1
      have ih := cost_loop N E B hB w (pre ++ [x]) (w64 (s + costE E x)) (by simpa using hl) (fun y hy => by simp at hy; subst hy; exact c1)
      rw [show pre ++ [x] ++ w = pre ++ x :: w by simp, show (pre ++ [x]).getLast? = some x by simp] at ih
      rw [if_pos c1]
      rcases List.eq_nil_or_concat pre with rfl | ⟨p, y, rfl⟩
      · refine Ev2.step (fun k n => ?_) ih
        rw [f54_l0, f54_l0_B, if_pos h1, if_pos h0, if_pos h1, getD_mid]
        simp only [edge_eq, Option.bind_some, c1, decide_true, not_true_eq_false, if_false, List.length_nil, Int.ofNat_zero, Int.lt_irrefl, f54_r10, f54_r10_B, f54_r12, f54_r12_B, Bool.false_eq_true, if_pos d1.1, if_pos d1.2]
        rfl
      · have hy := hv y (by simp)
        have dy := hy
        unfold inR at dy
        have e1 : (((p.concat y).length : Nat) : Int) = (p.length : Int) + 1 := by simp
        have e2 : w64 ((((p.concat y).length : Nat) : Int) - 1) = (p.length : Int) := by rw [e1, w64_id (by omega) (by simp at hl; omega)]; omega
        have e5 : (0 : Int) < ((p.concat y).length : Int) := by rw [e1]; omega
        have e6 : (p.length : Int) < ((p.concat y ++ x :: w).length : Int) := by simp; omega
        have e7 : (0 : Int) ≤ (p.length : Int) := by omega
        have e9 : (p.concat y).getLast? = some y := by simp
        rw [e9]
        simp only
        by_cases c3 : toE E y = fromE E x
        · have c3' : (E.getD y.toNat (0, (0, (0, 0)))).2.1 = (E.getD x.toNat (0, (0, (0, 0)))).1 := c3
          rw [if_pos c3]
          refine Ev2.step (g := fun k n => (f63 k (N, (E, B)) y x).bind fun r1 => if r1.1 = true then f54_l0 k n N E B (p.concat y ++ x :: w) ((p.concat y ++ x :: w).length : Int) (((p.concat y ++ [x]).length : Nat) : Int) (w64 (s + costE E x)) else some (0, 19, ())) (fun k n => ?_) ((turn_ev N E B hB y x).bind2 ?_)
          · rw [f54_l0, f54_l0_B, if_pos h1, if_pos h0, if_pos h1, getD_mid]
            simp only [edge_eq, Option.bind_some, c1, decide_true, not_true_eq_false, if_false, if_pos e5, e2, if_pos e6, if_pos e7, getD_prev, if_pos dy.1, if_pos dy.2, if_pos d1.1, if_pos d1.2, c3', decide_false, f54_r10, f54_r10_B, Bool.false_eq_true, hw]
            congr 1
            funext r1
            by_cases g : r1.1 = true
            · simp only [g, not_true_eq_false, decide_false, f54_r12, f54_r12_B, Bool.false_eq_true, if_false, if_pos d1.1, if_pos d1.2, if_true, hw]
              rfl
            · simp only [g, Bool.false_eq_true, not_false_eq_true, decide_true, f54_r12, f54_r12_B, if_true, if_false]
          · by_cases c4 : (y, x) ∈ B
            · simp only [turnF, hy, c1, c3, c4, not_true_eq_false, and_false, decide_false, Bool.false_eq_true, if_false, if_true]; exact Ev2.pure _
            · simp only [turnF, hy, c1, c3, c4, not_false_eq_true, and_self, decide_true, if_true, if_false]; exact ih
        · have c3' : ¬ (E.getD y.toNat (0, (0, (0, 0)))).2.1 = (E.getD x.toNat (0, (0, (0, 0)))).1 := c3
          rw [if_neg c3]
          refine Ev2.step (g := fun _ _ => some (0, 9, ())) (fun k n => ?_) (Ev2.pure _)
          rw [f54_l0, f54_l0_B, if_pos h1, if_pos h0, if_pos h1, getD_mid]
          simp only [edge_eq, Option.bind_some, c1, decide_true, not_true_eq_false, if_false, if_pos e5, e2, if_pos e6, if_pos e7, getD_prev, if_pos dy.1, if_pos dy.2, if_pos d1.1, if_pos d1.2, c3', not_false_eq_true, f54_r10, f54_r10_B, if_true]
    · rw [if_neg c1]
      refine Ev2.step (g := fun _ _ => some (0, 1, ())) (fun k n => ?_) (Ev2.pure _)
      rw [f54_l0, f54_l0_B, if_pos h1, if_pos h0, if_pos h1, getD_mid]
      simp only [edge_eq, Option.bind_some, c1, decide_false, Bool.false_eq_true, not_false_eq_true, if_true]
def costF (n : Nt) (way : List Int) : Int × Int × Unit := if netF n = 0 then costL n.2.1 n.2.2 none 0 way else (0, netF n, ())
theorem cost_ev (n : Nt) (way : List Int) (hway : (way.length : Int) ≤ 9000000000000000000) : Ev (fun k => f54 k n way) (costF n way) := by
  obtain ⟨N, E, B⟩ := n
  simp only [f54, f54_entry_B]
  refine (chk_ev (N, (E, B))).bind ?_
  unfold costF
  by_cases h : netF (N, (E, B)) = 0
  · have hl := netF_len h
    simp only [h, not_true_eq_false, if_false, if_true]
    exact (cost_loop N E B (by have : B.length ≤ 600 := hl.2.2; omega) way [] 0 (by simpa using hway) (fun y hy => by cases hy)).diag
  · simp only [h, not_false_eq_true, if_true, if_false]
    exact Ev.pure _
end Go.Proofs.Ytpbmlhlpfbcnbaa.Rw
