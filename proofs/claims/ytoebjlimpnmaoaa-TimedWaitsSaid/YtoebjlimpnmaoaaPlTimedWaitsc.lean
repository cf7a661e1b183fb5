/- Networks: Check of the program. No condition. -/
import Derived.Test.YtoebjlimpnmaoaaPlTimedWaitsb
namespace Go.Proofs.Ytoebjlimpnmaoaa.Rw
open Go.Rx
set_option linter.unusedVariables false
set_option linter.unusedSimpArgs false

abbrev Pt := Int × Int
abbrev Ed := Int × (Int × (Int × Int))
abbrev Nt := List Pt × (List Ed × List Pt)
def zE : Ed := (0, (0, (0, 0)))
def okP (p : Pt) : Prop := p.1 = cut p.1 ∧ p.2 = cut p.2
instance (p : Pt) : Decidable (okP p) := by unfold okP; infer_instance
def nodF : List Pt → List Pt → Int
  | _, [] => 0
  | pre, p :: l => if okP p then (if p ∈ pre then 5 else nodF (pre ++ [p]) l) else 1
def inR (i : Int) (n : Nat) : Prop := 0 ≤ i ∧ i < (n : Int)
instance (i : Int) (n : Nat) : Decidable (inR i n) := by unfold inR; infer_instance
def badE (n : Nat) (e : Ed) : Prop := ¬ inR e.1 n ∨ ¬ inR e.2.1 n ∨ e.2.2.1 < 0 ∨ 1099511627776 < e.2.2.1
instance (n : Nat) (e : Ed) : Decidable (badE n e) := by unfold badE; infer_instance
def edF (n : Nat) : List Ed → Int
  | [] => 0
  | e :: l => if badE n e then 1 else if e.1 = e.2.1 then 11 else edF n l
def fromE (E : List Ed) (i : Int) : Int := (E.getD i.toNat zE).1
def toE (E : List Ed) (i : Int) : Int := (E.getD i.toNat zE).2.1
def costE (E : List Ed) (i : Int) : Int := (E.getD i.toNat zE).2.2.1
def banF (E : List Ed) : List Pt → List Pt → Int
  | _, [] => 0
  | pre, b :: l => if inR b.1 E.length ∧ inR b.2 E.length then (if toE E b.1 = fromE E b.2 then (if b ∈ pre then 5 else banF E (pre ++ [b]) l) else 9) else 1
def netF (n : Nt) : Int := if 200 < (n.1.length : Int) ∨ 600 < (n.2.1.length : Int) ∨ 600 < (n.2.2.length : Int) then 2 else if nodF [] n.1 = 0 then (if edF n.1.length n.2.1 = 0 then banF n.2.1 [] n.2.2 else edF n.1.length n.2.1) else nodF [] n.1

theorem conP_loop (a b : Int) : ∀ (l pre : List (Int × Int)), ((pre ++ l).length : Int) ≤ 1000000 → (a, b) ∉ pre →
    ∃ r : Int, Ev2 (fun k n => f69_l0 k n a b (pre ++ l) ((pre ++ l).length : Int) (pre.length : Int)) (r, ()) ∧ (0 ≤ r ↔ (a, b) ∈ pre ++ l)
  | [], pre, hl, hn => ⟨-1, Ev2.step (g := fun _ _ => some (-1, ())) (fun k n => by rw [f69_l0, f69_l0_B, if_neg (by simp)]) (Ev2.pure _), by simpa using hn⟩
  | x :: l, pre, hl, hn => by
    have h0 : (0 : Int) ≤ (pre.length : Int) := by omega
    have h1 : (pre.length : Int) < ((pre ++ x :: l).length : Int) := by simp; omega
    have hw : w64 ((pre.length : Int) + 1) = (((pre ++ [x]).length : Nat) : Int) := by
      rw [w64_id (by omega) (by simp at hl; omega)]; simp
    by_cases hx : a = x.1 ∧ b = x.2
    · refine ⟨(pre.length : Int), Ev2.step (g := fun _ _ => some ((pre.length : Int), ())) (fun k n => by rw [f69_l0, f69_l0_B, if_pos h1, if_pos h0, if_pos h1, getD_mid, if_pos hx]) (Ev2.pure _), ⟨fun _ => ?_, fun _ => h0⟩⟩
      rw [show (a, b) = x by ext <;> simp [hx.1, hx.2]]
      simp
    · have hne : (a, b) ≠ x := fun z => hx ⟨by rw [← z], by rw [← z]⟩
      obtain ⟨r, k1, k2⟩ := conP_loop a b l (pre ++ [x]) (by simpa using hl) (by simp [hn, hne])
      rw [show pre ++ [x] ++ l = pre ++ x :: l by simp] at k1 k2
      refine ⟨r, Ev2.step (fun k n => ?_) k1, k2⟩
      rw [f69_l0, f69_l0_B, if_pos h1, if_pos h0, if_pos h1, getD_mid, if_neg hx, hw]
theorem conP_ev (l : List (Int × Int)) (p : Int × Int) (hl : l.length ≤ 1000000) : Ev (fun k => f45 k l p) (decide (p ∈ l), ()) := by
  obtain ⟨r, k1, k2⟩ := conP_loop p.1 p.2 l [] (by simp; omega) (by simp)
  have k2 : 0 ≤ r ↔ p ∈ l := k2
  have h : Ev (fun k => f69 k l (p.1, p.2)) (r, ()) := k1.diag
  simp only [f45, f45_entry_B]
  refine h.bind ?_
  rw [show decide (p ∈ l) = decide (0 ≤ r) from decide_eq_decide.2 k2.symm]
  exact Ev.pure _

theorem conB_loop (a b : Int) : ∀ (l pre : List (Int × Int)), ((pre ++ l).length : Int) ≤ 1000000 → (a, b) ∉ pre →
    ∃ r : Int, Ev2 (fun k n => f70_l0 k n a b (pre ++ l) ((pre ++ l).length : Int) (pre.length : Int)) (r, ()) ∧ (0 ≤ r ↔ (a, b) ∈ pre ++ l)
  | [], pre, hl, hn => ⟨-1, Ev2.step (g := fun _ _ => some (-1, ())) (fun k n => by rw [f70_l0, f70_l0_B, if_neg (by simp)]) (Ev2.pure _), by simpa using hn⟩
  | x :: l, pre, hl, hn => by
    have h0 : (0 : Int) ≤ (pre.length : Int) := by omega
    have h1 : (pre.length : Int) < ((pre ++ x :: l).length : Int) := by simp; omega
    have hw : w64 ((pre.length : Int) + 1) = (((pre ++ [x]).length : Nat) : Int) := by
      rw [w64_id (by omega) (by simp at hl; omega)]; simp
    by_cases hx : a = x.1 ∧ b = x.2
    · refine ⟨(pre.length : Int), Ev2.step (g := fun _ _ => some ((pre.length : Int), ())) (fun k n => by rw [f70_l0, f70_l0_B, if_pos h1, if_pos h0, if_pos h1, getD_mid, if_pos hx]) (Ev2.pure _), ⟨fun _ => ?_, fun _ => h0⟩⟩
      rw [show (a, b) = x by ext <;> simp [hx.1, hx.2]]
      simp
    · have hne : (a, b) ≠ x := fun z => hx ⟨by rw [← z], by rw [← z]⟩
      obtain ⟨r, k1, k2⟩ := conB_loop a b l (pre ++ [x]) (by simpa using hl) (by simp [hn, hne])
      rw [show pre ++ [x] ++ l = pre ++ x :: l by simp] at k1 k2
      refine ⟨r, Ev2.step (fun k n => ?_) k1, k2⟩
      rw [f70_l0, f70_l0_B, if_pos h1, if_pos h0, if_pos h1, getD_mid, if_neg hx, hw]
theorem conB_ev (l : List (Int × Int)) (p : Int × Int) (hl : l.length ≤ 1000000) : Ev (fun k => f46 k l p) (decide (p ∈ l), ()) := by
  obtain ⟨r, k1, k2⟩ := conB_loop p.1 p.2 l [] (by simp; omega) (by simp)
  have k2 : 0 ≤ r ↔ p ∈ l := k2
  have h : Ev (fun k => f70 k l (p.1, p.2)) (r, ()) := k1.diag
  simp only [f46, f46_entry_B]
  refine h.bind ?_
  rw [show decide (p ∈ l) = decide (0 ≤ r) from decide_eq_decide.2 k2.symm]
  exact Ev.pure _

theorem ok_eq (k : Nat) (p : Pt) : f72 k p = some (decide (okP p), ()) := by
  simp only [f72, f72_entry_B, clamp_eq, Option.bind_some]
  rfl
theorem node_eq (k : Nat) (N : List Pt) (E : List Ed) (B : List Pt) (i : Int) : f73 k (N, (E, B)) i = some (decide (inR i N.length), ()) := by
  simp only [f73, f73_entry_B, f73_r1, f73_r1_B, inR]
  by_cases h : 0 ≤ i <;> simp [h]
theorem edge_eq (k : Nat) (N : List Pt) (E : List Ed) (B : List Pt) (i : Int) : f62 k (N, (E, B)) i = some (decide (inR i E.length), ()) := by
  simp only [f62, f62_entry_B, f62_r1, f62_r1_B, inR]
  by_cases h : 0 ≤ i <;> simp [h]
theorem chk_bans (N : List Pt) (E : List Ed) (B : List Pt) (hB : B.length ≤ 600) : ∀ (l pre : List Pt), pre ++ l = B →
    Ev2 (fun k n => f49_l4 k n N E B (B.length : Int) (pre.length : Int)) (banF E pre l, ())
  | [], pre, hpl => by
    subst hpl
    exact Ev2.step (g := fun _ _ => some (0, ())) (fun k n => by rw [f49_l4, f49_l4_B, if_neg (by simp)]) (Ev2.pure _)
  | b :: l, pre, hpl => by
    have ih := chk_bans N E B hB l (pre ++ [b]) (by simp [← hpl])
    have h0 : (0 : Int) ≤ (pre.length : Int) := by omega
    have h1 : (pre.length : Int) < (B.length : Int) := by rw [← hpl]; simp; omega
    have h1' : (pre.length : Int) ≤ (B.length : Int) := by omega
    have hg : B.getD ((pre.length : Int)).toNat (0, 0) = b := by rw [← hpl]; exact getD_mid
    have ht : B.take ((pre.length : Int)).toNat = pre := by rw [← hpl]; simp
    have hpre : pre.length ≤ 600 := by rw [← hpl] at hB; simp at hB; omega
    have hw : w64 ((pre.length : Int) + 1) = (((pre ++ [b]).length : Nat) : Int) := by
      rw [w64_id (by omega) (by omega)]; simp
    by_cases c1 : inR b.1 E.length
    · by_cases c2 : inR b.2 E.length
      · have d1 := c1; have d2 := c2
        unfold inR at d1 d2
        by_cases c3 : toE E b.1 = fromE E b.2
        · have c3' : (E.getD b.1.toNat (0, (0, (0, 0)))).2.1 = (E.getD b.2.toNat (0, (0, (0, 0)))).1 := c3
          refine Ev2.step (g := fun k n => (f46 k pre b).bind fun r1 => if r1.1 = true then some (5, ()) else f49_l4 k n N E B (B.length : Int) (((pre ++ [b]).length : Nat) : Int)) (fun k n => ?_) ((conB_ev pre b (by omega)).bind2 ?_)
          · rw [f49_l4, f49_l4_B, if_pos h1, if_pos h0, if_pos h1, hg]
            simp only [edge_eq, Option.bind_some, decide_eq_true c1, decide_eq_true c2, not_true_eq_false, if_false, decide_false, f49_r22, f49_r22_B, Bool.false_eq_true, if_pos d1.1, if_pos d1.2, if_pos d2.1, if_pos d2.2, if_pos c3', c3', if_pos h0, if_pos h1', ht, hw]
          · simp only [banF]
            rw [if_pos ⟨c1, c2⟩, if_pos c3]
            by_cases c4 : b ∈ pre
            · simp only [decide_eq_true c4, if_true, if_pos c4]; exact Ev2.pure _
            · simp only [decide_eq_false c4, Bool.false_eq_true, if_false, if_neg c4]; exact ih
        · have c3' : ¬ (E.getD b.1.toNat (0, (0, (0, 0)))).2.1 = (E.getD b.2.toNat (0, (0, (0, 0)))).1 := c3
          refine Ev2.step (g := fun _ _ => some (9, ())) (fun k n => ?_) (by simp only [banF]; rw [if_pos ⟨c1, c2⟩, if_neg c3]; exact Ev2.pure _)
          rw [f49_l4, f49_l4_B, if_pos h1, if_pos h0, if_pos h1, hg]
          simp only [edge_eq, Option.bind_some, decide_eq_true c1, decide_eq_true c2, not_true_eq_false, if_false, decide_false, f49_r22, f49_r22_B, Bool.false_eq_true, if_pos d1.1, if_pos d1.2, if_pos d2.1, if_pos d2.2]
          rw [if_pos c3']
      · refine Ev2.step (g := fun _ _ => some (1, ())) (fun k n => ?_) (by simp only [banF]; rw [if_neg (fun z => c2 z.2)]; exact Ev2.pure _)
        rw [f49_l4, f49_l4_B, if_pos h1, if_pos h0, if_pos h1, hg]
        simp only [edge_eq, Option.bind_some, decide_eq_true c1, decide_eq_false c2, not_true_eq_false, if_false, decide_true, f49_r22, f49_r22_B, Bool.false_eq_true, not_false_eq_true, if_true]
    · refine Ev2.step (g := fun _ _ => some (1, ())) (fun k n => ?_) (by simp only [banF]; rw [if_neg (fun z => c1 z.1)]; exact Ev2.pure _)
      rw [f49_l4, f49_l4_B, if_pos h1, if_pos h0, if_pos h1, hg]
      simp only [edge_eq, Option.bind_some, decide_eq_false c1, Bool.false_eq_true, not_false_eq_true, if_true, f49_r22, f49_r22_B]
theorem chk_edges (N : List Pt) (E : List Ed) (B : List Pt) (hE : E.length ≤ 600) {res : Int × Unit} (hB : Ev (fun k => f49_l4 k k N E B (B.length : Int) 0) res) : ∀ (l pre : List Ed), pre ++ l = E →
    Ev2 (fun k n => f49_l2 k n N E B (E.length : Int) (pre.length : Int)) (if edF N.length l = 0 then res else (edF N.length l, ()))
  | [], pre, hpl => by
    subst hpl
    exact Ev2.step (fun k n => by rw [f49_l2, f49_l2_B, if_neg (by simp)]) (by simpa [edF] using hB.two)
  | e :: l, pre, hpl => by
    have ih := chk_edges N E B hE hB l (pre ++ [e]) (by simp [← hpl])
    have h0 : (0 : Int) ≤ (pre.length : Int) := by omega
    have h1 : (pre.length : Int) < (E.length : Int) := by rw [← hpl]; simp; omega
    have hg : E.getD ((pre.length : Int)).toNat (0, (0, (0, 0))) = e := by rw [← hpl]; exact getD_mid
    have hw : w64 ((pre.length : Int) + 1) = (((pre ++ [e]).length : Nat) : Int) := by
      rw [w64_id (by omega) (by omega)]; simp
    have opn : ∀ k n, f49_l2 k (n + 1) N E B (E.length : Int) (pre.length : Int) = if badE N.length e then some (1, ()) else if e.1 = e.2.1 then some (11, ()) else f49_l2 k n N E B (E.length : Int) (((pre ++ [e]).length : Nat) : Int) := fun k n => by
      rw [f49_l2, f49_l2_B, if_pos h1, if_pos h0, if_pos h1, hg]
      simp only [node_eq, Option.bind_some, f49_r14, f49_r14_B, hw]
      unfold badE
      by_cases c1 : inR e.1 N.length <;> by_cases c2 : inR e.2.1 N.length <;> by_cases c3 : e.2.2.1 < 0 <;> by_cases c4 : 1099511627776 < e.2.2.1 <;> simp [c1, c2, c3, c4]
    refine Ev2.step opn ?_
    simp only [edF]
    by_cases c1 : badE N.length e
    · simp only [if_pos c1]; exact Ev2.pure _
    · simp only [if_neg c1]
      by_cases c2 : e.1 = e.2.1
      · simp only [if_pos c2]; exact Ev2.pure _
      · simp only [if_neg c2]; exact ih
theorem chk_nodes (N : List Pt) (E : List Ed) (B : List Pt) (hN : N.length ≤ 200) {res : Int × Unit} (hE : Ev (fun k => f49_l2 k k N E B (E.length : Int) 0) res) : ∀ (l pre : List Pt), pre ++ l = N →
    Ev2 (fun k n => f49_l0 k n N E B (N.length : Int) (pre.length : Int)) (if nodF pre l = 0 then res else (nodF pre l, ()))
  | [], pre, hpl => by
    subst hpl
    exact Ev2.step (fun k n => by rw [f49_l0, f49_l0_B, if_neg (by simp)]) (by simpa [nodF] using hE.two)
  | p :: l, pre, hpl => by
    have ih := chk_nodes N E B hN hE l (pre ++ [p]) (by simp [← hpl])
    have h0 : (0 : Int) ≤ (pre.length : Int) := by omega
    have h1 : (pre.length : Int) < (N.length : Int) := by rw [← hpl]; simp; omega
    have h1' : (pre.length : Int) ≤ (N.length : Int) := by omega
    have hg : N.getD ((pre.length : Int)).toNat (0, 0) = p := by rw [← hpl]; exact getD_mid
    have ht : N.take ((pre.length : Int)).toNat = pre := by rw [← hpl]; simp
    have hw : w64 ((pre.length : Int) + 1) = (((pre ++ [p]).length : Nat) : Int) := by
      rw [w64_id (by omega) (by omega)]; simp
    simp only [nodF]
    by_cases c1 : okP p
    · refine Ev2.step (g := fun k n => (f45 k pre p).bind fun r1 => if r1.1 = true then some (5, ()) else f49_l0 k n N E B (N.length : Int) (((pre ++ [p]).length : Nat) : Int)) (fun k n => ?_) ((conP_ev pre p (by omega)).bind2 ?_)
      · rw [f49_l0, f49_l0_B, if_pos h1, if_pos h0, if_pos h1, hg]
        simp only [ok_eq, Option.bind_some, decide_eq_true c1, not_true_eq_false, if_false, if_pos h0, if_pos h1', ht, hw]
      · simp only [if_pos c1]
        by_cases c4 : p ∈ pre
        · simp only [decide_eq_true c4, if_true, if_pos c4]; exact Ev2.pure _
        · simp only [decide_eq_false c4, Bool.false_eq_true, if_false, if_neg c4]; exact ih
    · refine Ev2.step (g := fun _ _ => some (1, ())) (fun k n => ?_) (by simp only [if_neg c1]; exact Ev2.pure _)
      rw [f49_l0, f49_l0_B, if_pos h1, if_pos h0, if_pos h1, hg]
      simp only [ok_eq, Option.bind_some, decide_eq_false c1, Bool.false_eq_true, not_false_eq_true, if_true]
theorem chk_ev (n : Nt) : Ev (fun k => f49 k n) (netF n, ()) := by
  obtain ⟨N, E, B⟩ := n
  unfold netF
  simp only [f49, f49_entry_B, f49_r1, f49_r1_B]
  by_cases h1 : 200 < (N.length : Int)
  · rw [if_pos (.inl h1)]; exact Ev.of (fun k => by rw [if_pos h1]; rfl) (Ev.pure _)
  · by_cases h2 : 600 < (E.length : Int)
    · rw [if_pos (.inr (.inl h2))]; exact Ev.of (fun k => by rw [if_neg h1, if_pos h2]; rfl) (Ev.pure _)
    · by_cases h3 : 600 < (B.length : Int)
      · rw [if_pos (.inr (.inr h3))]; exact Ev.of (fun k => by rw [if_neg h1, if_neg h2, decide_eq_true h3]; rfl) (Ev.pure _)
      · rw [if_neg (by omega)]
        have kB := (chk_bans N E B (by omega) B [] rfl).diag
        have kE := (chk_edges N E B (by omega) kB E [] rfl).diag
        have kN := (chk_nodes N E B (by omega) kE N [] rfl).diag
        have e : (if nodF [] N = 0 then (if edF N.length E = 0 then (banF E [] B, ()) else (edF N.length E, ())) else (nodF [] N, ()) : Int × Unit) = (if nodF [] N = 0 then (if edF N.length E = 0 then banF E [] B else edF N.length E) else nodF [] N, ()) := by
          repeat' split
          all_goals rfl
        rw [e] at kN
        exact Ev.of (fun k => by rw [if_neg h1, if_neg h2, decide_eq_false h3]; rfl) kN
theorem netF_len {n : Nt} (h : netF n = 0) : n.1.length ≤ 200 ∧ n.2.1.length ≤ 600 ∧ n.2.2.length ≤ 600 := by
  unfold netF at h
  split at h
  · cases h
  · omega
end Go.Proofs.Ytoebjlimpnmaoaa.Rw
