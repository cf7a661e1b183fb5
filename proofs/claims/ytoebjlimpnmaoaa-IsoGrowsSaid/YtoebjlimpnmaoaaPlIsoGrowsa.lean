/- Plain laws for IsoGrows. No condition. -/
import Derived.Test.YtoebjlimpnmaoaaRwIsoGrowsb
namespace Go.Proofs.Ytoebjlimpnmaoaa.Rw
open Go.Rx
set_option linter.unusedVariables false
set_option linter.unusedSimpArgs false
/-- A coordinate that is cut to the grid. -/
def cut (x : Int) : Int := if x < -1048576 then -1048576 else if 1048576 < x then 1048576 else x
theorem cut_in {x : Int} (h1 : -1048576 ≤ x) (h2 : x ≤ 1048576) : cut x = x := by unfold cut; rw [if_neg (by omega), if_neg (by omega)]
theorem limit_eq (k : Nat) (x : Int) : f105 k x 1048576 = some (cut x, ()) := by
  have e : mx2 true (w64 (0 - 1048576)) (mx2 false x 1048576) = cut x := by
    rw [w64_id (by omega) (by omega), mx2_max, mx2_min]
    unfold cut
    repeat' split
    all_goals omega
  simp only [f105, f105_entry_B, e]
theorem clamp_eq (k : Nat) (p : Int × Int) : f76 k p = some ((cut p.1, cut p.2), ()) := by
  simp only [f76, f76_entry_B, limit_eq, Option.bind_some]
end Go.Proofs.Ytoebjlimpnmaoaa.Rw

namespace Go.Proofs.Ytoebjlimpnmaoaa.Rw
open Go.Rx
set_option linter.unusedVariables false
set_option linter.unusedSimpArgs false
abbrev Pt := Int × Int
abbrev Ed := Int × (Int × (Int × Int))
abbrev Nt := List Pt × (List Ed × List Pt)
def zE : Ed := (0, (0, (0, 0)))
def okP (p : Pt) : Prop := p.1 = cut p.1 ∧ p.2 = cut p.2
instance (p : Pt) : Decidable (okP p) := by unfold okP; infer_instance
def nodF : List Pt → List Pt → Int
  | _, [] => 0
  | pre, p :: l => if okP p then (if p ∈ pre then 5 else nodF (pre ++ [p]) l) else 1
def inR (i : Int) (n : Nat) : Prop := 0 ≤ i ∧ i < (n : Int)
instance (i : Int) (n : Nat) : Decidable (inR i n) := by unfold inR; infer_instance
def badE (n : Nat) (e : Ed) : Prop := ¬ inR e.1 n ∨ ¬ inR e.2.1 n ∨ e.2.2.1 < 0 ∨ 1099511627776 < e.2.2.1
instance (n : Nat) (e : Ed) : Decidable (badE n e) := by unfold badE; infer_instance
def edF (n : Nat) : List Ed → Int
  | [] => 0
  | e :: l => if badE n e then 1 else if e.1 = e.2.1 then 11 else edF n l
def fromE (E : List Ed) (i : Int) : Int := (E.getD i.toNat zE).1
def toE (E : List Ed) (i : Int) : Int := (E.getD i.toNat zE).2.1
def costE (E : List Ed) (i : Int) : Int := (E.getD i.toNat zE).2.2.1
def banF (E : List Ed) : List Pt → List Pt → Int
  | _, [] => 0
  | pre, b :: l => if inR b.1 E.length ∧ inR b.2 E.length then (if toE E b.1 = fromE E b.2 then (if b ∈ pre then 5 else banF E (pre ++ [b]) l) else 9) else 1
def netF (n : Nt) : Int := if 200 < (n.1.length : Int) ∨ 600 < (n.2.1.length : Int) ∨ 600 < (n.2.2.length : Int) then 2 else if nodF [] n.1 = 0 then (if edF n.1.length n.2.1 = 0 then banF n.2.1 [] n.2.2 else edF n.1.length n.2.1) else nodF [] n.1
theorem conP_loop (a b : Int) : ∀ (l pre : List (Int × Int)), ((pre ++ l).length : Int) ≤ 1000000 → (a, b) ∉ pre →
    ∃ r : Int, Ev2 (fun k n => f69_l0 k n a b (pre ++ l) ((pre ++ l).length : Int) (pre.length : Int)) (r, ()) ∧ (0 ≤ r ↔ (a, b) ∈ pre ++ l)
  | [], pre, hl, hn => ⟨-1, Ev2.step (g := fun _ _ => some (-1, ())) (fun k n => by rw [f69_l0, f69_l0_B, if_neg (by simp)]) (Ev2.pure _), by simpa using hn⟩
  | x :: l, pre, hl, hn => by
    have h0 : (0 : Int) ≤ (pre.length : Int) := by omega
    have h1 : (pre.length : Int) < ((pre ++ x :: l).length : Int) := by simp; omega
    have hw : w64 ((pre.length : Int) + 1) = (((pre ++ [x]).length : Nat) : Int) := by
      rw [w64_id (by omega) (by simp at hl; omega)]; simp
    by_cases hx : a = x.1 ∧ b = x.2
    · refine ⟨(pre.length : Int), Ev2.step (g := fun _ _ => some ((pre.length : Int), ())) (fun k n => by rw [f69_l0, f69_l0_B, if_pos h1, if_pos h0, if_pos h1, getD_mid, if_pos hx]) (Ev2.pure _), ⟨fun _ => ?_, fun _ => h0⟩⟩
      rw [show (a, b) = x by ext <;> simp [hx.1, hx.2]]
      simp
    · have hne : (a, b) ≠ x := fun z => hx ⟨by rw [← z], by rw [← z]⟩
      obtain ⟨r, k1, k2⟩ := conP_loop a b l (pre ++ [x]) (by simpa using hl) (by simp [hn, hne])
      rw [show pre ++ [x] ++ l = pre ++ x :: l by simp] at k1 k2
      refine ⟨r, Ev2.step (fun k n => ?_) k1, k2⟩
      rw [f69_l0, f69_l0_B, if_pos h1, if_pos h0, if_pos h1, getD_mid, if_neg hx, hw]
theorem conP_ev (l : List (Int × Int)) (p : Int × Int) (hl : l.length ≤ 1000000) : Ev (fun k => f45 k l p) (decide (p ∈ l), ()) := by
  obtain ⟨r, k1, k2⟩ := conP_loop p.1 p.2 l [] (by simp; omega) (by simp)
  have k2 : 0 ≤ r ↔ p ∈ l := k2
  have h : Ev (fun k => f69 k l (p.1, p.2)) (r, ()) := k1.diag
  simp only [f45, f45_entry_B]
  refine h.bind ?_
  rw [show decide (p ∈ l) = decide (0 ≤ r) from decide_eq_decide.2 k2.symm]
  exact Ev.pure _
theorem conB_loop (a b : Int) : ∀ (l pre : List (Int × Int)), ((pre ++ l).length : Int) ≤ 1000000 → (a, b) ∉ pre →
    ∃ r : Int, Ev2 (fun k n => f70_l0 k n a b (pre ++ l) ((pre ++ l).length : Int) (pre.length : Int)) (r, ()) ∧ (0 ≤ r ↔ (a, b) ∈ pre ++ l)
  | [], pre, hl, hn => ⟨-1, Ev2.step (g := fun _ _ => some (-1, ())) (fun k n => by rw [f70_l0, f70_l0_B, if_neg (by simp)]) (Ev2.pure _), by simpa using hn⟩
  | x :: l, pre, hl, hn => by
    have h0 : (0 : Int) ≤ (pre.length : Int) := by omega
    have h1 : (pre.length : Int) < ((pre ++ x :: l).length : Int) := by simp; omega
    have hw : w64 ((pre.length : Int) + 1) = (((pre ++ [x]).length : Nat) : Int) := by
      rw [w64_id (by omega) (by simp at hl; omega)]; simp
    by_cases hx : a = x.1 ∧ b = x.2
    · refine ⟨(pre.length : Int), Ev2.step (g := fun _ _ => some ((pre.length : Int), ())) (fun k n => by rw [f70_l0, f70_l0_B, if_pos h1, if_pos h0, if_pos h1, getD_mid, if_pos hx]) (Ev2.pure _), ⟨fun _ => ?_, fun _ => h0⟩⟩
      rw [show (a, b) = x by ext <;> simp [hx.1, hx.2]]
      simp
    · have hne : (a, b) ≠ x := fun z => hx ⟨by rw [← z], by rw [← z]⟩
      obtain ⟨r, k1, k2⟩ := conB_loop a b l (pre ++ [x]) (by simpa using hl) (by simp [hn, hne])
      rw [show pre ++ [x] ++ l = pre ++ x :: l by simp] at k1 k2
      refine ⟨r, Ev2.step (fun k n => ?_) k1, k2⟩
      rw [f70_l0, f70_l0_B, if_pos h1, if_pos h0, if_pos h1, getD_mid, if_neg hx, hw]
theorem conB_ev (l : List (Int × Int)) (p : Int × Int) (hl : l.length ≤ 1000000) : Ev (fun k => f46 k l p) (decide (p ∈ l), ()) := by
  obtain ⟨r, k1, k2⟩ := conB_loop p.1 p.2 l [] (by simp; omega) (by simp)
  have k2 : 0 ≤ r ↔ p ∈ l := k2
  have h : Ev (fun k => f70 k l (p.1, p.2)) (r, ()) := k1.diag
  simp only [f46, f46_entry_B]
  refine h.bind ?_
  rw [show decide (p ∈ l) = decide (0 ≤ r) from decide_eq_decide.2 k2.symm]
  exact Ev.pure _
theorem ok_eq (k : Nat) (p : Pt) : f72 k p = some (decide (okP p), ()) := by
  simp only [f72, f72_entry_B, clamp_eq, Option.bind_some]
  rfl
theorem node_eq (k : Nat) (N : List Pt) (E : List Ed) (B : List Pt) (i : Int) : f73 k (N, (E, B)) i = some (decide (inR i N.length), ()) := by
  simp only [f73, f73_entry_B, f73_r1, f73_r1_B, inR]
  by_cases h : 0 ≤ i <;> simp [h]
theorem edge_eq (k : Nat) (N : List Pt) (E : List Ed) (B : List Pt) (i : Int) : f62 k (N, (E, B)) i = some (decide (inR i E.length), ()) := by
  simp only [f62, f62_entry_B, f62_r1, f62_r1_B, inR]
  by_cases h : 0 ≤ i <;> simp [h]
theorem chk_bans (N : List Pt) (E : List Ed) (B : List Pt) (hB : B.length ≤ 600) : ∀ (l pre : List Pt), pre ++ l = B →
    Ev2 (fun k n => f49_l4 k n N E B (B.length : Int) (pre.length : Int)) (banF E pre l, ())
  | [], pre, hpl => by
    subst hpl
    exact Ev2.step (g := fun _ _ => some (0, ())) (fun k n => by rw [f49_l4, f49_l4_B, if_neg (by simp)]) (Ev2.pure _)
  | b :: l, pre, hpl => by
    have ih := chk_bans N E B hB l (pre ++ [b]) (by simp [← hpl])
    have h0 : (0 : Int) ≤ (pre.length : Int) := by omega
    have h1 : (pre.length : Int) < (B.length : Int) := by rw [← hpl]; simp; omega
    have h1' : (pre.length : Int) ≤ (B.length : Int) := by omega
    have hg : B.getD ((pre.length : Int)).toNat (0, 0) = b := by rw [← hpl]; exact getD_mid
    have ht : B.take ((pre.length : Int)).toNat = pre := by rw [← hpl]; simp
    have hpre : pre.length ≤ 600 := by rw [← hpl] at hB; simp at hB; omega
    have hw : w64 ((pre.length : Int) + 1) = (((pre ++ [b]).length : Nat) : Int) := by
      rw [w64_id (by omega) (by omega)]; simp
    by_cases c1 : inR b.1 E.length
    · by_cases c2 : inR b.2 E.length
      · have d1 := c1; have d2 := c2
        unfold inR at d1 d2
        by_cases c3 : toE E b.1 = fromE E b.2
        · have c3' : (E.getD b.1.toNat (0, (0, (0, 0)))).2.1 = (E.getD b.2.toNat (0, (0, (0, 0)))).1 := c3
          refine Ev2.step (g := fun k n => (f46 k pre b).bind fun r1 => if r1.1 = true then some (5, ()) else f49_l4 k n N E B (B.length : Int) (((pre ++ [b]).length : Nat) : Int)) (fun k n => ?_) ((conB_ev pre b (by omega)).bind2 ?_)
          · rw [f49_l4, f49_l4_B, if_pos h1, if_pos h0, if_pos h1, hg]
            simp only [edge_eq, Option.bind_some, decide_eq_true c1, decide_eq_true c2, not_true_eq_false, if_false, decide_false, f49_r22, f49_r22_B, Bool.false_eq_true, if_pos d1.1, if_pos d1.2, if_pos d2.1, if_pos d2.2, if_pos c3', c3', if_pos h0, if_pos h1', ht, hw]
          · simp only [banF]
            rw [if_pos ⟨c1, c2⟩, if_pos c3]
            by_cases c4 : b ∈ pre
            · simp only [decide_eq_true c4, if_true, if_pos c4]; exact Ev2.pure _
            · simp only [decide_eq_false c4, Bool.false_eq_true, if_false, if_neg c4]; exact ih
        · have c3' : ¬ (E.getD b.1.toNat (0, (0, (0, 0)))).2.1 = (E.getD b.2.toNat (0, (0, (0, 0)))).1 := c3
          refine Ev2.step (g := fun _ _ => some (9, ())) (fun k n => ?_) (by simp only [banF]; rw [if_pos ⟨c1, c2⟩, if_neg c3]; exact Ev2.pure _)
          rw [f49_l4, f49_l4_B, if_pos h1, if_pos h0, if_pos h1, hg]
          simp only [edge_eq, Option.bind_some, decide_eq_true c1, decide_eq_true c2, not_true_eq_false, if_false, decide_false, f49_r22, f49_r22_B, Bool.false_eq_true, if_pos d1.1, if_pos d1.2, if_pos d2.1, if_pos d2.2]
          rw [if_pos c3']
      · refine Ev2.step (g := fun _ _ => some (1, ())) (fun k n => ?_) (by simp only [banF]; rw [if_neg (fun z => c2 z.2)]; exact Ev2.pure _)
        rw [f49_l4, f49_l4_B, if_pos h1, if_pos h0, if_pos h1, hg]
        simp only [edge_eq, Option.bind_some, decide_eq_true c1, decide_eq_false c2, not_true_eq_false, if_false, decide_true, f49_r22, f49_r22_B, Bool.false_eq_true, not_false_eq_true, if_true]
    · refine Ev2.step (g := fun _ _ => some (1, ())) (fun k n => ?_) (by simp only [banF]; rw [if_neg (fun z => c1 z.1)]; exact Ev2.pure _)
      rw [f49_l4, f49_l4_B, if_pos h1, if_pos h0, if_pos h1, hg]
      simp only [edge_eq, Option.bind_some, decide_eq_false c1, Bool.false_eq_true, not_false_eq_true, if_true, f49_r22, f49_r22_B]
theorem chk_edges (N : List Pt) (E : List Ed) (B : List Pt) (hE : E.length ≤ 600) {res : Int × Unit} (hB : Ev (fun k => f49_l4 k k N E B (B.length : Int) 0) res) : ∀ (l pre : List Ed), pre ++ l = E →
    Ev2 (fun k n => f49_l2 k n N E B (E.length : Int) (pre.length : Int)) (if edF N.length l = 0 then res else (edF N.length l, ()))
  | [], pre, hpl => by
    subst hpl
    exact Ev2.step (fun k n => by rw [f49_l2, f49_l2_B, if_neg (by simp)]) (by simpa [edF] using hB.two)
  | e :: l, pre, hpl => by
    have ih := chk_edges N E B hE hB l (pre ++ [e]) (by simp [← hpl])
    have h0 : (0 : Int) ≤ (pre.length : Int) := by omega
    have h1 : (pre.length : Int) < (E.length : Int) := by rw [← hpl]; simp; omega
    have hg : E.getD ((pre.length : Int)).toNat (0, (0, (0, 0))) = e := by rw [← hpl]; exact getD_mid
    have hw : w64 ((pre.length : Int) + 1) = (((pre ++ [e]).length : Nat) : Int) := by
      rw [w64_id (by omega) (by omega)]; simp
    have opn : ∀ k n, f49_l2 k (n + 1) N E B (E.length : Int) (pre.length : Int) = if badE N.length e then some (1, ()) else if e.1 = e.2.1 then some (11, ()) else f49_l2 k n N E B (E.length : Int) (((pre ++ [e]).length : Nat) : Int) := fun k n => by
      rw [f49_l2, f49_l2_B, if_pos h1, if_pos h0, if_pos h1, hg]
      simp only [node_eq, Option.bind_some, f49_r14, f49_r14_B, hw]
      unfold badE
      by_cases c1 : inR e.1 N.length <;> by_cases c2 : inR e.2.1 N.length <;> by_cases c3 : e.2.2.1 < 0 <;> by_cases c4 : 1099511627776 < e.2.2.1 <;> simp [c1, c2, c3, c4]
    refine Ev2.step opn ?_
    simp only [edF]
    by_cases c1 : badE N.length e
    · simp only [if_pos c1]; exact Ev2.pure _
    · simp only [if_neg c1]
      by_cases c2 : e.1 = e.2.1
      · simp only [if_pos c2]; exact Ev2.pure _
      · simp only [if_neg c2]; exact ih
theorem chk_nodes (N : List Pt) (E : List Ed) (B : List Pt) (hN : N.length ≤ 200) {res : Int × Unit} (hE : Ev (fun k => f49_l2 k k N E B (E.length : Int) 0) res) : ∀ (l pre : List Pt), pre ++ l = N →
    Ev2 (fun k n => f49_l0 k n N E B (N.length : Int) (pre.length : Int)) (if nodF pre l = 0 then res else (nodF pre l, ()))
  | [], pre, hpl => by
    subst hpl
    exact Ev2.step (fun k n => by rw [f49_l0, f49_l0_B, if_neg (by simp)]) (by simpa [nodF] using hE.two)
  | p :: l, pre, hpl => by
    have ih := chk_nodes N E B hN hE l (pre ++ [p]) (by simp [← hpl])
    have h0 : (0 : Int) ≤ (pre.length : Int) := by omega
    have h1 : (pre.length : Int) < (N.length : Int) := by rw [← hpl]; simp; omega
    have h1' : (pre.length : Int) ≤ (N.length : Int) := by omega
    have hg : N.getD ((pre.length : Int)).toNat (0, 0) = p := by rw [← hpl]; exact getD_mid
    have ht : N.take ((pre.length : Int)).toNat = pre := by rw [← hpl]; simp
    have hw : w64 ((pre.length : Int) + 1) = (((pre ++ [p]).length : Nat) : Int) := by
      rw [w64_id (by omega) (by omega)]; simp
    simp only [nodF]
    by_cases c1 : okP p
    · refine Ev2.step (g := fun k n => (f45 k pre p).bind fun r1 => if r1.1 = true then some (5, ()) else f49_l0 k n N E B (N.length : Int) (((pre ++ [p]).length : Nat) : Int)) (fun k n => ?_) ((conP_ev pre p (by omega)).bind2 ?_)
      · rw [f49_l0, f49_l0_B, if_pos h1, if_pos h0, if_pos h1, hg]
        simp only [ok_eq, Option.bind_some, decide_eq_true c1, not_true_eq_false, if_false, if_pos h0, if_pos h1', ht, hw]
      · simp only [if_pos c1]
        by_cases c4 : p ∈ pre
        · simp only [decide_eq_true c4, if_true, if_pos c4]; exact Ev2.pure _
        · simp only [decide_eq_false c4, Bool.false_eq_true, if_false, if_neg c4]; exact ih
    · refine Ev2.step (g := fun _ _ => some (1, ())) (fun k n => ?_) (by simp only [if_neg c1]; exact Ev2.pure _)
      rw [f49_l0, f49_l0_B, if_pos h1, if_pos h0, if_pos h1, hg]
      simp only [ok_eq, Option.bind_some, decide_eq_false c1, Bool.false_eq_true, not_false_eq_true, if_true]
theorem chk_ev (n : Nt) : Ev (fun k => f49 k n) (netF n, ()) := by
  obtain ⟨N, E, B⟩ := n
  unfold netF
  simp only [f49, f49_entry_B, f49_r1, f49_r1_B]
  by_cases h1 : 200 < (N.length : Int)
  · rw [if_pos (.inl h1)]; exact Ev.of (fun k => by rw [if_pos h1]; rfl) (Ev.pure _)
  · by_cases h2 : 600 < (E.length : Int)
    · rw [if_pos (.inr (.inl h2))]; exact Ev.of (fun k => by rw [if_neg h1, if_pos h2]; rfl) (Ev.pure _)
    · by_cases h3 : 600 < (B.length : Int)
      · rw [if_pos (.inr (.inr h3))]; exact Ev.of (fun k => by rw [if_neg h1, if_neg h2, decide_eq_true h3]; rfl) (Ev.pure _)
      · rw [if_neg (by omega)]
        have kB := (chk_bans N E B (by omega) B [] rfl).diag
        have kE := (chk_edges N E B (by omega) kB E [] rfl).diag
        have kN := (chk_nodes N E B (by omega) kE N [] rfl).diag
        have e : (if nodF [] N = 0 then (if edF N.length E = 0 then (banF E [] B, ()) else (edF N.length E, ())) else (nodF [] N, ()) : Int × Unit) = (if nodF [] N = 0 then (if edF N.length E = 0 then banF E [] B else edF N.length E) else nodF [] N, ()) := by
          repeat' split
          all_goals rfl
        rw [e] at kN
        exact Ev.of (fun k => by rw [if_neg h1, if_neg h2, decide_eq_false h3]; rfl) kN
end Go.Proofs.Ytoebjlimpnmaoaa.Rw

namespace Go.Proofs.Ytoebjlimpnmaoaa.Rw
open Go.Rx
set_option linter.unusedVariables false
set_option linter.unusedSimpArgs false
def outL (u : Int) : Nat → List Ed → List Int
  | _, [] => []
  | i, e :: l => if e.1 = u then (i : Int) :: outL u (i + 1) l else outL u (i + 1) l
theorem outL_len (u : Int) : ∀ (l : List Ed) (i : Nat), (outL u i l).length ≤ l.length
  | [], i => by simp [outL]
  | e :: l, i => by
    have := outL_len u l (i + 1)
    simp only [outL]
    split <;> simp <;> omega
theorem outL_mem (u : Int) : ∀ (l : List Ed) (i : Nat) (k : Int), k ∈ outL u i l ↔ (i : Int) ≤ k ∧ k < (i : Int) + (l.length : Int) ∧ (l.getD (k - i).toNat zE).1 = u
  | [], i, k => by simp only [outL, List.length_nil]; exact ⟨fun h => (by cases h), fun ⟨h1, h2, _⟩ => (by omega)⟩
  | e :: l, i, k => by
    have ih := outL_mem u l (i + 1) k
    have key : (i : Int) + 1 ≤ k → (e :: l).getD (k - i).toNat zE = l.getD (k - ((i + 1 : Nat) : Int)).toNat zE := fun h => by
      rw [show (k - (i : Int)).toNat = (k - ((i + 1 : Nat) : Int)).toNat + 1 by omega]; rfl
    have h0 : (e :: l).getD ((i : Int) - i).toNat zE = e := by rw [show ((i : Int) - i).toNat = 0 by omega]; rfl
    have hlen : ((e :: l).length : Int) = (l.length : Int) + 1 := by simp
    simp only [outL]
    split
    · rename_i c
      simp only [List.mem_cons, ih]
      constructor
      · rintro (rfl | ⟨h1, h2, h3⟩)
        · exact ⟨by omega, by omega, by rw [h0]; exact c⟩
        · exact ⟨by omega, by omega, by rw [key (by omega)]; exact h3⟩
      · rintro ⟨h1, h2, h3⟩
        by_cases g : k = (i : Int)
        · exact .inl g
        · exact .inr ⟨by omega, by omega, by rw [← key (by omega)]; exact h3⟩
    · rename_i c
      rw [ih]
      constructor
      · rintro ⟨h1, h2, h3⟩
        exact ⟨by omega, by omega, by rw [key (by omega)]; exact h3⟩
      · rintro ⟨h1, h2, h3⟩
        by_cases g : k = (i : Int)
        · subst g; rw [h0] at h3; exact (c h3).elim
        · exact ⟨by omega, by omega, by rw [← key (by omega)]; exact h3⟩
theorem outE_mem {E : List Ed} {u k : Int} : k ∈ outL u 0 E ↔ inR k E.length ∧ fromE E k = u := by
  rw [outL_mem]; unfold inR fromE
  rw [show ((0 : Nat) : Int) = 0 from rfl, Int.zero_add, Int.sub_zero, and_assoc]
end Go.Proofs.Ytoebjlimpnmaoaa.Rw

namespace Go.Proofs.Ytoebjlimpnmaoaa.Rw
open Go.Rx
set_option linter.unusedVariables false
set_option linter.unusedSimpArgs false
theorem outX_loop (E : List Ed) (u : Int) (hE : E.length ≤ 600) : ∀ (l pre : List Ed) (ks : List Int), pre ++ l = E → ks.length ≤ pre.length → Ev2 (fun k n => f21_l0 k n ks u (E.length : Int) (pre.length : Int) E) (ks ++ outL u pre.length l, ())
  | [], pre, ks, hpl, hk => by
    have e : pre = E := by simpa using hpl
    subst e
    exact Ev2.step (g := fun _ _ => some (ks, ())) (fun k n => by rw [f21_l0, f21_l0_B, if_neg (by simp)]) (by simpa [outL] using Ev2.pure _)
  | e :: l, pre, ks, hpl, hk => by
    have i0 : (0 : Int) ≤ (pre.length : Int) := by omega
    have i1 : (pre.length : Int) < (E.length : Int) := by rw [← hpl]; simp; omega
    have hg : E.getD ((pre.length : Int)).toNat (0, (0, (0, 0))) = e := by rw [← hpl]; exact getD_mid
    have hw : w64 ((pre.length : Int) + 1) = (((pre ++ [e]).length : Nat) : Int) := by
      rw [w64_id (by omega) (by omega)]; simp
    have hpl' : (pre ++ [e]) ++ l = E := by simp [← hpl]
    have hlen : (pre ++ [e]).length = pre.length + 1 := by simp
    by_cases c : e.1 = u
    · have ih := outX_loop E u hE l (pre ++ [e]) (ks ++ [(pre.length : Int)]) hpl' (by simp; exact hk)
      rw [hlen] at ih
      simp only [outL, if_pos c]
      rw [show ks ++ [(pre.length : Int)] ++ outL u (pre.length + 1) l = ks ++ ((pre.length : Int) :: outL u (pre.length + 1) l) by simp] at ih
      refine Ev2.step (fun k n => ?_) ih
      rw [f21_l0, f21_l0_B, if_pos i1, if_pos i0, if_pos i1, hg, if_pos c, if_pos (by omega), f21_c6, f21_c6_B, hw, hlen]
    · have ih := outX_loop E u hE l (pre ++ [e]) ks hpl' (by simp; omega)
      rw [hlen] at ih
      simp only [outL, if_neg c]
      refine Ev2.step (fun k n => ?_) ih
      rw [f21_l0, f21_l0_B, if_pos i1, if_pos i0, if_pos i1, hg, if_neg c, f21_c6, f21_c6_B, hw, hlen]
theorem outX_ev (N : List Pt) (E : List Ed) (B : List Pt) (u : Int) (hE : E.length ≤ 600) : Ev (fun k => f21 k (N, (E, B)) u) (outL u 0 E, ()) := by
  have h := (outX_loop E u hE E [] [] rfl (by simp)).diag
  simp only [f21, f21_entry_B]
  simpa using h
end Go.Proofs.Ytoebjlimpnmaoaa.Rw

namespace Go.Proofs.Ytoebjlimpnmaoaa.Rw
open Go.Rx
set_option linter.unusedVariables false
set_option linter.unusedSimpArgs false
def turnF (E : List Ed) (B : List Pt) (a b : Int) : Bool := decide (inR a E.length ∧ inR b E.length ∧ toE E a = fromE E b ∧ (a, b) ∉ B)
theorem turn_ev (N : List Pt) (E : List Ed) (B : List Pt) (hB : B.length ≤ 1000000) (a b : Int) : Ev (fun k => f63 k (N, (E, B)) a b) (turnF E B a b, ()) := by
  simp only [f63, f63_entry_B, edge_eq, Option.bind_some, f63_r1, f63_r1_B, turnF]
  by_cases c1 : inR a E.length
  · by_cases c2 : inR b E.length
    · have d1 := c1; have d2 := c2
      unfold inR at d1 d2
      simp only [c1, c2, decide_true, if_true, if_pos d1.1, if_pos d1.2, if_pos d2.1, if_pos d2.2, true_and]
      by_cases c3 : toE E a = fromE E b
      · have c3' : (E.getD a.toNat (0, (0, (0, 0)))).2.1 = (E.getD b.toNat (0, (0, (0, 0)))).1 := c3
        simp only [if_pos c3']
        refine (conB_ev B (a, b) hB).bind ?_
        by_cases c4 : (a, b) ∈ B
        · simp only [c3, c4, decide_true, not_true_eq_false, decide_false, true_and, Bool.false_eq_true]; exact Ev.pure _
        · simp only [c3, c4, decide_false, Bool.false_eq_true, not_false_eq_true, decide_true, true_and]; exact Ev.pure _
      · have c3' : ¬ (E.getD a.toNat (0, (0, (0, 0)))).2.1 = (E.getD b.toNat (0, (0, (0, 0)))).1 := c3
        simp only [if_neg c3', c3, false_and, decide_false, Bool.false_eq_true]
        exact Ev.pure _
    · simp only [c1, c2, decide_true, decide_false, if_true, Bool.false_eq_true, if_false, false_and, and_false]
      exact Ev.pure _
  · simp only [c1, decide_false, Bool.false_eq_true, if_false, false_and]
    exact Ev.pure _
end Go.Proofs.Ytoebjlimpnmaoaa.Rw

namespace Go.Proofs.Ytoebjlimpnmaoaa.Rw
open Go.Rx
theorem _root_.Go.Rx.Ev3.stepE {α : Type} {f g : Nat → Nat → Nat → Option α} {r : α} (K : Nat) (h : ∀ k n m, K ≤ k → f k n (m + 1) = g k n m) (hg : Ev3 g r) : Ev3 f r := by
  obtain ⟨K', hK⟩ := hg
  refine ⟨max K K' + 1, fun k n m hk hn hm => ?_⟩
  cases m with
  | zero => omega
  | succ m => rw [h _ _ _ (by omega)]; exact hK k n m (by omega) (by omega) (by omega)
theorem _root_.Go.Rx.Ev2.stepE {α : Type} {f g : Nat → Nat → Option α} {r : α} (K : Nat) (h : ∀ k n, K ≤ k → f k (n + 1) = g k n) (hg : Ev2 g r) : Ev2 f r := by
  obtain ⟨K', hK⟩ := hg
  refine ⟨max K K' + 1, fun k n hk hn => ?_⟩
  cases n with
  | zero => omega
  | succ n => rw [h _ _ (by omega)]; exact hK k n (by omega) (by omega)
end Go.Proofs.Ytoebjlimpnmaoaa.Rw

namespace Go.Proofs.Ytoebjlimpnmaoaa.Rw
open Go.Rx
set_option linter.unusedVariables false
set_option linter.unusedSimpArgs false
/-- The order of rows of numbers. -/
def cmpI : List Int → List Int → Int
  | [], [] => 0
  | [], _ :: _ => -1
  | _ :: _, [] => 1
  | a :: l, b :: m => if a < b then -1 else if b < a then 1 else cmpI l m
theorem cmp1 (k : Nat) (a b : Int) : f111 k a b = some (if a < b then -1 else if b < a then 1 else 0, ()) := by
  simp only [f111, f111_entry_B, f118, f118_entry_B]
  by_cases h1 : a < b <;> by_cases h2 : b < a <;> simp [h1, h2]
theorem cmp_loop : ∀ (l m p q : List Int), p.length = q.length → ((p ++ l).length : Int) ≤ 1073741824 → Ev2 (fun k n => f81_l0 k n (p ++ l) (q ++ m) ((p ++ l).length : Int) (p.length : Int)) (cmpI l m, ())
  | [], m, p, q, hpq, hl => Ev2.step (g := fun _ _ => some (cmpI [] m, ())) (fun k n => by
      rw [f81_l0, f81_l0_B, if_neg (by simp)]
      cases m with
      | nil => rw [if_neg (by simp; omega)]; rfl
      | cons b m => rw [if_pos (by simp; omega)]; rfl) (Ev2.pure _)
  | a :: l, m, p, q, hpq, hl => by
    have h0 : (p.length : Int) < ((p ++ a :: l).length : Int) := by simp; omega
    have h1 : (0 : Int) ≤ p.length := by omega
    have hw : w64 ((p.length : Int) + 1) = (((p ++ [a]).length : Nat) : Int) := by
      rw [w64_id (by omega) (by simp at hl; omega)]; simp
    cases m with
    | nil =>
      refine Ev2.step (g := fun _ _ => some (1, ())) (fun k n => ?_) (Ev2.pure _)
      rw [f81_l0, f81_l0_B, if_pos h0, if_pos h1, if_pos h0, if_pos (by simp; omega)]
    | cons b m =>
      have h2 : ¬ ((q ++ b :: m).length : Int) ≤ (p.length : Int) := by simp; omega
      have h3 : (p.length : Int) < ((q ++ b :: m).length : Int) := by simp; omega
      have h4 : (q ++ b :: m).getD ((p.length : Int)).toNat 0 = b := by rw [hpq]; exact getD_mid
      refine Ev2.step (g := fun k n => if a < b then some (-1, ()) else if b < a then some (1, ()) else f81_l0 k n (p ++ a :: l) (q ++ b :: m) ((p ++ a :: l).length : Int) (((p ++ [a]).length : Nat) : Int)) (fun k n => ?_) ?_
      · rw [f81_l0, f81_l0_B, if_pos h0, if_pos h1, if_pos h0, if_neg h2, if_pos h1, if_pos h3, getD_mid, h4, cmp1]
        simp only [Option.bind_some, hw]
        by_cases g1 : a < b
        · simp [g1]
        · by_cases g2 : b < a <;> simp [g1, g2]
      · simp only [cmpI]
        split
        · exact Ev2.pure _
        · split
          · exact Ev2.pure _
          · have := cmp_loop l m (p ++ [a]) (q ++ [b]) (by simp; omega) (by simpa using hl)
            rw [show p ++ [a] ++ l = p ++ a :: l by simp, show q ++ [b] ++ m = q ++ b :: m by simp] at this
            exact this
theorem cmp_ev (l m : List Int) (hl : (l.length : Int) ≤ 1073741824) : Ev (fun k => f81 k l m) (cmpI l m, ()) := by
  simp only [f81, f81_entry_B]
  simpa using (cmp_loop l m [] [] rfl (by simpa using hl)).diag
end Go.Proofs.Ytoebjlimpnmaoaa.Rw

namespace Go.Proofs.Ytoebjlimpnmaoaa.Rw
open Go.Rx
set_option linter.unusedVariables false
set_option linter.unusedSimpArgs false
theorem mask32 (n : Nat) (h : n < 4294967296) : bitI .and .u64 (n : Int) 4294967295 = (n : Int) := by
  have h1 : (BitVec.ofInt 64 (n : Int)).toNat = n := by
    rw [BitVec.ofInt_natCast, BitVec.toNat_ofNat]; exact Nat.mod_eq_of_lt (by omega)
  have h2 : (BitVec.ofInt 64 (4294967295 : Int)).toNat = 4294967295 := by rfl
  have e : n &&& 4294967295 = n % 4294967296 := Nat.and_two_pow_sub_one_eq_mod n 32
  have h3 : n &&& 4294967295 = n := by rw [e]; omega
  show IntKind.u64.wrap (((BitVec.ofInt 64 (n : Int) &&& BitVec.ofInt 64 (4294967295 : Int)).toNat : Nat) : Int) = n
  rw [BitVec.toNat_and, h1, h2, h3]
  simp [IntKind.wrap, IntKind.bits, IntKind.signed]
  omega
theorem u64_id {n : Int} (h0 : 0 ≤ n) (h1 : n < 18446744073709551616) : IntKind.u64.wrap n = n := by
  simp [IntKind.wrap, IntKind.bits, IntKind.signed]
  omega
theorem mul1 (k : Nat) (n : Nat) (h : n < 4294967296) : f107 k 1 (n : Int) = some (0, (n : Int), ()) := by
  have e1 : (1 : Int).fdiv (2 ^ min (32 : Int).toNat (IntKind.bits .u64)) = 0 := rfl
  have e2 : (n : Int).fdiv (2 ^ min (32 : Int).toNat (IntKind.bits .u64)) = 0 := by
    have : (2 : Int) ^ min (32 : Int).toNat (IntKind.bits .u64) = 4294967296 := rfl
    rw [this, Int.fdiv_eq_ediv_of_nonneg _ (by omega)]; omega
  have e3 : bitI .and .u64 1 4294967295 = 1 := mask32 1 (by omega)
  have e4 : bitI .and .u64 0 4294967295 = 0 := mask32 0 (by omega)
  have e5 : IntKind.u64.wrap (n : Int) = n := u64_id (by omega) (by omega)
  have e6 : IntKind.u64.wrap 0 = 0 := rfl
  have e7 : (0 : Int).fdiv (2 ^ min (32 : Int).toNat (IntKind.bits .u64)) = 0 := rfl
  simp only [f107, f107_entry_B, e1, e2, e3, mask32 n h, Int.zero_mul, Int.mul_zero, Int.one_mul, e6, e5, Int.zero_add, Int.add_zero, e7, e4]
theorem rep_loop (x : Int) (N : Nat) (hN : N ≤ 1073741824) : ∀ (d c : Nat) (y : List Int), N ≤ c + d → c ≤ N → (1 ≤ c ∨ N = 0) → y.length = N → (∀ q, q < c → y[q]? = some x) →
    Ev2 (fun k n => f54_l0 k n y (c : Int)) (List.replicate N x, ())
  | 0, c, y, hd, hc, h1, hl, hy => by
    refine Ev2.step (g := fun _ _ => some (y, ())) (fun k n => by rw [f54_l0, f54_l0_B, if_neg (by omega)]) ?_
    have : y = List.replicate N x := by
      apply List.ext_getElem?
      intro q
      rw [List.getElem?_replicate]
      by_cases hq : q < N
      · rw [if_pos hq]; exact hy q (by omega)
      · rw [if_neg hq, List.getElem?_eq_none (by omega)]
    rw [this]; exact Ev2.pure _
  | d + 1, c, y, hd, hc, h1, hl, hy => by
    by_cases hcN : c = N
    · subst hcN
      have := rep_loop x c hN 0 c y (by omega) hc h1 hl hy
      exact this
    · have hlt : (c : Int) < (y.length : Int) := by omega
      have hle : (c : Int) ≤ (y.length : Int) := by omega
      have h0 : (0 : Int) ≤ (c : Int) := by omega
      have hm : (List.take ((c : Int).toNat - (0 : Int).toNat) (List.drop ((0 : Int).toNat) y)).length = c := by simp; omega
      have hw : w64 ((c : Int) + ((min ((y.length : Int).toNat - (c : Int).toNat) (List.take ((c : Int).toNat - (0 : Int).toNat) (List.drop ((0 : Int).toNat) y)).length : Nat) : Int)) = ((c + min (N - c) c : Nat) : Int) := by
        rw [hm, w64_id (by omega) (by simp [hl]; omega)]; simp [hl]
      have hcl : (copyL y (List.take ((c : Int).toNat - (0 : Int).toNat) (List.drop ((0 : Int).toNat) y)) (c : Int).toNat ((y.length : Int).toNat - (c : Int).toNat)) = copyL y (y.take c) c (N - c) := by simp [hl]
      have hfit : c + (N - c) ≤ y.length := by omega
      have ht : (y.take c).length = c := by simp; omega
      refine Ev2.step (fun k n => ?_) (rep_loop x N hN d (c + min (N - c) c) (copyL y (y.take c) c (N - c)) (by omega) (by omega) (by omega) (by rw [copyL_len hfit]; exact hl) (fun q hq => ?_))
      · rw [f54_l0, f54_l0_B, if_pos hlt, if_pos h0, if_pos hle, if_pos h0, if_pos hle, hw, hcl]
      · rw [copyL_get hfit, ht]
        by_cases g : q < c
        · rw [if_pos g]; exact hy q g
        · rw [if_neg g, if_pos hq, List.getElem?_take, if_pos (by omega)]
          exact hy _ (by omega)
theorem repeat_ev (x : Int) (N : Nat) (hN : N ≤ 1073741824) : Ev (fun k => f54 k [x] (N : Int)) (List.replicate N x, ()) := by
  have hw : w64 (N : Int) = N := w64_id (by omega) (by omega)
  have hu : IntKind.u64.wrap (N : Int) = N := u64_id (by omega) (by omega)
  have hu1 : IntKind.u64.wrap ((([x] : List Int).length : Nat) : Int) = 1 := rfl
  have hl : (List.replicate N (0 : Int)).length = N := by simp
  have hfit : 0 + N ≤ (List.replicate N (0 : Int)).length := by simp
  have h := (rep_loop x N hN N (min N 1) (copyL (List.replicate N (0 : Int)) [x] 0 N) (by omega) (by omega) (by omega) (by rw [copyL_len hfit, hl]) (fun q hq => by
    rw [copyL_get hfit, if_neg (by omega), if_pos (by simp; omega)]
    have : q = 0 := by omega
    subst this; rfl)).diag
  refine Ev.of (fun k => ?_) h
  simp only [f54, f54_entry_B, f54_c2, f54_c2_B, f77, f77_entry_B, hu, hu1, mul1 k N (by omega), Option.bind_some, f54_r4, f54_r4_B, f54_c5, f54_c5_B, hw]
  rw [if_neg (by omega), if_neg (by omega), decide_eq_false (by omega), if_neg (by simp), if_pos (by omega), if_pos (by omega)]
  simp
end Go.Proofs.Ytoebjlimpnmaoaa.Rw

namespace Go.Proofs.Ytoebjlimpnmaoaa.Rw
open Go.Rx
set_option linter.unusedVariables false
set_option linter.unusedSimpArgs false
theorem cmpI_range : ∀ (a b : List Int), cmpI a b = -1 ∨ cmpI a b = 0 ∨ cmpI a b = 1
  | [], [] => .inr (.inl rfl)
  | [], _ :: _ => .inl rfl
  | _ :: _, [] => .inr (.inr rfl)
  | a :: l, b :: m => by
    simp only [cmpI]
    split
    · exact .inl rfl
    · split
      · exact .inr (.inr rfl)
      · exact cmpI_range l m
theorem cmpI_self : ∀ (a : List Int), cmpI a a = 0
  | [] => rfl
  | a :: l => by simp only [cmpI, if_neg (Int.lt_irrefl a)]; exact cmpI_self l
theorem cmpI_eq : ∀ {a b : List Int}, cmpI a b = 0 → a = b
  | [], [], _ => rfl
  | [], _ :: _, h => by simp [cmpI] at h
  | _ :: _, [], h => by simp [cmpI] at h
  | a :: l, b :: m, h => by
    simp only [cmpI] at h
    split at h
    · cases h
    · split at h
      · cases h
      · rw [cmpI_eq h, show a = b by omega]
theorem cmpI_flip : ∀ (a b : List Int), cmpI b a = - cmpI a b
  | [], [] => rfl
  | [], _ :: _ => rfl
  | _ :: _, [] => rfl
  | a :: l, b :: m => by
    simp only [cmpI]
    have ih := cmpI_flip l m
    by_cases h1 : a < b
    · have h2 : ¬ b < a := by omega
      simp [h1, h2]
    · by_cases h2 : b < a
      · simp [h1, h2]
      · simp [h1, h2, ih]
theorem cmpI_trans : ∀ {a b c : List Int}, cmpI a b ≤ 0 → cmpI b c ≤ 0 → cmpI a c ≤ 0
  | [], [], c, _, h => h
  | [], _ :: _, [], _, _ => by simp [cmpI]
  | [], _ :: _, _ :: _, _, _ => by simp [cmpI]
  | _ :: _, [], _, h, _ => by simp [cmpI] at h
  | _ :: _, _ :: _, [], _, h => by simp [cmpI] at h
  | a :: l, b :: m, c :: n, h, k => by
    simp only [cmpI] at h k ⊢
    by_cases h1 : a < c
    · rw [if_pos h1]; decide
    · rw [if_neg h1]
      split at h
      · split at k
        · omega
        · split at k
          · omega
          · omega
      · split at h
        · omega
        · split at k
          · omega
          · split at k
            · omega
            · rw [if_neg (by omega)]; exact cmpI_trans h k
theorem cmpI_app : ∀ {a b : List Int} (l m : List Int), a.length = b.length → cmpI (a ++ l) (b ++ m) = if cmpI a b = 0 then cmpI l m else cmpI a b
  | [], [], l, m, _ => by simp [cmpI]
  | [], _ :: _, _, _, h => by simp at h
  | _ :: _, [], _, _, h => by simp at h
  | a :: l', b :: m', l, m, h => by
    simp only [List.cons_append, cmpI]
    have ih := cmpI_app l m (show l'.length = m'.length by simpa using h)
    by_cases h1 : a < b
    · simp [h1]
    · by_cases h2 : b < a
      · simp [h1, h2]
      · simp [h1, h2, ih]
/-- The cost of a way. -/
def cW (E : List Ed) : List Int → Int
  | [] => 0
  | q :: w => costE E q + cW E w
theorem cW_app (E : List Ed) : ∀ (w v : List Int), cW E (w ++ v) = cW E w + cW E v
  | [], v => by simp [cW]
  | q :: w, v => by simp only [List.cons_append, cW]; rw [cW_app E w v]; omega
theorem cW_one (E : List Ed) (q : Int) : cW E [q] = costE E q := by simp [cW]
/-- A way is not behind another one. -/
def wle (E : List Ed) (a b : List Int) : Prop := cW E a < cW E b ∨ (cW E a = cW E b ∧ (a.length < b.length ∨ (a.length = b.length ∧ cmpI a b ≤ 0)))
instance (E : List Ed) (a b : List Int) : Decidable (wle E a b) := by unfold wle; infer_instance
theorem wle_refl (E : List Ed) (a : List Int) : wle E a a := .inr ⟨rfl, .inr ⟨rfl, by rw [cmpI_self]; decide⟩⟩
theorem wle_trans {E : List Ed} {a b c : List Int} (h : wle E a b) (k : wle E b c) : wle E a c := by
  unfold wle at *
  rcases h with h | ⟨h1, h | ⟨h2, h3⟩⟩
  · rcases k with k | ⟨k1, _⟩
    · exact .inl (by omega)
    · exact .inl (by omega)
  · rcases k with k | ⟨k1, k | ⟨k2, k3⟩⟩
    · exact .inl (by omega)
    · exact .inr ⟨by omega, .inl (by omega)⟩
    · exact .inr ⟨by omega, .inl (by omega)⟩
  · rcases k with k | ⟨k1, k | ⟨k2, k3⟩⟩
    · exact .inl (by omega)
    · exact .inr ⟨by omega, .inl (by omega)⟩
    · exact .inr ⟨by omega, .inr ⟨by omega, cmpI_trans h3 k3⟩⟩
theorem wle_total (E : List Ed) (a b : List Int) : wle E a b ∨ wle E b a := by
  unfold wle
  have := cmpI_flip a b
  have := cmpI_range a b
  omega
theorem wle_anti {E : List Ed} {a b : List Int} (h : wle E a b) (k : wle E b a) : a = b := by
  unfold wle at *
  have h1 := cmpI_flip a b
  have h2 := cmpI_range a b
  exact cmpI_eq (by omega)
theorem wle_cost {E : List Ed} {a b : List Int} (h : wle E a b) : cW E a ≤ cW E b := by unfold wle at h; omega
theorem wle_snoc {E : List Ed} {a b : List Int} (h : wle E a b) (k : Int) : wle E (a ++ [k]) (b ++ [k]) := by
  unfold wle at *
  rw [cW_app, cW_app]
  simp only [List.length_append, List.length_cons, List.length_nil]
  rcases h with h | ⟨h1, h | ⟨h2, h3⟩⟩
  · exact .inl (by omega)
  · exact .inr ⟨by omega, .inl (by omega)⟩
  · refine .inr ⟨by omega, .inr ⟨by omega, ?_⟩⟩
    rw [cmpI_app [k] [k] h2]
    split
    · rw [cmpI_self]; decide
    · exact h3
theorem wle_ext {E : List Ed} (a : List Int) {k : Int} (hk : 0 ≤ costE E k) : wle E a (a ++ [k]) := by
  unfold wle
  rw [cW_app, cW_one]
  simp only [List.length_append, List.length_cons, List.length_nil]
  omega
/-- A way from a node that ends with an edge. -/
inductive Wy (E : List Ed) (B : List Pt) (s : Int) : List Int → Int → Prop where
  | one (k : Int) : inR k E.length → fromE E k = s → Wy E B s [k] k
  | snoc (w : List Int) (j k : Int) : Wy E B s w j → inR k E.length → toE E j = fromE E k → (j, k) ∉ B → Wy E B s (w ++ [k]) k
theorem Wy.inR {E : List Ed} {B : List Pt} {s : Int} {w : List Int} {k : Int} (h : Wy E B s w k) : inR k E.length := by
  cases h with
  | one _ h _ => exact h
  | snoc _ _ _ _ h _ _ => exact h
theorem Wy.mem {E : List Ed} {B : List Pt} {s : Int} {w : List Int} {k : Int} (h : Wy E B s w k) : ∀ x ∈ w, Rw.inR x E.length := by
  induction h with
  | one k h1 h2 => intro x hx; simp only [List.mem_singleton] at hx; subst hx; exact h1
  | snoc w j k hw h1 h2 h3 ih =>
    intro x hx
    simp only [List.mem_append, List.mem_singleton] at hx
    rcases hx with hx | rfl
    · exact ih x hx
    · exact h1
theorem Wy.cost {E : List Ed} {B : List Pt} {s : Int} (hc : ∀ k, Rw.inR k E.length → 0 ≤ costE E k) {w : List Int} {k : Int} (h : Wy E B s w k) : 0 ≤ cW E w := by
  induction h with
  | one k h1 h2 => rw [cW_one]; exact hc k h1
  | snoc w j k hw h1 h2 h3 ih => rw [cW_app, cW_one]; have := hc k h1; omega
/-- The first ways, one for each edge; none: there is no way. -/
structure Opt (E : List Ed) (B : List Pt) (s : Int) (W : List (List Int)) : Prop where
  len : W.length = E.length
  no : ∀ i, i < E.length → W.getD i [] = [] → ∀ w, ¬ Wy E B s w (i : Int)
  yes : ∀ i, i < E.length → W.getD i [] ≠ [] → Wy E B s (W.getD i []) (i : Int) ∧ ∀ w, Wy E B s w (i : Int) → wle E (W.getD i []) w
  sz : ∀ i, i < E.length → W.getD i [] ≠ [] → (W.getD i []).length ≤ E.length
theorem Opt.one {E : List Ed} {B : List Pt} {s : Int} {W V : List (List Int)} (h : Opt E B s W) (k : Opt E B s V) : W = V := by
  refine List.ext_getElem (by rw [h.len, k.len]) fun i h1 h2 => ?_
  have hi : i < E.length := by rw [← h.len]; exact h1
  have e1 : W.getD i [] = W[i] := by rw [List.getD_eq_getElem?_getD, List.getElem?_eq_getElem h1]; rfl
  have e2 : V.getD i [] = V[i] := by rw [List.getD_eq_getElem?_getD, List.getElem?_eq_getElem h2]; rfl
  rw [← e1, ← e2]
  by_cases c1 : W.getD i [] = []
  · by_cases c2 : V.getD i [] = []
    · rw [c1, c2]
    · exact (h.no i hi c1 _ (k.yes i hi c2).1).elim
  · by_cases c2 : V.getD i [] = []
    · exact (k.no i hi c2 _ (h.yes i hi c1).1).elim
    · exact wle_anti ((h.yes i hi c1).2 _ (k.yes i hi c2).1) ((k.yes i hi c2).2 _ (h.yes i hi c1).1)
/-- Numbers below a bound, none twice, are not more than the bound. -/
theorem nodup_len : ∀ (n : Nat) {w : List Int}, w.Nodup → (∀ x ∈ w, 0 ≤ x ∧ x < (n : Int)) → w.length ≤ n
  | 0, w, _, h => by
    cases w with
    | nil => simp
    | cons x w => have := h x (List.mem_cons_self ..); omega
  | n + 1, w, hn, h => by
    have h1 := nodup_len n (w := w.erase (n : Int)) (hn.erase _) (fun x hx => by
      have hx' := (List.Nodup.mem_erase_iff hn).1 hx
      have := h x hx'.2
      have : x ≠ (n : Int) := hx'.1
      omega)
    by_cases c : (n : Int) ∈ w
    · rw [List.length_erase_of_mem c] at h1; omega
    · rw [List.erase_of_not_mem c] at h1; omega
theorem cW_le {E : List Ed} {M : Int} (h0 : 0 ≤ M) (hc : ∀ k, Rw.inR k E.length → costE E k ≤ M) : ∀ (w : List Int), (∀ x ∈ w, Rw.inR x E.length) → cW E w ≤ M * (w.length : Int)
  | [], _ => by simp [cW]
  | q :: w, h => by
    have h1 := cW_le h0 hc w (fun x hx => h x (List.mem_cons_of_mem _ hx))
    have h2 := hc q (h q (List.mem_cons_self ..))
    simp only [cW, List.length_cons]
    rw [show ((w.length + 1 : Nat) : Int) = (w.length : Int) + 1 by omega, Int.mul_add]
    omega
end Go.Proofs.Ytoebjlimpnmaoaa.Rw

namespace Go.Proofs.Ytoebjlimpnmaoaa.Rw
open Go.Rx
set_option linter.unusedVariables false
set_option linter.unusedSimpArgs false
theorem rev_loop : ∀ (d : Nat) (m P Q : List Int), m.length = d → P.length = Q.length → ((P ++ m ++ Q).length : Int) ≤ 1073741824 →
    Ev2 (fun k n => f84_l0 k n (P ++ m ++ Q) (P.length : Int) ((P.length : Int) + (m.length : Int) - 1)) ((P ++ m.reverse ++ Q, ()), ()) := by
  intro d
  induction d using Nat.strongRecOn with
  | ind d ih =>
    intro m P Q hm hPQ hl
    cases m with
    | nil =>
      refine Ev2.step (g := fun _ _ => some ((P ++ [] ++ Q, ()), ())) (fun k n => ?_) (by simpa using Ev2.pure _)
      rw [f84_l0, f84_l0_B, if_neg (by simp; omega)]
    | cons a t =>
      rcases List.eq_nil_or_concat t with rfl | ⟨m', b, rfl⟩
      · refine Ev2.step (g := fun _ _ => some ((P ++ [a] ++ Q, ()), ())) (fun k n => ?_) (by simpa using Ev2.pure _)
        rw [f84_l0, f84_l0_B, if_neg (by simp)]
      · rw [List.concat_eq_append] at *
        have hlen : (P ++ (a :: (m' ++ [b])) ++ Q).length = P.length + (m'.length + 2) + Q.length := by simp; omega
        have hl2 : ((a :: (m' ++ [b])).length : Int) = (m'.length : Int) + 2 := by simp; omega
        rw [hlen] at hl
        have i2 : (0 : Int) ≤ (P.length : Int) := by omega
        have e3 : ((P.length : Int) + ((a :: (m' ++ [b])).length : Int) - 1) = ((P.length + m'.length + 1 : Nat) : Int) := by rw [hl2]; omega
        have g3 : (P ++ (a :: (m' ++ [b])) ++ Q).getD ((P.length + m'.length + 1 : Nat) : Int).toNat 0 = b := by
          rw [Int.toNat_natCast, show P ++ (a :: (m' ++ [b])) ++ Q = (P ++ a :: m') ++ b :: Q by simp, List.getD_eq_getElem?_getD, List.getElem?_append_right (by simp; omega)]
          rw [show P.length + m'.length + 1 - (P ++ a :: m').length = 0 by simp; omega]; rfl
        have g2 : (P ++ (a :: (m' ++ [b])) ++ Q).getD ((P.length : Int)).toNat 0 = a := by
          rw [show P ++ (a :: (m' ++ [b])) ++ Q = P ++ a :: (m' ++ [b] ++ Q) by simp]; exact getD_mid
        have hs : ((P ++ (a :: (m' ++ [b])) ++ Q).set ((P.length : Int)).toNat b).set ((P.length + m'.length + 1 : Nat) : Int).toNat a = (P ++ [b]) ++ m' ++ (a :: Q) := by
          rw [Int.toNat_natCast, Int.toNat_natCast]
          have e1 : (P ++ (a :: (m' ++ [b])) ++ Q).set P.length b = (P ++ b :: m') ++ b :: Q := by
            rw [show P ++ (a :: (m' ++ [b])) ++ Q = P ++ a :: (m' ++ [b] ++ Q) by simp, List.set_append_right _ _ (by omega), Nat.sub_self]
            simp
          rw [e1, List.set_append_right _ _ (by simp; omega), show P.length + m'.length + 1 - (P ++ b :: m').length = 0 by simp; omega]
          simp
        have := ih m'.length (by simp at hm; omega) m' (P ++ [b]) (a :: Q) rfl (by simp; omega) (by simp at hl ⊢; omega)
        rw [show (P ++ [b] ++ m'.reverse ++ (a :: Q)) = P ++ (a :: (m' ++ [b])).reverse ++ Q by simp] at this
        refine Ev2.step (fun k n => ?_) this
        rw [f84_l0, f84_l0_B, e3, if_pos (by omega), if_pos (by omega), if_pos (by rw [hlen]; omega), if_pos i2, if_pos (by rw [hlen]; omega), if_pos i2, if_pos (by rw [hlen]; omega), if_pos (by omega), if_pos (by rw [List.length_set, hlen]; omega), g3, g2, hs,
          w64_id (by omega) (by omega), w64_id (by omega) (by omega)]
        have e4 : (P.length : Int) + 1 = ((P ++ [b]).length : Int) := by simp
        have e5 : ((P.length + m'.length + 1 : Nat) : Int) - 1 = ((P ++ [b]).length : Int) + (m'.length : Int) - 1 := by simp; omega
        rw [e4, e5]
theorem rev_ev (l : List Int) (hl : (l.length : Int) ≤ 1073741824) : Ev (fun k => f84 k l) ((l.reverse, ()), ()) := by
  have h := (rev_loop l.length l [] [] rfl rfl (by simpa using hl)).diag
  simp only [f84, f84_entry_B]
  rw [w64_id (by omega) (by omega)]
  simpa using h
abbrev Lb := Int × (Int × (Int × (Bool × Bool)))
def zL : Lb := (0, (0, (0, (false, false))))
def knL (l : List Lb) (i : Nat) : Bool := (l.getD i zL).2.2.2.1
def dnL (l : List Lb) (i : Nat) : Bool := (l.getD i zL).2.2.2.2
/-- What the labels say: for each edge the best way known, or none. -/
structure Lab (E : List Ed) (B : List Pt) (s : Int) (l : List Lb) (W : List (List Int)) : Prop where
  l1 : l.length = E.length
  l2 : W.length = E.length
  un : ∀ i, i < E.length → W.getD i [] = [] → knL l i = false ∧ dnL l i = false
  kn : ∀ i, i < E.length → W.getD i [] ≠ [] → knL l i = true ∧ (l.getD i zL).1 = cW E (W.getD i []) ∧ (l.getD i zL).2.1 = ((W.getD i []).length : Int) ∧ Wy E B s (W.getD i []) (i : Int) ∧ (W.getD i []).Nodup
  pv : ∀ i, i < E.length → W.getD i [] ≠ [] → (W.getD i [] = [(i : Int)] ∧ (l.getD i zL).2.2.1 = -1) ∨ ∃ j : Nat, j < E.length ∧ (l.getD i zL).2.2.1 = (j : Int) ∧ dnL l j = true ∧ W.getD j [] ≠ [] ∧ W.getD i [] = W.getD j [] ++ [(i : Int)]
  pd : ∀ i, i < E.length → ∀ x ∈ W.getD i [], x = (i : Int) ∨ dnL l x.toNat = true
theorem Lab.size {E : List Ed} {B : List Pt} {s : Int} {l : List Lb} {W : List (List Int)} (h : Lab E B s l W) {i : Nat} (hi : i < E.length) (hw : W.getD i [] ≠ []) : (W.getD i []).length ≤ E.length :=
  nodup_len E.length (h.kn i hi hw).2.2.2.2 (fun x hx => (h.kn i hi hw).2.2.2.1.mem x hx)
theorem way_loop {N B : List Pt} {E : List Ed} {s : Int} {l : List Lb} {W nx : List (List Int)} (hE : E.length ≤ 600) (h : Lab E B s l W) : ∀ (m i : Nat) (y : List Int), i < E.length → W.getD i [] ≠ [] → (W.getD i []).length = m → y.length + m ≤ 1000 →
    Ev2 (fun k n => f61_l0 k n y ((N, (E, B)), (l, nx)) (i : Int)) ((y ++ (W.getD i []).reverse).reverse, ()) := by
  intro m
  induction m using Nat.strongRecOn with
  | ind m ih =>
    intro i y hi hw hm hy
    have i0 : (0 : Int) ≤ (i : Int) := by omega
    have i1 : (i : Int) < (l.length : Int) := by rw [h.l1]; omega
    have step : ∀ k n, f61_l0 k (n + 1) y ((N, (E, B)), (l, nx)) (i : Int) = f61_l0 k n (y ++ [(i : Int)]) ((N, (E, B)), (l, nx)) (l.getD i zL).2.2.1 := fun k n => by
      rw [f61_l0, f61_l0_B, if_pos i0, if_pos (by omega), if_pos i0, if_pos i1]
      rfl
    refine Ev2.step step ?_
    rcases h.pv i hi hw with ⟨e1, e2⟩ | ⟨j, j1, j2, j3, j4, j5⟩
    · rw [e2, e1]
      have hr := rev_ev (y ++ [(i : Int)]) (by simp; omega)
      refine Ev2.step (g := fun k _ => (f84 k (y ++ [(i : Int)])).bind fun r1 => some (r1.1.1, ())) (fun k n => by
        rw [f61_l0, f61_l0_B, if_neg (by omega)]) ?_
      refine (Ev.bind hr ?_).two
      simpa using Ev.pure _
    · rw [j2, j5]
      have := ih (W.getD j []).length (by rw [← hm, j5]; simp) j (y ++ [(i : Int)]) j1 j4 rfl (by rw [j5] at hm; simp at hm ⊢; omega)
      simpa using this
theorem way_ev {N B : List Pt} {E : List Ed} {s : Int} {l : List Lb} {W nx : List (List Int)} (hE : E.length ≤ 600) (h : Lab E B s l W) {i : Nat} (hi : i < E.length) (hw : W.getD i [] ≠ []) :
    Ev (fun k => f61 k ((N, (E, B)), (l, nx)) (i : Int)) (W.getD i [], ()) := by
  have := (way_loop (N := N) (nx := nx) hE h (W.getD i []).length i [] hi hw rfl (by have := h.size hi hw; simp only [List.length_nil]; omega)).diag
  simp only [f61, f61_entry_B]
  simpa using this
/-- The way ahead of an edge. -/
theorem pre_ev {N B : List Pt} {E : List Ed} {s : Int} {l : List Lb} {W nx : List (List Int)} (hE : E.length ≤ 600) (h : Lab E B s l W) {i : Nat} (hi : i < E.length) (hw : W.getD i [] ≠ []) :
    ∃ p, W.getD i [] = p ++ [(i : Int)] ∧ Ev (fun k => if 0 ≤ (l.getD i zL).2.2.1 then f61 k ((N, (E, B)), (l, nx)) (l.getD i zL).2.2.1 else some ([], ())) (p, ()) := by
  rcases h.pv i hi hw with ⟨e1, e2⟩ | ⟨j, j1, j2, j3, j4, j5⟩
  · refine ⟨[], by rw [e1]; rfl, ?_⟩
    rw [e2]
    simp only [show ¬ (0 : Int) ≤ -1 by decide, if_false]
    exact Ev.pure _
  · refine ⟨W.getD j [], j5, ?_⟩
    rw [j2]
    simp only [show (0 : Int) ≤ (j : Int) by omega, if_true]
    exact way_ev hE h j1 j4
theorem before_ev {N B : List Pt} {E : List Ed} {s : Int} {l : List Lb} {W nx : List (List Int)} (hE : E.length ≤ 600) (h : Lab E B s l W) {i j : Nat} (hi : i < E.length) (hwi : W.getD i [] ≠ []) (hj : j < E.length) (hwj : W.getD j [] ≠ []) :
    Ev (fun k => f60 k ((N, (E, B)), (l, nx)) (i : Int) (j : Int)) (decide (¬ wle E (W.getD j []) (W.getD i [])), ()) := by
  simp only [f60, f60_entry_B]
  have a0 : (0 : Int) ≤ (i : Int) := by omega
  have a1 : (i : Int) < (l.length : Int) := by rw [h.l1]; omega
  have b0 : (0 : Int) ≤ (j : Int) := by omega
  have b1 : (j : Int) < (l.length : Int) := by rw [h.l1]; omega
  simp only [if_pos a0, if_pos a1, if_pos b0, if_pos b1, Int.toNat_natCast]
  obtain ⟨_, c1, c2, _⟩ := h.kn i hi hwi
  obtain ⟨_, d1, d2, _⟩ := h.kn j hj hwj
  have c1 : (l.getD i (0, (0, (0, (false, false))))).1 = _ := c1
  have c2 : (l.getD i (0, (0, (0, (false, false))))).2.1 = _ := c2
  have d1 : (l.getD j (0, (0, (0, (false, false))))).1 = _ := d1
  have d2 : (l.getD j (0, (0, (0, (false, false))))).2.1 = _ := d2
  simp only [c1, c2, d1, d2]
  have key : ∀ (p : Prop) [Decidable p], (p ↔ ¬ wle E (W.getD j []) (W.getD i [])) → Ev (fun _ : Nat => some (decide p, ())) (decide (¬ wle E (W.getD j []) (W.getD i [])), ()) := fun p _ hp => by
    rw [decide_eq_decide.2 hp]; exact Ev.pure _
  by_cases e1 : cW E (W.getD i []) = cW E (W.getD j [])
  · have e1' : ¬ ¬ cW E (W.getD i []) = cW E (W.getD j []) := fun z => z e1
    simp only [if_neg e1']
    by_cases e2 : ((W.getD i []).length : Int) = ((W.getD j []).length : Int)
    · have e2' : ¬ ¬ ((W.getD i []).length : Int) = ((W.getD j []).length : Int) := fun z => z e2
      simp only [if_neg e2']
      have hs := h.size hi hwi
      have hf := cmpI_flip (W.getD i []) (W.getD j [])
      exact (way_ev hE h hi hwi).bind ((way_ev hE h hj hwj).bind ((cmp_ev (W.getD i []) (W.getD j []) (by omega)).bind (key (cmpI (W.getD i []) (W.getD j []) < 0) (by unfold wle; omega))))
    · simp only [if_pos e2]
      exact key _ (by unfold wle; omega)
  · simp only [if_pos e1]
    exact key _ (by unfold wle; omega)
/-- A way through an edge before (or none), compared with the best one known. -/
theorem better_ev {N B : List Pt} {E : List Ed} {s : Int} {l : List Lb} {W nx : List (List Int)} (hE : E.length ≤ 600) (h : Lab E B s l W) {i : Nat} (hi : i < E.length) {p : List Int} {pr : Int} (hp : (pr = -1 ∧ p = []) ∨ ∃ j : Nat, pr = (j : Int) ∧ j < E.length ∧ W.getD j [] = p ∧ p ≠ []) :
    Ev (fun k => f112 k ((N, (E, B)), (l, nx)) pr (i : Int) (cW E (p ++ [(i : Int)])) ((p ++ [(i : Int)]).length : Int)) (decide (W.getD i [] = [] ∨ ¬ wle E (W.getD i []) (p ++ [(i : Int)])), ()) := by
  simp only [f112, f112_entry_B]
  have a0 : (0 : Int) ≤ (i : Int) := by omega
  have a1 : (i : Int) < (l.length : Int) := by rw [h.l1]; omega
  simp only [if_pos a0, if_pos a1, Int.toNat_natCast]
  by_cases hw : W.getD i [] = []
  · have hk : (l.getD i (0, (0, (0, (false, false))))).2.2.2.1 = false := (h.un i hi hw).1
    simp only [hw, true_or, decide_true]
    refine Ev.of (g := fun _ => some (true, ())) (fun k => ?_) (Ev.pure _)
    simp only [hk]
    rw [if_pos (by simp), f112_r2, f112_r2_B, if_pos rfl, if_pos (by simp), f112_r3, f112_r3_B]
    rfl
  · obtain ⟨hk, c1, c2, _⟩ := h.kn i hi hw
    have hk : (l.getD i (0, (0, (0, (false, false))))).2.2.2.1 = true := hk
    have c1 : (l.getD i (0, (0, (0, (false, false))))).1 = _ := c1
    have c2 : (l.getD i (0, (0, (0, (false, false))))).2.1 = _ := c2
    have key : ∀ (p' : Prop) [Decidable p'], (p' ↔ ¬ wle E (W.getD i []) (p ++ [(i : Int)])) → Ev (fun _ : Nat => some (decide p', ())) (decide (W.getD i [] = [] ∨ ¬ wle E (W.getD i []) (p ++ [(i : Int)])), ()) := fun p' _ hp' => by
      rw [decide_eq_decide.2 (show p' ↔ (W.getD i [] = [] ∨ ¬ wle E (W.getD i []) (p ++ [(i : Int)])) from hp'.trans ⟨.inr, fun z => z.resolve_left hw⟩)]; exact Ev.pure _
    by_cases e1 : cW E (p ++ [(i : Int)]) = cW E (W.getD i [])
    · by_cases e2 : ((p ++ [(i : Int)]).length : Int) = ((W.getD i []).length : Int)
      · obtain ⟨q, q1, q2⟩ := pre_ev (N := N) (nx := nx) hE h hi hw
        have hpw : Ev (fun k => if 0 ≤ pr then f61 k ((N, (E, B)), (l, nx)) pr else some ([], ())) (p, ()) := by
          rcases hp with ⟨rfl, rfl⟩ | ⟨j, rfl, j1, rfl, j2⟩
          · simp only [show ¬ (0 : Int) ≤ -1 by decide, if_false]; exact Ev.pure _
          · simp only [show (0 : Int) ≤ (j : Int) by omega, if_true]; exact way_ev hE h j1 j2
        have hpq : p.length = q.length := by rw [q1] at e2; simp at e2; omega
        have hpl : p.length ≤ 1000 := by have := h.size hi hw; rw [q1] at this; simp at this; omega
        refine Ev.of (g := fun k => (if 0 ≤ pr then f61 k ((N, (E, B)), (l, nx)) pr else some ([], ())).bind fun r1 => (if 0 ≤ (l.getD i zL).2.2.1 then f61 k ((N, (E, B)), (l, nx)) (l.getD i zL).2.2.1 else some ([], ())).bind fun r2 => (f81 k r1.1 r2.1).bind fun r3 => some (decide (r3.1 < 0), ())) (fun k => ?_) ?_
        · simp only [hk, c1, c2]
          rw [if_neg (by simp), show decide (¬ cW E (p ++ [(i : Int)]) = cW E (W.getD i [])) = false from decide_eq_false (fun z => z e1), f112_r2, f112_r2_B, if_neg (by simp), f112_c3, f112_c3_B, if_neg (fun z => z e2)]
          have hc10 : ∀ x y, f112_c10 k x y = (f81 k x y).bind fun r3 => some (decide (r3.1 < 0), ()) := fun x y => rfl
          have hc8 : ∀ x y z u q, f112_c8 k x y (l.getD i zL).2.2.1 z u [] ((N, (E, B)), (l, nx)) q = (if 0 ≤ (l.getD i zL).2.2.1 then f61 k ((N, (E, B)), (l, nx)) (l.getD i zL).2.2.1 else some ([], ())).bind fun r2 => (f81 k q r2.1).bind fun r3 => some (decide (r3.1 < 0), ()) := fun x y z u q => by
            rw [f112_c8, f112_c8_B]
            split
            · simp only [hc10]
            · rw [hc10]; rfl
          split
          · refine congrArg _ (funext fun r1 => ?_)
            exact hc8 _ _ _ _ _
          · exact hc8 _ _ _ _ _
        · have hf := cmpI_flip p q
          have hq : cmpI (W.getD i []) (p ++ [(i : Int)]) = cmpI q p := by
            rw [q1, cmpI_app _ _ hpq.symm]
            split
            · rename_i e; rw [cmpI_self, e]
            · rfl
          exact hpw.bind (q2.bind ((cmp_ev p q (by omega)).bind (key (cmpI p q < 0) (by unfold wle; rw [hq]; omega))))
      · refine Ev.of (g := fun _ => some (decide (((p ++ [(i : Int)]).length : Int) < ((W.getD i []).length : Int)), ())) (fun k => ?_) (key _ (by unfold wle; omega))
        simp only [hk, c1, c2]
        rw [if_neg (by simp), show decide (¬ cW E (p ++ [(i : Int)]) = cW E (W.getD i [])) = false from decide_eq_false (fun z => z e1), f112_r2, f112_r2_B, if_neg (by simp), f112_c3, f112_c3_B, if_pos e2]
    · refine Ev.of (g := fun _ => some (decide (cW E (p ++ [(i : Int)]) < cW E (W.getD i [])), ())) (fun k => ?_) (key _ (by unfold wle; omega))
      simp only [hk, c1, c2]
      rw [if_neg (by simp), show decide (¬ cW E (p ++ [(i : Int)]) = cW E (W.getD i [])) = true from decide_eq_true e1, f112_r2, f112_r2_B, if_pos rfl, if_neg (by simp), f112_r3, f112_r3_B]
      simp
end Go.Proofs.Ytoebjlimpnmaoaa.Rw

namespace Go.Proofs.Ytoebjlimpnmaoaa.Rw
open Go.Rx
set_option linter.unusedVariables false
set_option linter.unusedSimpArgs false
theorem gsetN {α : Type} (l : List α) (i j : Nat) (x z : α) : (l.set i x).getD j z = if i = j ∧ i < l.length then x else l.getD j z := by
  simp only [List.getD_eq_getElem?_getD, List.getElem?_set]
  by_cases h : i = j
  · subst h
    by_cases g : i < l.length
    · simp [g]
    · simp [g, List.getElem?_eq_none (Nat.le_of_not_lt g)]
  · simp [h]
/-- Costs within their bounds. -/
def CostOK (E : List Ed) : Prop := ∀ k, inR k E.length → 0 ≤ costE E k ∧ costE E k ≤ 1099511627776
/-- The way that is offered. -/
structure Offer (E : List Ed) (B : List Pt) (s : Int) (l : List Lb) (W : List (List Int)) (pr : Int) (p : List Int) (i : Nat) : Prop where
  hi : i < E.length
  hp : (pr = -1 ∧ p = [] ∧ fromE E (i : Int) = s) ∨ ∃ j : Nat, pr = (j : Int) ∧ j < E.length ∧ W.getD j [] = p ∧ p ≠ [] ∧ dnL l j = true ∧ toE E (j : Int) = fromE E (i : Int) ∧ ((j : Int), (i : Int)) ∉ B
theorem Offer.wy {E : List Ed} {B : List Pt} {s : Int} {l : List Lb} {W : List (List Int)} {pr : Int} {p : List Int} {i : Nat} (h : Lab E B s l W) (ho : Offer E B s l W pr p i) : Wy E B s (p ++ [(i : Int)]) (i : Int) := by
  have hr : inR (i : Int) E.length := ⟨by omega, by have := ho.hi; omega⟩
  rcases ho.hp with ⟨_, rfl, h3⟩ | ⟨j, rfl, h1, h2, h3, h4, h5, h6⟩
  · exact .one _ hr h3
  · rw [← h2] at h3 ⊢
    exact .snoc _ (j : Int) _ (h.kn j h1 h3).2.2.2.1 hr h5 h6
theorem Offer.new {E : List Ed} {B : List Pt} {s : Int} {l : List Lb} {W : List (List Int)} {pr : Int} {p : List Int} {i : Nat} (h : Lab E B s l W) (ho : Offer E B s l W pr p i) (hd : dnL l i = false) : (p ++ [(i : Int)]).Nodup ∧ ∀ x ∈ p, dnL l x.toNat = true := by
  rcases ho.hp with ⟨_, rfl, h3⟩ | ⟨j, rfl, h1, h2, h3, h4, h5, h6⟩
  · exact ⟨by simp, fun x hx => by cases hx⟩
  · subst h2
    have hx : ∀ x ∈ W.getD j [], dnL l x.toNat = true := fun x hx => by
      rcases h.pd j h1 x hx with rfl | hx
      · simpa using h4
      · exact hx
    refine ⟨List.nodup_append.2 ⟨(h.kn j h1 h3).2.2.2.2, by simp, fun x hx' y hy e => ?_⟩, hx⟩
    simp only [List.mem_singleton] at hy
    subst e; subst hy
    have := hx _ hx'
    rw [Int.toNat_natCast, hd] at this; cases this
/-- A better way is taken. -/
theorem Lab.take {E : List Ed} {B : List Pt} {s : Int} {l : List Lb} {W : List (List Int)} {pr : Int} {p : List Int} {i : Nat} (h : Lab E B s l W) (ho : Offer E B s l W pr p i) (hd : dnL l i = false) :
    Lab E B s (l.set i (cW E (p ++ [(i : Int)]), (((p ++ [(i : Int)]).length : Int), (pr, (true, false))))) (W.set i (p ++ [(i : Int)])) ∧ ∀ j, dnL (l.set i (cW E (p ++ [(i : Int)]), (((p ++ [(i : Int)]).length : Int), (pr, (true, false))))) j = dnL l j := by
  have hil : i < l.length := by rw [h.l1]; exact ho.hi
  have hiw : i < W.length := by rw [h.l2]; exact ho.hi
  generalize hx : ((cW E (p ++ [(i : Int)]), (((p ++ [(i : Int)]).length : Int), (pr, (true, false)))) : Lb) = x
  have gl : ∀ j, (l.set i x).getD j zL = if i = j then x else l.getD j zL := fun j => by
    rw [gsetN]; simp only [hil, and_true]
  have gw : ∀ j, (W.set i (p ++ [(i : Int)])).getD j [] = if i = j then p ++ [(i : Int)] else W.getD j [] := fun j => by
    rw [gsetN]; simp only [hiw, and_true]
  have dn : ∀ j, dnL (l.set i x) j = dnL l j := fun j => by
    unfold dnL
    rw [gl]
    split
    · rename_i e; subst e; rw [← hx]; exact hd.symm
    · rfl
  obtain ⟨n1, n2⟩ := ho.new h hd
  refine ⟨⟨by simpa using h.l1, by simpa using h.l2, fun j hj hw => ?_, fun j hj hw => ?_, fun j hj hw => ?_, fun j hj y hy => ?_⟩, dn⟩
  · rw [gw] at hw
    split at hw
    · simp at hw
    · rename_i e
      obtain ⟨q1, q2⟩ := h.un j hj hw
      exact ⟨by unfold knL at q1 ⊢; rw [gl, if_neg e]; exact q1, by rw [dn]; exact q2⟩
  · by_cases e : i = j
    · subst e
      rw [gw, if_pos rfl]
      unfold knL
      rw [gl, if_pos rfl, ← hx]
      exact ⟨rfl, rfl, rfl, ho.wy h, n1⟩
    · rw [gw, if_neg e] at hw ⊢
      unfold knL
      rw [gl, if_neg e]
      exact h.kn j hj hw
  · by_cases e : i = j
    · subst e
      have hx3 : x.2.2.1 = pr := by rw [← hx]
      rw [gw, if_pos rfl, gl, if_pos rfl, hx3]
      rcases ho.hp with ⟨rfl, rfl, _⟩ | ⟨k, rfl, h1, h2, h3, h4, _⟩
      · exact .inl ⟨rfl, rfl⟩
      · have hk : i ≠ k := fun e => by subst e; rw [hd] at h4; cases h4
        exact .inr ⟨k, h1, rfl, by rw [dn]; exact h4, by rw [gw, if_neg hk, h2]; exact h3, by rw [gw, if_neg hk, h2]⟩
    · rw [gw, if_neg e] at hw
      rw [gw, if_neg e, gl, if_neg e]
      rcases h.pv j hj hw with q | ⟨k, h1, h2, h3, h4, h5⟩
      · exact .inl q
      · have hk : i ≠ k := fun e => by subst e; rw [hd] at h3; cases h3
        exact .inr ⟨k, h1, h2, by rw [dn]; exact h3, by rw [gw, if_neg hk]; exact h4, by rw [gw, if_neg hk]; exact h5⟩
  · rw [gw] at hy
    rw [dn]
    split at hy
    · rename_i e
      subst e
      simp only [List.mem_append, List.mem_singleton] at hy
      rcases hy with hy | hy
      · exact .inr (n2 y hy)
      · exact .inl hy
    · exact h.pd j hj y hy
def offW (E : List Ed) (l : List Lb) (W : List (List Int)) (i : Nat) (v : List Int) : List (List Int) :=
  if dnL l i = false ∧ (W.getD i [] = [] ∨ ¬ wle E (W.getD i []) v) then W.set i v else W
theorem offer_ev {N B : List Pt} {E : List Ed} {s : Int} {l : List Lb} {W nx : List (List Int)} (hE : E.length ≤ 600) (hC : CostOK E) (h : Lab E B s l W) {pr : Int} {p : List Int} {i : Nat} (ho : Offer E B s l W pr p i) :
    ∃ l', Ev (fun k => f82 k (N, (E, B)) nx l pr (i : Int)) ((((N, (E, B)), nx, ()), (l', ())), ()) ∧ Lab E B s l' (offW E l W i (p ++ [(i : Int)])) ∧ (∀ j, dnL l' j = dnL l j) := by
  have hi := ho.hi
  have a0 : (0 : Int) ≤ (i : Int) := by omega
  have a1 : (i : Int) < (E.length : Int) := by omega
  have a2 : (i : Int) < (l.length : Int) := by rw [h.l1]; omega
  have hcost := hC (i : Int) ⟨a0, a1⟩
  -- to the first meeting point
  have key : ∀ k, f82 k (N, (E, B)) nx l pr (i : Int) = f82_c2 k N E B nx l pr (i : Int) (cW E (p ++ [(i : Int)])) ((p ++ [(i : Int)]).length : Int) := fun k => by
    simp only [f82, f82_entry_B]
    rw [if_pos a0, if_pos a1]
    rcases ho.hp with ⟨rfl, rfl, _⟩ | ⟨j, rfl, h1, h2, h3, h4, _⟩
    · rw [if_neg (by decide)]
      simp only [List.nil_append, cW_one, List.length_singleton]
      rfl
    · have b0 : (0 : Int) ≤ (j : Int) := by omega
      have b1 : (j : Int) < (l.length : Int) := by rw [h.l1]; omega
      rw [if_pos b0, if_pos b0, if_pos b1, if_pos b0, if_pos b1]
      subst h2
      obtain ⟨_, c1, c2, c3, _⟩ := h.kn j h1 h3
      have c1 : (l.getD ((j : Int)).toNat (0, (0, (0, (false, false))))).1 = cW E (W.getD j []) := by rw [Int.toNat_natCast]; exact c1
      have c2 : (l.getD ((j : Int)).toNat (0, (0, (0, (false, false))))).2.1 = ((W.getD j []).length : Int) := by rw [Int.toNat_natCast]; exact c2
      have hs := h.size h1 h3
      have hle := cW_le (E := E) (M := 1099511627776) (by decide) (fun k hk => (hC k hk).2) (W.getD j []) c3.mem
      have hge := c3.cost (fun k hk => (hC k hk).1)
      have hm : (1099511627776 : Int) * ((W.getD j []).length : Int) ≤ 1099511627776 * 600 := Int.mul_le_mul_of_nonneg_left (by omega) (by decide)
      rw [c1, c2]
      have e1 : w64 ((E.getD ((i : Int)).toNat (0, (0, (0, 0)))).2.2.1 + cW E (W.getD j [])) = cW E (W.getD j [] ++ [(i : Int)]) := by
        rw [cW_app, cW_one]
        have : (E.getD ((i : Int)).toNat (0, (0, (0, 0)))).2.2.1 = costE E (i : Int) := rfl
        rw [this, w64_id (by omega) (by omega)]; omega
      have e2 : w64 (1 + ((W.getD j []).length : Int)) = ((W.getD j [] ++ [(i : Int)]).length : Int) := by
        rw [w64_id (by omega) (by omega)]; simp; omega
      rw [e1, e2]
  have hc4 : ∀ k y, f82_c4 k N E B nx y = some ((((N, (E, B)), nx, ()), (y, ())), ()) := fun k y => rfl
  by_cases hd : dnL l i = false
  · have hd' : (l.getD ((i : Int)).toNat (0, (0, (0, (false, false))))).2.2.2.2 = false := by rw [Int.toNat_natCast]; exact hd
    have hb := better_ev (N := N) (nx := nx) hE h hi (p := p) (pr := pr) (by
      rcases ho.hp with ⟨h1, h2, _⟩ | ⟨j, h1, h2, h3, h4, _⟩
      · exact .inl ⟨h1, h2⟩
      · exact .inr ⟨j, h1, h2, h3, h4⟩)
    by_cases c : W.getD i [] = [] ∨ ¬ wle E (W.getD i []) (p ++ [(i : Int)])
    · obtain ⟨t1, t2⟩ := h.take ho hd
      refine ⟨_, ?_, by unfold offW; rw [if_pos ⟨hd, c⟩]; exact t1, t2⟩
      obtain ⟨K, hK⟩ := hb
      refine ⟨K, fun k hk => ?_⟩
      have hk' := hK k hk
      simp only at hk'
      show f82 k (N, (E, B)) nx l pr (i : Int) = _
      rw [key, f82_c2, f82_c2_B, if_pos a0, if_pos a2, hd', if_pos (by simp), hk', Option.bind_some, decide_eq_true c, f82_r3, f82_r3_B, if_pos (by simp), if_pos a0, if_pos a2, hc4, Int.toNat_natCast]
    · refine ⟨l, ?_, by unfold offW; rw [if_neg (fun z => c z.2)]; exact h, fun _ => rfl⟩
      obtain ⟨K, hK⟩ := hb
      refine ⟨K, fun k hk => ?_⟩
      have hk' := hK k hk
      simp only at hk'
      show f82 k (N, (E, B)) nx l pr (i : Int) = _
      rw [key, f82_c2, f82_c2_B, if_pos a0, if_pos a2, hd', if_pos (by simp), hk', Option.bind_some, decide_eq_false c, f82_r3, f82_r3_B, if_neg (by simp), hc4]
  · have hd' : (l.getD ((i : Int)).toNat (0, (0, (0, (false, false))))).2.2.2.2 = true := by rw [Int.toNat_natCast]; simpa [dnL, zL] using hd
    refine ⟨l, ⟨0, fun k _ => ?_⟩, by unfold offW; rw [if_neg (fun z => hd z.1)]; exact h, fun _ => rfl⟩
    show f82 k (N, (E, B)) nx l pr (i : Int) = _
    rw [key, f82_c2, f82_c2_B, if_pos a0, if_pos a2, hd', if_neg (by simp), f82_r3, f82_r3_B, if_neg (by simp), hc4]
/-- An edge that is known and not done. -/
def WaitL (l : List Lb) (i : Nat) : Prop := knL l i = true ∧ dnL l i = false
theorem Lab.wait {E : List Ed} {B : List Pt} {s : Int} {l : List Lb} {W : List (List Int)} (h : Lab E B s l W) {i : Nat} (hi : i < E.length) (hw : knL l i = true) : W.getD i [] ≠ [] := fun e => by
  have := (h.un i hi e).1
  rw [hw] at this; cases this
def LeastL (E : List Ed) (l : List Lb) (W : List (List Int)) (m : Nat) (u : Int) : Prop :=
  (u = -1 ∧ ∀ j, j < m → ¬ WaitL l j) ∨ ∃ v : Nat, u = (v : Int) ∧ v < E.length ∧ WaitL l v ∧ ∀ j, j < m → WaitL l j → wle E (W.getD v []) (W.getD j [])
theorem least_loop {N B : List Pt} {E : List Ed} {s : Int} {l : List Lb} {W nx : List (List Int)} (hE : E.length ≤ 600) (h : Lab E B s l W) : ∀ (d i : Nat) (u : Int), i + d = E.length → LeastL E l W i u →
    ∃ v, LeastL E l W E.length v ∧ Ev2 (fun k n => f83_l0 k n ((N, (E, B)), (l, nx)) (l.length : Int) (i : Int) u l) (v, ())
  | 0, i, u, hi, hu => by
    have e : i = E.length := by omega
    subst e
    refine ⟨u, hu, Ev2.step (g := fun _ _ => some (u, ())) (fun k n => ?_) (Ev2.pure _)⟩
    rw [f83_l0, f83_l0_B, if_neg (by rw [h.l1]; omega)]
  | d + 1, i, u, hi, hu => by
    have a0 : (0 : Int) ≤ (i : Int) := by omega
    have a1 : (i : Int) < (l.length : Int) := by rw [h.l1]; omega
    have hw : w64 ((i : Int) + 1) = ((i + 1 : Nat) : Int) := by rw [w64_id (by omega) (by omega)]; omega
    have hkn : (l.getD ((i : Int)).toNat (0, (0, (0, (false, false))))).2.2.2.1 = knL l i := by rw [Int.toNat_natCast]; rfl
    have hdn : (l.getD ((i : Int)).toNat (0, (0, (0, (false, false))))).2.2.2.2 = dnL l i := by rw [Int.toNat_natCast]; rfl
    have hb1 : ∀ k r (x : Int), f83_b1 k r ((N, (E, B)), (l, nx)) (l.length : Int) (i : Int) x l = r ((N, (E, B)), (l, nx)) (l.length : Int) ((i + 1 : Nat) : Int) x l := fun k r x => by
      rw [f83_b1, f83_b1_B, hw]
    -- an edge that does not wait
    have skip : ¬ WaitL l i → ∃ v, LeastL E l W E.length v ∧ Ev2 (fun k n => f83_l0 k n ((N, (E, B)), (l, nx)) (l.length : Int) (i : Int) u l) (v, ()) := fun hn => by
      obtain ⟨v, v1, v2⟩ := least_loop (N := N) (nx := nx) hE h d (i + 1) u (by omega) (by
        rcases hu with ⟨e, hu⟩ | ⟨q, e, hq, hwq, hu⟩
        · refine .inl ⟨e, fun j hj => ?_⟩
          by_cases g : j = i
          · subst g; exact hn
          · exact hu j (by omega)
        · refine .inr ⟨q, e, hq, hwq, fun j hj hj' => ?_⟩
          by_cases g : j = i
          · subst g; exact (hn hj').elim
          · exact hu j (by omega) hj')
      refine ⟨v, v1, Ev2.step (fun k n => ?_) v2⟩
      rw [f83_l0, f83_l0_B, if_pos a1, if_pos a0, if_pos a1, hkn, hdn]
      unfold WaitL at hn
      cases hk : knL l i with
      | false => rw [if_pos (by simp), f83_r5, f83_r5_B, if_pos rfl, hb1]
      | true =>
        have hd : dnL l i = true := by
          cases hq : dnL l i with
          | true => rfl
          | false => exact (hn ⟨hk, hq⟩).elim
        rw [if_neg (by simp), hd, decide_eq_true rfl, f83_r5, f83_r5_B, if_pos rfl, hb1]
    by_cases hwt : WaitL l i
    · have hwi := h.wait (by omega) hwt.1
      have pre : ∀ k n, f83_l0 k (n + 1) ((N, (E, B)), (l, nx)) (l.length : Int) (i : Int) u l = if u < 0 then f83_r6 k (f83_l0 k n) ((N, (E, B)), (l, nx)) (l.length : Int) (i : Int) u true l else (f60 k ((N, (E, B)), (l, nx)) (i : Int) u).bind fun r1 => f83_r6 k (f83_l0 k n) ((N, (E, B)), (l, nx)) (l.length : Int) (i : Int) u (decide (r1.1 = true)) l := fun k n => by
        rw [f83_l0, f83_l0_B, if_pos a1, if_pos a0, if_pos a1, hkn, hdn, hwt.1, if_neg (by simp), hwt.2, decide_eq_false (by simp), f83_r5, f83_r5_B, if_neg (by simp)]
      have r6t : ∀ k n, f83_r6 k (f83_l0 k n) ((N, (E, B)), (l, nx)) (l.length : Int) (i : Int) u true l = f83_l0 k n ((N, (E, B)), (l, nx)) (l.length : Int) ((i + 1 : Nat) : Int) (i : Int) l := fun k n => by
        rw [f83_r6, f83_r6_B, if_pos rfl, f83_c7, f83_c7_B, hb1]
      have r6f : ∀ k n, f83_r6 k (f83_l0 k n) ((N, (E, B)), (l, nx)) (l.length : Int) (i : Int) u false l = f83_l0 k n ((N, (E, B)), (l, nx)) (l.length : Int) ((i + 1 : Nat) : Int) u l := fun k n => by
        rw [f83_r6, f83_r6_B, if_neg (by simp), f83_c7, f83_c7_B, hb1]
      rcases hu with ⟨rfl, hu⟩ | ⟨q, rfl, hq, hwq, hu⟩
      · obtain ⟨v, v1, v2⟩ := least_loop (N := N) (nx := nx) hE h d (i + 1) (i : Int) (by omega) (.inr ⟨i, rfl, by omega, hwt, fun j hj hj' => by
          by_cases g : j = i
          · subst g; exact wle_refl E _
          · exact (hu j (by omega) hj').elim⟩)
        exact ⟨v, v1, Ev2.step (fun k n => by rw [pre, if_pos (by decide), r6t]) v2⟩
      · have hwq' := h.wait hq hwq.1
        obtain ⟨K, hK⟩ := before_ev (N := N) (nx := nx) hE h (i := i) (j := q) (by omega) hwi hq hwq'
        by_cases c : wle E (W.getD q []) (W.getD i [])
        · obtain ⟨v, v1, v2⟩ := least_loop (N := N) (nx := nx) hE h d (i + 1) (q : Int) (by omega) (.inr ⟨q, rfl, hq, hwq, fun j hj hj' => by
            by_cases g : j = i
            · subst g; exact c
            · exact hu j (by omega) hj'⟩)
          refine ⟨v, v1, Ev2.stepE K (fun k n hk => ?_) v2⟩
          have hk' := hK k hk
          simp only at hk'
          rw [pre, if_neg (by omega), hk', Option.bind_some]
          simp only [c, not_true_eq_false, decide_false, Bool.false_eq_true]
          exact r6f k n
        · obtain ⟨v, v1, v2⟩ := least_loop (N := N) (nx := nx) hE h d (i + 1) (i : Int) (by omega) (.inr ⟨i, rfl, by omega, hwt, fun j hj hj' => by
            by_cases g : j = i
            · subst g; exact wle_refl E _
            · exact wle_trans ((wle_total E _ _).resolve_left c) (hu j (by omega) hj')⟩)
          refine ⟨v, v1, Ev2.stepE K (fun k n hk => ?_) v2⟩
          have hk' := hK k hk
          simp only at hk'
          rw [pre, if_neg (by omega), hk', Option.bind_some]
          simp only [c, not_false_eq_true, decide_true]
          exact r6t k n
    · exact skip hwt
theorem least_ev {N B : List Pt} {E : List Ed} {s : Int} {l : List Lb} {W nx : List (List Int)} (hE : E.length ≤ 600) (h : Lab E B s l W) :
    ∃ v, LeastL E l W E.length v ∧ Ev (fun k => f83 k ((N, (E, B)), (l, nx))) (v, ()) := by
  obtain ⟨v, v1, v2⟩ := least_loop (N := N) (nx := nx) hE h E.length 0 (-1) (by omega) (.inl ⟨rfl, fun j hj => by omega⟩)
  refine ⟨v, v1, ?_⟩
  simp only [f83, f83_entry_B]
  exact v2.diag
end Go.Proofs.Ytoebjlimpnmaoaa.Rw

namespace Go.Proofs.Ytoebjlimpnmaoaa.Rw
open Go.Rx
set_option linter.unusedVariables false
set_option linter.unusedSimpArgs false
/-- The way of the edge u goes on with the edge k. -/
def Goes (E : List Ed) (B : List Pt) (u k : Int) : Prop := inR k E.length ∧ toE E u = fromE E k ∧ (u, k) ∉ B
structure NX (E : List Ed) (B : List Pt) (nx : List (List Int)) : Prop where
  len : nx.length = E.length
  row : ∀ i, i < E.length → (nx.getD i []).length ≤ E.length ∧ ∀ k, k ∈ nx.getD i [] ↔ Goes E B (i : Int) k
/-- Every edge that is done has its first way. -/
def DoneB (E : List Ed) (B : List Pt) (s : Int) (l : List Lb) (W : List (List Int)) : Prop := ∀ j, j < E.length → dnL l j = true → W.getD j [] ≠ [] ∧ ∀ w, Wy E B s w (j : Int) → wle E (W.getD j []) w
def From (E : List Ed) (s : Int) (W : List (List Int)) (k : Nat) : Prop := W.getD k [] ≠ [] ∧ wle E (W.getD k []) [(k : Int)]
def Over (E : List Ed) (W : List (List Int)) (j k : Nat) : Prop := W.getD k [] ≠ [] ∧ wle E (W.getD k []) (W.getD j [] ++ [(k : Int)])
structure Front2 (E : List Ed) (B : List Pt) (s : Int) (l : List Lb) (W : List (List Int)) : Prop where
  lab : Lab E B s l W
  dn : DoneB E B s l W
  fr : ∀ k : Nat, k < E.length → fromE E (k : Int) = s → From E s W k
  ov : ∀ j k : Nat, j < E.length → dnL l j = true → k < E.length → Goes E B (j : Int) (k : Int) → Over E W j k
/-- Less ways, where something is written. -/
def LessW (E : List Ed) (V W : List (List Int)) : Prop := ∀ k : Nat, W.getD k [] ≠ [] → V.getD k [] ≠ [] ∧ wle E (V.getD k []) (W.getD k [])
theorem offW_less {E : List Ed} {l : List Lb} {W : List (List Int)} {i : Nat} {v : List Int} (hi : i < W.length) (hv : v ≠ []) : LessW E (offW E l W i v) W := fun k hk => by
  unfold offW
  split
  · rename_i c
    rw [gsetN]
    split
    · rename_i e
      obtain ⟨rfl, _⟩ := e
      rcases c.2 with c | c
      · exact (hk c).elim
      · exact ⟨hv, (wle_total E _ _).resolve_right c⟩
    · exact ⟨hk, wle_refl E _⟩
  · exact ⟨hk, wle_refl E _⟩
theorem offW_at {E : List Ed} {l : List Lb} {W : List (List Int)} {i : Nat} {v : List Int} (hi : i < W.length) (hv : v ≠ []) (hd : dnL l i = false) : (offW E l W i v).getD i [] ≠ [] ∧ wle E ((offW E l W i v).getD i []) v := by
  unfold offW
  split
  · rw [gsetN, if_pos ⟨rfl, hi⟩]; exact ⟨hv, wle_refl E _⟩
  · rename_i c
    have c1 : W.getD i [] ≠ [] := fun e => c ⟨hd, .inl e⟩
    refine ⟨c1, ?_⟩
    by_cases g : wle E (W.getD i []) v
    · exact g
    · exact (c ⟨hd, .inr g⟩).elim
theorem offW_done {E : List Ed} {l : List Lb} {W : List (List Int)} {i j : Nat} {v : List Int} (hd : dnL l j = true) : (offW E l W i v).getD j [] = W.getD j [] := by
  unfold offW
  split
  · rename_i c
    rw [gsetN, if_neg]
    rintro ⟨rfl, _⟩
    rw [hd] at c; cases c.1
  · rfl
/-- The least way that is not done is a first way. -/
theorem Front2.claim {E : List Ed} {B : List Pt} {s : Int} {l : List Lb} {W : List (List Int)} (hC : CostOK E) (h : Front2 E B s l W) {u : List Int} (hu : ∀ j, j < E.length → WaitL l j → wle E u (W.getD j [])) {w : List Int} {k : Int} (hw : Wy E B s w k) : dnL l k.toNat = true ∨ wle E u w := by
  induction hw with
  | one k h1 h2 =>
    have hk : k.toNat < E.length := by have := h1.2; have := h1.1; omega
    have ek : ((k.toNat : Nat) : Int) = k := by have := h1.1; omega
    by_cases c : dnL l k.toNat = true
    · exact .inl c
    · obtain ⟨q1, q2⟩ := h.fr k.toNat hk (by rw [ek]; exact h2)
      rw [ek] at q2
      exact .inr (wle_trans (hu _ hk ⟨(h.lab.kn _ hk q1).1, by simpa using c⟩) q2)
  | snoc w j k hw h1 h2 h3 ih =>
    have hk : k.toNat < E.length := by have := h1.2; have := h1.1; omega
    have ek : ((k.toNat : Nat) : Int) = k := by have := h1.1; omega
    have hj := hw.inR
    have hj' : j.toNat < E.length := by have := hj.2; have := hj.1; omega
    have ej : ((j.toNat : Nat) : Int) = j := by have := hj.1; omega
    rcases ih with ih | ih
    · by_cases c : dnL l k.toNat = true
      · exact .inl c
      · obtain ⟨q1, q2⟩ := h.ov j.toNat k.toNat hj' ih hk (by rw [ej, ek]; exact ⟨h1, h2, h3⟩)
        rw [ek] at q2
        have q3 := (h.dn j.toNat hj' ih).2 w (by rw [ej]; exact hw)
        exact .inr (wle_trans (hu _ hk ⟨(h.lab.kn _ hk q1).1, by simpa using c⟩) (wle_trans q2 (wle_snoc q3 k)))
    · exact .inr (wle_trans ih (wle_ext w (hC k h1).1))
/-- An edge is done. -/
def setD (l : List Lb) (u : Nat) : List Lb := l.set u ((l.getD u zL).1, ((l.getD u zL).2.1, ((l.getD u zL).2.2.1, (decide ((l.getD u zL).2.2.2.1 = true), true))))
theorem setD_dn {l : List Lb} {u : Nat} (hu : u < l.length) (j : Nat) : dnL (setD l u) j = if u = j then true else dnL l j := by
  unfold setD dnL
  rw [gsetN]
  by_cases e : u = j
  · subst e; simp [hu]
  · simp [e]
theorem setD_same {l : List Lb} {u : Nat} (j : Nat) : knL (setD l u) j = knL l j ∧ ((setD l u).getD j zL).1 = (l.getD j zL).1 ∧ ((setD l u).getD j zL).2.1 = (l.getD j zL).2.1 ∧ ((setD l u).getD j zL).2.2.1 = (l.getD j zL).2.2.1 := by
  unfold setD knL
  rw [gsetN]
  split
  · rename_i e; obtain ⟨rfl, _⟩ := e; simp
  · exact ⟨rfl, rfl, rfl, rfl⟩
theorem Lab.done {E : List Ed} {B : List Pt} {s : Int} {l : List Lb} {W : List (List Int)} (h : Lab E B s l W) {u : Nat} (hu : u < E.length) (hw : W.getD u [] ≠ []) : Lab E B s (setD l u) W := by
  have hul : u < l.length := by rw [h.l1]; exact hu
  have mono : ∀ j, dnL l j = true → dnL (setD l u) j = true := fun j hj => by rw [setD_dn hul]; split <;> simp [hj]
  refine ⟨by unfold setD; simpa using h.l1, h.l2, fun i hi hwi => ?_, fun i hi hwi => ?_, fun i hi hwi => ?_, fun i hi x hx => ?_⟩
  · obtain ⟨q1, q2⟩ := h.un i hi hwi
    have hne : u ≠ i := fun e => hw (e ▸ hwi)
    exact ⟨by rw [(setD_same i).1]; exact q1, by rw [setD_dn hul, if_neg hne]; exact q2⟩
  · obtain ⟨q1, q2, q3, q4⟩ := h.kn i hi hwi
    obtain ⟨s1, s2, s3, _⟩ := setD_same (l := l) (u := u) i
    exact ⟨s1.trans q1, s2.trans q2, s3.trans q3, q4⟩
  · obtain ⟨_, _, _, s4⟩ := setD_same (l := l) (u := u) i
    rw [s4]
    rcases h.pv i hi hwi with q | ⟨j, q1, q2, q3, q4⟩
    · exact .inl q
    · exact .inr ⟨j, q1, q2, mono j q3, q4⟩
  · exact (h.pd i hi x hx).imp id (mono _)
/-- What holds while the edges behind the edge u are looked at. -/
structure Mid2 (E : List Ed) (B : List Pt) (s : Int) (u : Nat) (ks : List Int) (l : List Lb) (W : List (List Int)) : Prop where
  lab : Lab E B s l W
  dn : DoneB E B s l W
  fr : ∀ k : Nat, k < E.length → fromE E (k : Int) = s → From E s W k
  ud : dnL l u = true
  ov : ∀ j k : Nat, j < E.length → dnL l j = true → k < E.length → Goes E B (j : Int) (k : Int) → j ≠ u ∨ (k : Int) ∈ ks → Over E W j k
theorem Front2.mid {E : List Ed} {B : List Pt} {s : Int} {l : List Lb} {W : List (List Int)} (hC : CostOK E) (h : Front2 E B s l W) {u : Nat} (hu : u < E.length) (hw : WaitL l u) (hl : ∀ j, j < E.length → WaitL l j → wle E (W.getD u []) (W.getD j [])) : Mid2 E B s u [] (setD l u) W := by
  have hul : u < l.length := by rw [h.lab.l1]; exact hu
  have hwu := h.lab.wait hu hw.1
  refine ⟨h.lab.done hu hwu, fun j hj hd => ?_, h.fr, by rw [setD_dn hul, if_pos rfl], fun j k hj hd hk hg hju => ?_⟩
  · rw [setD_dn hul] at hd
    by_cases e : u = j
    · subst e
      refine ⟨hwu, fun w hy => ?_⟩
      rcases h.claim hC hl hy with q | q
      · rw [Int.toNat_natCast, hw.2] at q; cases q
      · exact q
    · rw [if_neg e] at hd; exact h.dn j hj hd
  · have hju : j ≠ u := hju.resolve_right (by simp)
    rw [setD_dn hul, if_neg (fun e => hju e.symm)] at hd
    exact h.ov j k hj hd hk hg
theorem Mid2.front {E : List Ed} {B : List Pt} {s : Int} {u : Nat} {ks : List Int} {l : List Lb} {W : List (List Int)} (h : Mid2 E B s u ks l W) (hk : ∀ k, Goes E B (u : Int) k → k ∈ ks) : Front2 E B s l W :=
  ⟨h.lab, h.dn, h.fr, fun j k hj hd hk' hg => h.ov j k hj hd hk' hg (by
    by_cases e : j = u
    · subst e; exact .inr (hk _ hg)
    · exact .inl e)⟩
theorem Mid2.offer {E : List Ed} {B : List Pt} {s : Int} {u : Nat} {ks : List Int} {l l' : List Lb} {W : List (List Int)} (h : Mid2 E B s u ks l W) {i : Nat} {p : List Int} (hp : W.getD u [] = p) (hi : i < E.length) (hg : Goes E B (u : Int) (i : Int)) (hu : u < E.length) (hl : Lab E B s l' (offW E l W i (p ++ [(i : Int)]))) (hd : ∀ j, dnL l' j = dnL l j) :
    Mid2 E B s u (ks ++ [(i : Int)]) l' (offW E l W i (p ++ [(i : Int)])) := by
  have hiw : i < W.length := by rw [h.lab.l2]; exact hi
  have hless := offW_less (E := E) (l := l) (W := W) (i := i) (v := p ++ [(i : Int)]) hiw (by simp)
  refine ⟨hl, fun j hj hdj => ?_, fun k hk hf => ?_, by rw [hd]; exact h.ud, fun j k hj hdj hk hgo hor => ?_⟩
  · rw [hd] at hdj
    rw [offW_done hdj]
    exact h.dn j hj hdj
  · obtain ⟨q1, q2⟩ := h.fr k hk hf
    obtain ⟨q3, q4⟩ := hless k q1
    exact ⟨q3, wle_trans q4 q2⟩
  · rw [hd] at hdj
    by_cases c : j ≠ u ∨ (k : Int) ∈ ks
    · obtain ⟨q1, q2⟩ := h.ov j k hj hdj hk hgo c
      obtain ⟨q3, q4⟩ := hless k q1
      exact ⟨q3, by rw [offW_done hdj]; exact wle_trans q4 q2⟩
    · have hju : j = u := Decidable.byContradiction fun e => c (.inl e)
      have hki : k = i := by
        rcases hor with e | e
        · exact (e hju).elim
        · rcases List.mem_append.1 e with e | e
          · exact (c (.inr e)).elim
          · simp only [List.mem_singleton] at e; omega
      subst hju hki
      unfold Over
      rw [offW_done hdj, hp]
      by_cases hdk : dnL l k = true
      · rw [offW_done hdk]
        obtain ⟨q1, q2⟩ := h.dn k hk hdk
        refine ⟨q1, q2 _ ?_⟩
        rw [← hp]
        exact .snoc _ (j : Int) _ (h.lab.kn j hj (h.dn j hj hdj).1).2.2.2.1 hgo.1 hgo.2.1 hgo.2.2
      · exact offW_at hiw (by simp) (by simpa using hdk)
/-- At the end: no edge waits. -/
theorem Front2.opt {E : List Ed} {B : List Pt} {s : Int} {l : List Lb} {W : List (List Int)} (hC : CostOK E) (h : Front2 E B s l W) (hn : ∀ j, j < E.length → ¬ WaitL l j) : Opt E B s W := by
  have hdone : ∀ j, j < E.length → W.getD j [] ≠ [] → dnL l j = true := fun j hj hw => by
    cases hd : dnL l j with
    | true => rfl
    | false => exact (hn j hj ⟨(h.lab.kn j hj hw).1, hd⟩).elim
  have hall : ∀ w k, Wy E B s w k → dnL l k.toNat = true := fun w k hw => by
    induction hw with
    | one k h1 h2 =>
      have hk : k.toNat < E.length := by have := h1.2; have := h1.1; omega
      have ek : ((k.toNat : Nat) : Int) = k := by have := h1.1; omega
      exact hdone _ hk (h.fr k.toNat hk (by rw [ek]; exact h2)).1
    | snoc w j k hw h1 h2 h3 ih =>
      have hk : k.toNat < E.length := by have := h1.2; have := h1.1; omega
      have ek : ((k.toNat : Nat) : Int) = k := by have := h1.1; omega
      have hj := hw.inR
      have hj' : j.toNat < E.length := by have := hj.2; have := hj.1; omega
      have ej : ((j.toNat : Nat) : Int) = j := by have := hj.1; omega
      exact hdone _ hk (h.ov j.toNat k.toNat hj' ih hk (by rw [ej, ek]; exact ⟨h1, h2, h3⟩)).1
  refine ⟨h.lab.l2, fun i hi hw w hy => ?_, fun i hi hw => ⟨(h.lab.kn i hi hw).2.2.2.1, (h.dn i hi (hdone i hi hw)).2⟩, fun i hi hw => h.lab.size hi hw⟩
  have := hall w _ hy
  rw [Int.toNat_natCast, (h.lab.un i hi hw).2] at this; cases this
/-! ### How many edges are not done -/
def restL (E : List Ed) (l : List Lb) : Nat := ((List.range E.length).filter (fun i => !dnL l i)).length
theorem filter_lt {α : Type} {p q : α → Bool} : ∀ {l : List α}, (∀ x ∈ l, p x = true → q x = true) → (∃ x ∈ l, q x = true ∧ p x = false) → (l.filter p).length < (l.filter q).length
  | [], _, h => by obtain ⟨x, hx, _⟩ := h; cases hx
  | a :: l, h, k => by
    have hle : ∀ m : List α, (∀ x ∈ m, p x = true → q x = true) → (m.filter p).length ≤ (m.filter q).length := fun m => by
      induction m with
      | nil => intro _; simp
      | cons b m ih =>
        intro hm
        have h1 := ih (fun x hx => hm x (List.mem_cons_of_mem _ hx))
        have h2 := hm b (List.mem_cons_self ..)
        simp only [List.filter_cons]
        cases hpb : p b with
        | true => rw [h2 hpb]; simp; omega
        | false => cases q b <;> simp <;> omega
    have h1 := hle l (fun x hx => h x (List.mem_cons_of_mem _ hx))
    simp only [List.filter_cons]
    obtain ⟨x, hx, hx1, hx2⟩ := k
    rcases List.mem_cons.1 hx with rfl | hx
    · rw [hx1, hx2]; simp; omega
    · have h2 := filter_lt (p := p) (q := q) (l := l) (fun x hx => h x (List.mem_cons_of_mem _ hx)) ⟨x, hx, hx1, hx2⟩
      have h3 := h a (List.mem_cons_self ..)
      cases hpa : p a with
      | true => rw [h3 hpa]; simp; omega
      | false => cases q a <;> simp <;> omega
theorem rest_same {E : List Ed} {l l' : List Lb} (h : ∀ j, dnL l' j = dnL l j) : restL E l' = restL E l := by
  unfold restL
  rw [show (fun i => !dnL l' i) = fun i => !dnL l i from funext fun i => by rw [h]]
theorem rest_done {E : List Ed} {l : List Lb} {u : Nat} (hl : l.length = E.length) (hu : u < E.length) (hd : dnL l u = false) : restL E (setD l u) < restL E l := by
  unfold restL
  have hul : u < l.length := by omega
  refine filter_lt (fun x _ hx => ?_) ⟨u, List.mem_range.2 hu, by simpa using hd, by rw [setD_dn hul]; simp⟩
  rw [setD_dn hul] at hx
  split at hx
  · simp at hx
  · exact hx
end Go.Proofs.Ytoebjlimpnmaoaa.Rw

namespace Go.Proofs.Ytoebjlimpnmaoaa.Rw
open Go.Rx
set_option linter.unusedVariables false
set_option linter.unusedSimpArgs false
abbrev SrR := ((Nt × List (List Int) × Unit) × List Lb × Unit) × Unit
theorem run_inner {RL : Nat → Nat → List Pt → List Ed → List Pt → List (List Int) → List Lb → Int → Option SrR} {N B : List Pt} {E : List Ed} {s : Int} {nx : List (List Int)} (hE : E.length ≤ 600) (hC : CostOK E) {u : Nat} (hu : u < E.length) {row : List Int} (hrow : row.length ≤ 600) (hgo : ∀ k ∈ row, Goes E B (u : Int) k) : ∀ (rest pre : List Int) (l : List Lb) (W : List (List Int)), pre ++ rest = row → Mid2 E B s u pre l W →
    ∃ l' W', Mid2 E B s u row l' W' ∧ restL E l' = restL E l ∧ ∀ res, Ev2 (fun k n => (f83 k ((N, (E, B)), (l', nx))).bind fun r2 => RL k n N E B nx l' r2.1) res →
      Ev3 (fun k n m => f59_l4 k (RL k n) m N E B nx l row (row.length : Int) (pre.length : Int) (u : Int)) res
  | [], pre, l, W, hpr, h => by
    have e : pre = row := by simpa using hpr
    subst e
    refine ⟨l, W, h, rfl, fun res hr => Ev3.step (g := fun k n _ => (f83 k ((N, (E, B)), (l, nx))).bind fun r2 => RL k n N E B nx l r2.1) (fun k n m => ?_) hr.three⟩
    rw [f59_l4, f59_l4_B, if_neg (by omega)]
  | x :: rest, pre, l, W, hpr, h => by
    have i0 : (0 : Int) ≤ (pre.length : Int) := by omega
    have i1 : (pre.length : Int) < (row.length : Int) := by rw [← hpr]; simp; omega
    have hg : row.getD ((pre.length : Int)).toNat 0 = x := by rw [← hpr]; exact getD_mid
    have hw : w64 ((pre.length : Int) + 1) = (((pre ++ [x]).length : Nat) : Int) := by
      rw [w64_id (by omega) (by omega)]; simp
    have hx := hgo x (by rw [← hpr]; simp)
    have hxn : x.toNat < E.length := by have := hx.1.2; have := hx.1.1; omega
    have ex : ((x.toNat : Nat) : Int) = x := by have := hx.1.1; omega
    have hwu := (h.dn u hu h.ud).1
    obtain ⟨l1, o1, o2, o3⟩ := offer_ev (N := N) (nx := nx) hE hC h.lab (pr := (u : Int)) (p := W.getD u []) (i := x.toNat) ⟨hxn, .inr ⟨u, rfl, hu, rfl, hwu, h.ud, by rw [ex]; exact hx.2.1, by rw [ex]; exact hx.2.2⟩⟩
    have hm := h.offer rfl hxn (by rw [ex]; exact hx) hu o2 o3
    rw [ex] at hm o1
    obtain ⟨l', W', q1, q2, q3⟩ := run_inner (RL := RL) (N := N) (nx := nx) hE hC hu hrow hgo rest (pre ++ [x]) l1 _ (by simp [← hpr]) hm
    refine ⟨l', W', q1, q2.trans (rest_same o3), fun res hr => ?_⟩
    obtain ⟨K, hK⟩ := o1
    refine Ev3.stepE K (fun k n m hk => ?_) (q3 res hr)
    have hk' := hK k hk
    simp only at hk'
    rw [f59_l4, f59_l4_B, if_pos i1, if_pos i0, if_pos i1, hg, hk', Option.bind_some, hw]
theorem run_main {N B : List Pt} {E : List Ed} {s : Int} {nx : List (List Int)} (hE : E.length ≤ 600) (hC : CostOK E) (hN : NX E B nx) : ∀ (d : Nat) (l : List Lb) (W : List (List Int)) (u : Int), restL E l < d → Front2 E B s l W → LeastL E l W E.length u →
    ∃ lf Wf, Lab E B s lf Wf ∧ Opt E B s Wf ∧ Ev2 (fun k n => f59_l2 k n N E B nx l u) ((((N, (E, B)), nx, ()), (lf, ())), ())
  | 0, l, W, u, hd, _, _ => by omega
  | d + 1, l, W, u, hd, h, hu => by
    rcases hu with ⟨rfl, hu⟩ | ⟨v, rfl, hv, hw, hu⟩
    · refine ⟨l, W, h.lab, h.opt hC hu, Ev2.step (g := fun _ _ => some ((((N, (E, B)), nx, ()), (l, ())), ())) (fun k n => ?_) (Ev2.pure _)⟩
      rw [f59_l2, f59_l2_B, if_neg (by decide)]
    · have hvl : v < l.length := by rw [h.lab.l1]; exact hv
      have hm := h.mid hC hv hw hu
      obtain ⟨r1, r2⟩ := hN.row v hv
      obtain ⟨l', W', q1, q2, q3⟩ := run_inner (RL := fun k n => f59_l2 k n) (N := N) (nx := nx) hE hC hv (row := nx.getD v []) (by omega) (fun k hk => (r2 k).1 hk) (nx.getD v []) [] (setD l v) W rfl hm
      have hf := q1.front (fun k hk => (r2 k).2 hk)
      obtain ⟨t, t1, t2⟩ := least_ev (N := N) (nx := nx) hE hf.lab
      have hlt := rest_done h.lab.l1 hv hw.2
      obtain ⟨lf, Wf, z1, z2, z3⟩ := run_main (N := N) (nx := nx) hE hC hN d l' W' t (by omega) hf t1
      refine ⟨lf, Wf, z1, z2, ?_⟩
      have hq := (q3 _ (t2.bind2 z3)).in_
      refine Ev2.step (fun k n => ?_) hq
      have a0 : (0 : Int) ≤ (v : Int) := by omega
      have a1 : (v : Int) < (l.length : Int) := by omega
      have a2 : (v : Int) < (nx.length : Int) := by rw [hN.len]; omega
      rw [f59_l2, f59_l2_B, if_pos a0, if_pos a0, if_pos a1, if_pos a0, if_pos a2, Int.toNat_natCast]
      rfl
/-- Before any edge is done: what begins at the node is offered. -/
theorem run_first {N B : List Pt} {E : List Ed} {s : Int} {nx : List (List Int)} (hE : E.length ≤ 600) (hC : CostOK E) (hN : NX E B nx) {row : List Int} (hrow : row.length ≤ 600) (hgo : ∀ k, k ∈ row ↔ inR k E.length ∧ fromE E k = s) : ∀ (rest pre : List Int) (l : List Lb) (W : List (List Int)), pre ++ rest = row → Lab E B s l W → (∀ j, dnL l j = false) → (∀ k : Nat, (k : Int) ∈ pre → From E s W k) →
    ∃ lf Wf, Lab E B s lf Wf ∧ Opt E B s Wf ∧ Ev2 (fun k n => f59_l0 k n N E B nx l row (row.length : Int) (pre.length : Int)) ((((N, (E, B)), nx, ()), (lf, ())), ())
  | [], pre, l, W, hpr, h, hd, hf => by
    have e : pre = row := by simpa using hpr
    subst e
    have hF : Front2 E B s l W := ⟨h, fun j _ hj => (by rw [hd] at hj; cases hj), fun k hk hks => hf k ((hgo _).2 ⟨⟨by omega, by omega⟩, hks⟩), fun j k _ hj => (by rw [hd] at hj; cases hj)⟩
    obtain ⟨t, t1, t2⟩ := least_ev (N := N) (nx := nx) hE h
    obtain ⟨lf, Wf, z1, z2, z3⟩ := run_main (N := N) (nx := nx) hE hC hN (restL E l + 1) l W t (by omega) hF t1
    refine ⟨lf, Wf, z1, z2, Ev2.step (g := fun k _ => (f83 k ((N, (E, B)), (l, nx))).bind fun r2 => f59_l2 k k N E B nx l r2.1) (fun k n => ?_) (t2.bind z3.diag).two⟩
    rw [f59_l0, f59_l0_B, if_neg (by omega)]
  | x :: rest, pre, l, W, hpr, h, hd, hf => by
    have i0 : (0 : Int) ≤ (pre.length : Int) := by omega
    have i1 : (pre.length : Int) < (row.length : Int) := by rw [← hpr]; simp; omega
    have hg : row.getD ((pre.length : Int)).toNat 0 = x := by rw [← hpr]; exact getD_mid
    have hw : w64 ((pre.length : Int) + 1) = (((pre ++ [x]).length : Nat) : Int) := by
      rw [w64_id (by omega) (by omega)]; simp
    have hx := (hgo x).1 (by rw [← hpr]; simp)
    have hxn : x.toNat < E.length := by have := hx.1.2; have := hx.1.1; omega
    have ex : ((x.toNat : Nat) : Int) = x := by have := hx.1.1; omega
    obtain ⟨l1, o1, o2, o3⟩ := offer_ev (N := N) (nx := nx) hE hC h (pr := -1) (p := []) (i := x.toNat) ⟨hxn, .inl ⟨rfl, rfl, by rw [ex]; exact hx.2⟩⟩
    have hxw : x.toNat < W.length := by rw [h.l2]; exact hxn
    obtain ⟨lf, Wf, z1, z2, z3⟩ := run_first (N := N) (nx := nx) hE hC hN hrow hgo rest (pre ++ [x]) l1 _ (by simp [← hpr]) o2 (fun j => by rw [o3]; exact hd j) (fun k hk => by
      rcases List.mem_append.1 hk with hk | hk
      · obtain ⟨q1, q2⟩ := hf k hk
        obtain ⟨q3, q4⟩ := offW_less (E := E) (l := l) (W := W) (i := x.toNat) (v := [] ++ [((x.toNat : Nat) : Int)]) hxw (by simp) k q1
        exact ⟨q3, wle_trans q4 q2⟩
      · have hk : (k : Int) = x := by simpa using hk
        have hkx : x.toNat = k := by omega
        have := offW_at (E := E) (l := l) (W := W) (i := x.toNat) (v := [] ++ [((x.toNat : Nat) : Int)]) hxw (by simp) (hd _)
        unfold From
        rw [hkx] at this ⊢
        exact this)
    refine ⟨lf, Wf, z1, z2, ?_⟩
    rw [ex] at o1
    obtain ⟨K, hK⟩ := o1
    refine Ev2.stepE K (fun k n hk => ?_) z3
    have hk' := hK k hk
    simp only at hk'
    rw [f59_l0, f59_l0_B, if_pos i1, if_pos i0, if_pos i1, hg, hk', Option.bind_some, hw]
theorem lab_none (E : List Ed) (B : List Pt) (s : Int) : Lab E B s (List.replicate E.length zL) (List.replicate E.length []) := by
  have g : ∀ i, (List.replicate E.length ([] : List Int)).getD i [] = [] := fun i => by
    rw [List.getD_eq_getElem?_getD, List.getElem?_replicate]; split <;> rfl
  have g2 : ∀ i, (List.replicate E.length zL).getD i zL = zL := fun i => by
    rw [List.getD_eq_getElem?_getD, List.getElem?_replicate]; split <;> rfl
  exact ⟨by simp, by simp, fun i _ _ => by unfold knL dnL; rw [g2]; exact ⟨rfl, rfl⟩, fun i _ h => (h (g i)).elim, fun i _ h => (h (g i)).elim, fun i _ x hx => by rw [g i] at hx; cases hx⟩
theorem run_ev {N B : List Pt} {E : List Ed} (s : Int) {nx : List (List Int)} (hE : E.length ≤ 600) (hC : CostOK E) (hN : NX E B nx) :
    ∃ lf Wf, Lab E B s lf Wf ∧ Opt E B s Wf ∧ Ev (fun k => f59 k (N, (E, B)) nx (List.replicate E.length zL) s) ((((N, (E, B)), nx, ()), (lf, ())), ()) := by
  have hlen := outL_len s E 0
  obtain ⟨lf, Wf, z1, z2, z3⟩ := run_first (N := N) (nx := nx) (s := s) hE hC hN (row := outL s 0 E) (by omega) (fun k => outE_mem) (outL s 0 E) [] (List.replicate E.length zL) _ rfl (lab_none E B s) (fun j => by
    unfold dnL
    rw [show (List.replicate E.length zL).getD j zL = zL by rw [List.getD_eq_getElem?_getD, List.getElem?_replicate]; split <;> rfl]; rfl) (fun k hk => by cases hk)
  refine ⟨lf, Wf, z1, z2, ?_⟩
  simp only [f59, f59_entry_B]
  exact (outX_ev N E B s hE).bind z3.diag
/-! ### start -/
def nxt (E : List Ed) (B : List Pt) (i : Nat) : List Int := (outL (toE E (i : Int)) 0 E).filter (fun k => turnF E B (i : Int) k)
theorem nxt_mem {E : List Ed} {B : List Pt} {i : Nat} (hi : i < E.length) (k : Int) : k ∈ nxt E B i ↔ Goes E B (i : Int) k := by
  unfold nxt Goes turnF
  rw [List.mem_filter, outE_mem]
  simp only [decide_eq_true_eq]
  constructor
  · rintro ⟨⟨h1, h2⟩, h3, h4, h5, h6⟩
    exact ⟨h1, h5, h6⟩
  · rintro ⟨h1, h2, h3⟩
    exact ⟨⟨h1, h2.symm⟩, ⟨by omega, by omega⟩, h1, h2, h3⟩
theorem set_same (R : List (List Int)) (i : Nat) : R.set i (R.getD i []) = R := by
  refine List.ext_getElem (by simp) fun j h1 h2 => ?_
  rw [List.getElem_set]
  split
  · rename_i e; subst e
    rw [List.getD_eq_getElem?_getD, List.getElem?_eq_getElem h2]; rfl
  · rfl
theorem start_inner {RL : Nat → Nat → List Pt → List Ed → List Pt → List Lb → List (List Int) → Int → Int → Option SrR} {N B : List Pt} {E : List Ed} {y12 : List Lb} (hE : E.length ≤ 600) (hB : B.length ≤ 1000000) {i : Nat} (hi : i < E.length) {L : List Int} (hL : L.length ≤ 600) {res : SrR} : ∀ (rest pre : List Int) (R : List (List Int)), pre ++ rest = L → R.length = E.length → (R.getD i []).length ≤ pre.length →
    Ev2 (fun k n => RL k n N E B y12 (R.set i (R.getD i [] ++ rest.filter (fun k => turnF E B (i : Int) k))) (E.length : Int) ((i + 1 : Nat) : Int)) res →
    Ev3 (fun k n m => f58_l2 k (RL k n) m N E B y12 R L (E.length : Int) (i : Int) (L.length : Int) (pre.length : Int)) res
  | [], pre, R, hpr, hR, hlen, hr => by
    have e : pre = L := by simpa using hpr
    subst e
    simp only [List.filter_nil, List.append_nil, set_same] at hr
    refine Ev3.step (g := fun k n _ => RL k n N E B y12 R (E.length : Int) ((i + 1 : Nat) : Int)) (fun k n m => ?_) hr.three
    rw [f58_l2, f58_l2_B, if_neg (by omega), w64_id (by omega) (by omega)]
    congr 1
  | x :: rest, pre, R, hpr, hR, hlen, hr => by
    have i0 : (0 : Int) ≤ (pre.length : Int) := by omega
    have hpl : pre.length < L.length := by rw [← hpr]; simp
    have i1 : (pre.length : Int) < (L.length : Int) := by omega
    have hg : L.getD ((pre.length : Int)).toNat 0 = x := by rw [← hpr]; exact getD_mid
    have hw : w64 ((pre.length : Int) + 1) = (((pre ++ [x]).length : Nat) : Int) := by
      rw [w64_id (by omega) (by omega)]; simp
    have b0 : (0 : Int) ≤ (i : Int) := by omega
    have b1 : (i : Int) < (R.length : Int) := by omega
    have hiR : i < R.length := by omega
    obtain ⟨K, hK⟩ := turn_ev N E B hB (i : Int) x
    cases ht : turnF E B (i : Int) x with
    | false =>
      have := start_inner (RL := RL) (N := N) (y12 := y12) hE hB hi hL (res := res) rest (pre ++ [x]) R (by simp [← hpr]) hR (by rw [List.length_append]; omega) (by simpa [List.filter_cons, ht] using hr)
      refine Ev3.stepE K (fun k n m hk => ?_) this
      have hk' := hK k hk
      simp only [ht] at hk'
      rw [f58_l2, f58_l2_B, if_pos i1, if_pos i0, if_pos i1, hg, hk', Option.bind_some, if_neg (by simp), f58_c9, f58_c9_B, hw]
    | true =>
      have hgs : (R.set i (R.getD i [] ++ [x])).getD i [] = R.getD i [] ++ [x] := by rw [gsetN, if_pos ⟨rfl, hiR⟩]
      have := start_inner (RL := RL) (N := N) (y12 := y12) hE hB hi hL (res := res) rest (pre ++ [x]) (R.set i (R.getD i [] ++ [x])) (by simp [← hpr]) (by simpa using hR) (by rw [hgs]; simp only [List.length_append, List.length_singleton]; omega) (by
        rw [hgs, List.set_set]
        simpa [List.filter_cons, ht] using hr)
      refine Ev3.stepE K (fun k n m hk => ?_) this
      have hk' := hK k hk
      simp only [ht] at hk'
      rw [f58_l2, f58_l2_B, if_pos i1, if_pos i0, if_pos i1, hg, hk', Option.bind_some, if_pos rfl, if_pos b0, if_pos b1, Int.toNat_natCast, if_pos (by omega), if_pos b0, if_pos b1, if_pos rfl, f58_c9, f58_c9_B, hw]
theorem start_outer {N B : List Pt} {E : List Ed} {y12 : List Lb} (hE : E.length ≤ 600) (hB : B.length ≤ 1000000) : ∀ (d i : Nat) (R : List (List Int)), i + d = E.length → R.length = E.length → (∀ j, j < i → R.getD j [] = nxt E B j) → (∀ j, i ≤ j → R.getD j [] = []) →
    ∃ nx, NX E B nx ∧ Ev2 (fun k n => f58_l0 k n N E B y12 R (E.length : Int) (i : Int)) ((((N, (E, B)), nx, ()), (y12, ())), ())
  | 0, i, R, hi, hR, h1, h2 => by
    have e : i = E.length := by omega
    subst e
    refine ⟨R, ⟨hR, fun j hj => ?_⟩, Ev2.step (g := fun _ _ => some ((((N, (E, B)), R, ()), (y12, ())), ())) (fun k n => ?_) (Ev2.pure _)⟩
    · rw [h1 j hj]
      refine ⟨?_, nxt_mem hj⟩
      have := outL_len (toE E (j : Int)) E 0
      exact Nat.le_trans (List.length_filter_le _ _) this
    · rw [f58_l0, f58_l0_B, if_neg (by omega), f58_b0, f58_b0_B]
  | d + 1, i, R, hi, hR, h1, h2 => by
    have hiE : i < E.length := by omega
    have hiR : i < R.length := by omega
    have a0 : (0 : Int) ≤ (i : Int) := by omega
    have a1 : (i : Int) < (E.length : Int) := by omega
    have hlen := outL_len (toE E (i : Int)) E 0
    obtain ⟨nx, n1, n2⟩ := start_outer (N := N) (y12 := y12) hE hB d (i + 1) (R.set i (nxt E B i)) (by omega) (by simpa using hR) (fun j hj => by
      rw [gsetN]
      by_cases e : i = j
      · subst e; rw [if_pos ⟨rfl, hiR⟩]
      · rw [if_neg (fun z => e z.1)]; exact h1 j (by omega)) (fun j hj => by
      rw [gsetN, if_neg (fun z => by omega)]; exact h2 j (by omega))
    refine ⟨nx, n1, ?_⟩
    have hin := (start_inner (RL := fun k n => f58_l0 k n) (N := N) (y12 := y12) hE hB hiE (L := outL (toE E (i : Int)) 0 E) (by omega) (outL (toE E (i : Int)) 0 E) [] R rfl hR (by rw [h2 i (Nat.le_refl _)]; simp) (by
      rw [h2 i (Nat.le_refl _), List.nil_append]; exact n2)).in_
    obtain ⟨K, hK⟩ := outX_ev N E B (toE E (i : Int)) hE
    refine Ev2.stepE K (fun k n hk => ?_) hin
    have hk' := hK k hk
    simp only at hk'
    rw [f58_l0, f58_l0_B, if_pos a1, if_pos a0, if_pos a1]
    rw [show (E.getD ((i : Int)).toNat (0, (0, (0, 0)))).2.1 = toE E (i : Int) from rfl, hk', Option.bind_some]
    rfl
theorem start_ev (N : List Pt) {E : List Ed} {B : List Pt} (hE : E.length ≤ 600) (hB : B.length ≤ 1000000) : ∃ nx, NX E B nx ∧ Ev (fun k => f58 k (N, (E, B))) ((((N, (E, B)), nx, ()), (List.replicate E.length zL, ())), ()) := by
  obtain ⟨nx, n1, n2⟩ := start_outer (N := N) (y12 := List.replicate E.length zL) hE hB E.length 0 (List.replicate E.length []) (by omega) (by simp) (fun j hj => by omega) (fun j _ => by
    rw [List.getD_eq_getElem?_getD, List.getElem?_replicate]; split <;> rfl)
  refine ⟨nx, n1, ?_⟩
  simp only [f58, f58_entry_B]
  have a0 : (0 : Int) ≤ (E.length : Int) := by omega
  have a1 : (E.length : Int) ≤ 1073741824 := by omega
  simp only [if_pos a0, if_pos a1, Int.toNat_natCast]
  exact n2.diag
end Go.Proofs.Ytoebjlimpnmaoaa.Rw
