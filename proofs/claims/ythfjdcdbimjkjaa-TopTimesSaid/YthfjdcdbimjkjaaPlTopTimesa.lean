/- Plain laws for TopTimes. No condition. -/
import Derived.Test.YthfjdcdbimjkjaaRwTopTimesb
namespace Go.Proofs.Ythfjdcdbimjkjaa.Rw
open Go.Rx
set_option linter.unusedVariables false
set_option linter.unusedSimpArgs false
/-- A coordinate that is cut to the grid. -/
def cut (x : Int) : Int := if x < -1048576 then -1048576 else if 1048576 < x then 1048576 else x
theorem cut_in {x : Int} (h1 : -1048576 ≤ x) (h2 : x ≤ 1048576) : cut x = x := by unfold cut; rw [if_neg (by omega), if_neg (by omega)]
theorem limit_eq (k : Nat) (x : Int) : f159 k x 1048576 = some (cut x, ()) := by
  have e : mx2 true (w64 (0 - 1048576)) (mx2 false x 1048576) = cut x := by
    rw [w64_id (by omega) (by omega), mx2_max, mx2_min]
    unfold cut
    repeat' split
    all_goals omega
  simp only [f159, f159_entry_B, e]
theorem clamp_eq (k : Nat) (p : Int × Int) : f118 k p = some ((cut p.1, cut p.2), ()) := by
  simp only [f118, f118_entry_B, limit_eq, Option.bind_some]
end Go.Proofs.Ythfjdcdbimjkjaa.Rw

namespace Go.Proofs.Ythfjdcdbimjkjaa.Rw
open Go.Rx
set_option linter.unusedVariables false
set_option linter.unusedSimpArgs false
abbrev Pt := Int × Int
abbrev Ed := Int × (Int × (Int × Int))
abbrev Nt := List Pt × (List Ed × List Pt)
def zE : Ed := (0, (0, (0, 0)))
def okP (p : Pt) : Prop := p.1 = cut p.1 ∧ p.2 = cut p.2
instance (p : Pt) : Decidable (okP p) := by unfold okP; infer_instance
def nodF : List Pt → List Pt → Int
  | _, [] => 0
  | pre, p :: l => if okP p then (if p ∈ pre then 5 else nodF (pre ++ [p]) l) else 1
def inR (i : Int) (n : Nat) : Prop := 0 ≤ i ∧ i < (n : Int)
instance (i : Int) (n : Nat) : Decidable (inR i n) := by unfold inR; infer_instance
def badE (n : Nat) (e : Ed) : Prop := ¬ inR e.1 n ∨ ¬ inR e.2.1 n ∨ e.2.2.1 < 0 ∨ 1099511627776 < e.2.2.1
instance (n : Nat) (e : Ed) : Decidable (badE n e) := by unfold badE; infer_instance
def edF (n : Nat) : List Ed → Int
  | [] => 0
  | e :: l => if badE n e then 1 else if e.1 = e.2.1 then 11 else edF n l
def fromE (E : List Ed) (i : Int) : Int := (E.getD i.toNat zE).1
def toE (E : List Ed) (i : Int) : Int := (E.getD i.toNat zE).2.1
def costE (E : List Ed) (i : Int) : Int := (E.getD i.toNat zE).2.2.1
def banF (E : List Ed) : List Pt → List Pt → Int
  | _, [] => 0
  | pre, b :: l => if inR b.1 E.length ∧ inR b.2 E.length then (if toE E b.1 = fromE E b.2 then (if b ∈ pre then 5 else banF E (pre ++ [b]) l) else 9) else 1
def netF (n : Nt) : Int := if 200 < (n.1.length : Int) ∨ 600 < (n.2.1.length : Int) ∨ 600 < (n.2.2.length : Int) then 2 else if nodF [] n.1 = 0 then (if edF n.1.length n.2.1 = 0 then banF n.2.1 [] n.2.2 else edF n.1.length n.2.1) else nodF [] n.1
theorem conP_loop (a b : Int) : ∀ (l pre : List (Int × Int)), ((pre ++ l).length : Int) ≤ 1000000 → (a, b) ∉ pre →
    ∃ r : Int, Ev2 (fun k n => f127_l0 k n a b (pre ++ l) ((pre ++ l).length : Int) (pre.length : Int)) (r, ()) ∧ (0 ≤ r ↔ (a, b) ∈ pre ++ l)
  | [], pre, hl, hn => ⟨-1, Ev2.step (g := fun _ _ => some (-1, ())) (fun k n => by rw [f127_l0, f127_l0_B, if_neg (by simp)]) (Ev2.pure _), by simpa using hn⟩
  | x :: l, pre, hl, hn => by
    have h0 : (0 : Int) ≤ (pre.length : Int) := by omega
    have h1 : (pre.length : Int) < ((pre ++ x :: l).length : Int) := by simp; omega
    have hw : w64 ((pre.length : Int) + 1) = (((pre ++ [x]).length : Nat) : Int) := by
      rw [w64_id (by omega) (by simp at hl; omega)]; simp
    by_cases hx : a = x.1 ∧ b = x.2
    · refine ⟨(pre.length : Int), Ev2.step (g := fun _ _ => some ((pre.length : Int), ())) (fun k n => by rw [f127_l0, f127_l0_B, if_pos h1, if_pos h0, if_pos h1, getD_mid, if_pos hx]) (Ev2.pure _), ⟨fun _ => ?_, fun _ => h0⟩⟩
      rw [show (a, b) = x by ext <;> simp [hx.1, hx.2]]
      simp
    · have hne : (a, b) ≠ x := fun z => hx ⟨by rw [← z], by rw [← z]⟩
      obtain ⟨r, k1, k2⟩ := conP_loop a b l (pre ++ [x]) (by simpa using hl) (by simp [hn, hne])
      rw [show pre ++ [x] ++ l = pre ++ x :: l by simp] at k1 k2
      refine ⟨r, Ev2.step (fun k n => ?_) k1, k2⟩
      rw [f127_l0, f127_l0_B, if_pos h1, if_pos h0, if_pos h1, getD_mid, if_neg hx, hw]
theorem conP_ev (l : List (Int × Int)) (p : Int × Int) (hl : l.length ≤ 1000000) : Ev (fun k => f126 k l p) (decide (p ∈ l), ()) := by
  obtain ⟨r, k1, k2⟩ := conP_loop p.1 p.2 l [] (by simp; omega) (by simp)
  have k2 : 0 ≤ r ↔ p ∈ l := k2
  have h : Ev (fun k => f127 k l (p.1, p.2)) (r, ()) := k1.diag
  simp only [f126, f126_entry_B]
  refine h.bind ?_
  rw [show decide (p ∈ l) = decide (0 ≤ r) from decide_eq_decide.2 k2.symm]
  exact Ev.pure _
theorem conB_loop (a b : Int) : ∀ (l pre : List (Int × Int)), ((pre ++ l).length : Int) ≤ 1000000 → (a, b) ∉ pre →
    ∃ r : Int, Ev2 (fun k n => f153_l0 k n a b (pre ++ l) ((pre ++ l).length : Int) (pre.length : Int)) (r, ()) ∧ (0 ≤ r ↔ (a, b) ∈ pre ++ l)
  | [], pre, hl, hn => ⟨-1, Ev2.step (g := fun _ _ => some (-1, ())) (fun k n => by rw [f153_l0, f153_l0_B, if_neg (by simp)]) (Ev2.pure _), by simpa using hn⟩
  | x :: l, pre, hl, hn => by
    have h0 : (0 : Int) ≤ (pre.length : Int) := by omega
    have h1 : (pre.length : Int) < ((pre ++ x :: l).length : Int) := by simp; omega
    have hw : w64 ((pre.length : Int) + 1) = (((pre ++ [x]).length : Nat) : Int) := by
      rw [w64_id (by omega) (by simp at hl; omega)]; simp
    by_cases hx : a = x.1 ∧ b = x.2
    · refine ⟨(pre.length : Int), Ev2.step (g := fun _ _ => some ((pre.length : Int), ())) (fun k n => by rw [f153_l0, f153_l0_B, if_pos h1, if_pos h0, if_pos h1, getD_mid, if_pos hx]) (Ev2.pure _), ⟨fun _ => ?_, fun _ => h0⟩⟩
      rw [show (a, b) = x by ext <;> simp [hx.1, hx.2]]
      simp
    · have hne : (a, b) ≠ x := fun z => hx ⟨by rw [← z], by rw [← z]⟩
      obtain ⟨r, k1, k2⟩ := conB_loop a b l (pre ++ [x]) (by simpa using hl) (by simp [hn, hne])
      rw [show pre ++ [x] ++ l = pre ++ x :: l by simp] at k1 k2
      refine ⟨r, Ev2.step (fun k n => ?_) k1, k2⟩
      rw [f153_l0, f153_l0_B, if_pos h1, if_pos h0, if_pos h1, getD_mid, if_neg hx, hw]
theorem conB_ev (l : List (Int × Int)) (p : Int × Int) (hl : l.length ≤ 1000000) : Ev (fun k => f105 k l p) (decide (p ∈ l), ()) := by
  obtain ⟨r, k1, k2⟩ := conB_loop p.1 p.2 l [] (by simp; omega) (by simp)
  have k2 : 0 ≤ r ↔ p ∈ l := k2
  have h : Ev (fun k => f153 k l (p.1, p.2)) (r, ()) := k1.diag
  simp only [f105, f105_entry_B]
  refine h.bind ?_
  rw [show decide (p ∈ l) = decide (0 ≤ r) from decide_eq_decide.2 k2.symm]
  exact Ev.pure _
theorem ok_eq (k : Nat) (p : Pt) : f137 k p = some (decide (okP p), ()) := by
  simp only [f137, f137_entry_B, clamp_eq, Option.bind_some]
  rfl
theorem node_eq (k : Nat) (N : List Pt) (E : List Ed) (B : List Pt) (i : Int) : f138 k (N, (E, B)) i = some (decide (inR i N.length), ()) := by
  simp only [f138, f138_entry_B, f138_r1, f138_r1_B, inR]
  by_cases h : 0 ≤ i <;> simp [h]
theorem edge_eq (k : Nat) (N : List Pt) (E : List Ed) (B : List Pt) (i : Int) : f91 k (N, (E, B)) i = some (decide (inR i E.length), ()) := by
  simp only [f91, f91_entry_B, f91_r1, f91_r1_B, inR]
  by_cases h : 0 ≤ i <;> simp [h]
theorem chk_bans (N : List Pt) (E : List Ed) (B : List Pt) (hB : B.length ≤ 600) : ∀ (l pre : List Pt), pre ++ l = B →
    Ev2 (fun k n => f71_l4 k n N E B (B.length : Int) (pre.length : Int)) (banF E pre l, ())
  | [], pre, hpl => by
    subst hpl
    exact Ev2.step (g := fun _ _ => some (0, ())) (fun k n => by rw [f71_l4, f71_l4_B, if_neg (by simp)]) (Ev2.pure _)
  | b :: l, pre, hpl => by
    have ih := chk_bans N E B hB l (pre ++ [b]) (by simp [← hpl])
    have h0 : (0 : Int) ≤ (pre.length : Int) := by omega
    have h1 : (pre.length : Int) < (B.length : Int) := by rw [← hpl]; simp; omega
    have h1' : (pre.length : Int) ≤ (B.length : Int) := by omega
    have hg : B.getD ((pre.length : Int)).toNat (0, 0) = b := by rw [← hpl]; exact getD_mid
    have ht : B.take ((pre.length : Int)).toNat = pre := by rw [← hpl]; simp
    have hpre : pre.length ≤ 600 := by rw [← hpl] at hB; simp at hB; omega
    have hw : w64 ((pre.length : Int) + 1) = (((pre ++ [b]).length : Nat) : Int) := by
      rw [w64_id (by omega) (by omega)]; simp
    by_cases c1 : inR b.1 E.length
    · by_cases c2 : inR b.2 E.length
      · have d1 := c1; have d2 := c2
        unfold inR at d1 d2
        by_cases c3 : toE E b.1 = fromE E b.2
        · have c3' : (E.getD b.1.toNat (0, (0, (0, 0)))).2.1 = (E.getD b.2.toNat (0, (0, (0, 0)))).1 := c3
          refine Ev2.step (g := fun k n => (f105 k pre b).bind fun r1 => if r1.1 = true then some (5, ()) else f71_l4 k n N E B (B.length : Int) (((pre ++ [b]).length : Nat) : Int)) (fun k n => ?_) ((conB_ev pre b (by omega)).bind2 ?_)
          · rw [f71_l4, f71_l4_B, if_pos h1, if_pos h0, if_pos h1, hg]
            simp only [edge_eq, Option.bind_some, decide_eq_true c1, decide_eq_true c2, not_true_eq_false, if_false, decide_false, f71_r22, f71_r22_B, Bool.false_eq_true, if_pos d1.1, if_pos d1.2, if_pos d2.1, if_pos d2.2, if_pos c3', c3', if_pos h0, if_pos h1', ht, hw]
          · simp only [banF]
            rw [if_pos ⟨c1, c2⟩, if_pos c3]
            by_cases c4 : b ∈ pre
            · simp only [decide_eq_true c4, if_true, if_pos c4]; exact Ev2.pure _
            · simp only [decide_eq_false c4, Bool.false_eq_true, if_false, if_neg c4]; exact ih
        · have c3' : ¬ (E.getD b.1.toNat (0, (0, (0, 0)))).2.1 = (E.getD b.2.toNat (0, (0, (0, 0)))).1 := c3
          refine Ev2.step (g := fun _ _ => some (9, ())) (fun k n => ?_) (by simp only [banF]; rw [if_pos ⟨c1, c2⟩, if_neg c3]; exact Ev2.pure _)
          rw [f71_l4, f71_l4_B, if_pos h1, if_pos h0, if_pos h1, hg]
          simp only [edge_eq, Option.bind_some, decide_eq_true c1, decide_eq_true c2, not_true_eq_false, if_false, decide_false, f71_r22, f71_r22_B, Bool.false_eq_true, if_pos d1.1, if_pos d1.2, if_pos d2.1, if_pos d2.2]
          rw [if_pos c3']
      · refine Ev2.step (g := fun _ _ => some (1, ())) (fun k n => ?_) (by simp only [banF]; rw [if_neg (fun z => c2 z.2)]; exact Ev2.pure _)
        rw [f71_l4, f71_l4_B, if_pos h1, if_pos h0, if_pos h1, hg]
        simp only [edge_eq, Option.bind_some, decide_eq_true c1, decide_eq_false c2, not_true_eq_false, if_false, decide_true, f71_r22, f71_r22_B, Bool.false_eq_true, not_false_eq_true, if_true]
    · refine Ev2.step (g := fun _ _ => some (1, ())) (fun k n => ?_) (by simp only [banF]; rw [if_neg (fun z => c1 z.1)]; exact Ev2.pure _)
      rw [f71_l4, f71_l4_B, if_pos h1, if_pos h0, if_pos h1, hg]
      simp only [edge_eq, Option.bind_some, decide_eq_false c1, Bool.false_eq_true, not_false_eq_true, if_true, f71_r22, f71_r22_B]
theorem chk_edges (N : List Pt) (E : List Ed) (B : List Pt) (hE : E.length ≤ 600) {res : Int × Unit} (hB : Ev (fun k => f71_l4 k k N E B (B.length : Int) 0) res) : ∀ (l pre : List Ed), pre ++ l = E →
    Ev2 (fun k n => f71_l2 k n N E B (E.length : Int) (pre.length : Int)) (if edF N.length l = 0 then res else (edF N.length l, ()))
  | [], pre, hpl => by
    subst hpl
    exact Ev2.step (fun k n => by rw [f71_l2, f71_l2_B, if_neg (by simp)]) (by simpa [edF] using hB.two)
  | e :: l, pre, hpl => by
    have ih := chk_edges N E B hE hB l (pre ++ [e]) (by simp [← hpl])
    have h0 : (0 : Int) ≤ (pre.length : Int) := by omega
    have h1 : (pre.length : Int) < (E.length : Int) := by rw [← hpl]; simp; omega
    have hg : E.getD ((pre.length : Int)).toNat (0, (0, (0, 0))) = e := by rw [← hpl]; exact getD_mid
    have hw : w64 ((pre.length : Int) + 1) = (((pre ++ [e]).length : Nat) : Int) := by
      rw [w64_id (by omega) (by omega)]; simp
    have opn : ∀ k n, f71_l2 k (n + 1) N E B (E.length : Int) (pre.length : Int) = if badE N.length e then some (1, ()) else if e.1 = e.2.1 then some (11, ()) else f71_l2 k n N E B (E.length : Int) (((pre ++ [e]).length : Nat) : Int) := fun k n => by
      rw [f71_l2, f71_l2_B, if_pos h1, if_pos h0, if_pos h1, hg]
      simp only [node_eq, Option.bind_some, f71_r14, f71_r14_B, hw]
      unfold badE
      by_cases c1 : inR e.1 N.length <;> by_cases c2 : inR e.2.1 N.length <;> by_cases c3 : e.2.2.1 < 0 <;> by_cases c4 : 1099511627776 < e.2.2.1 <;> simp [c1, c2, c3, c4]
    refine Ev2.step opn ?_
    simp only [edF]
    by_cases c1 : badE N.length e
    · simp only [if_pos c1]; exact Ev2.pure _
    · simp only [if_neg c1]
      by_cases c2 : e.1 = e.2.1
      · simp only [if_pos c2]; exact Ev2.pure _
      · simp only [if_neg c2]; exact ih
theorem chk_nodes (N : List Pt) (E : List Ed) (B : List Pt) (hN : N.length ≤ 200) {res : Int × Unit} (hE : Ev (fun k => f71_l2 k k N E B (E.length : Int) 0) res) : ∀ (l pre : List Pt), pre ++ l = N →
    Ev2 (fun k n => f71_l0 k n N E B (N.length : Int) (pre.length : Int)) (if nodF pre l = 0 then res else (nodF pre l, ()))
  | [], pre, hpl => by
    subst hpl
    exact Ev2.step (fun k n => by rw [f71_l0, f71_l0_B, if_neg (by simp)]) (by simpa [nodF] using hE.two)
  | p :: l, pre, hpl => by
    have ih := chk_nodes N E B hN hE l (pre ++ [p]) (by simp [← hpl])
    have h0 : (0 : Int) ≤ (pre.length : Int) := by omega
    have h1 : (pre.length : Int) < (N.length : Int) := by rw [← hpl]; simp; omega
    have h1' : (pre.length : Int) ≤ (N.length : Int) := by omega
    have hg : N.getD ((pre.length : Int)).toNat (0, 0) = p := by rw [← hpl]; exact getD_mid
    have ht : N.take ((pre.length : Int)).toNat = pre := by rw [← hpl]; simp
    have hw : w64 ((pre.length : Int) + 1) = (((pre ++ [p]).length : Nat) : Int) := by
      rw [w64_id (by omega) (by omega)]; simp
    simp only [nodF]
    by_cases c1 : okP p
    · refine Ev2.step (g := fun k n => (f126 k pre p).bind fun r1 => if r1.1 = true then some (5, ()) else f71_l0 k n N E B (N.length : Int) (((pre ++ [p]).length : Nat) : Int)) (fun k n => ?_) ((conP_ev pre p (by omega)).bind2 ?_)
      · rw [f71_l0, f71_l0_B, if_pos h1, if_pos h0, if_pos h1, hg]
        simp only [ok_eq, Option.bind_some, decide_eq_true c1, not_true_eq_false, if_false, if_pos h0, if_pos h1', ht, hw]
      · simp only [if_pos c1]
        by_cases c4 : p ∈ pre
        · simp only [decide_eq_true c4, if_true, if_pos c4]; exact Ev2.pure _
        · simp only [decide_eq_false c4, Bool.false_eq_true, if_false, if_neg c4]; exact ih
    · refine Ev2.step (g := fun _ _ => some (1, ())) (fun k n => ?_) (by simp only [if_neg c1]; exact Ev2.pure _)
      rw [f71_l0, f71_l0_B, if_pos h1, if_pos h0, if_pos h1, hg]
      simp only [ok_eq, Option.bind_some, decide_eq_false c1, Bool.false_eq_true, not_false_eq_true, if_true]
theorem chk_ev (n : Nt) : Ev (fun k => f71 k n) (netF n, ()) := by
  obtain ⟨N, E, B⟩ := n
  unfold netF
  simp only [f71, f71_entry_B, f71_r1, f71_r1_B]
  by_cases h1 : 200 < (N.length : Int)
  · rw [if_pos (.inl h1)]; exact Ev.of (fun k => by rw [if_pos h1]; rfl) (Ev.pure _)
  · by_cases h2 : 600 < (E.length : Int)
    · rw [if_pos (.inr (.inl h2))]; exact Ev.of (fun k => by rw [if_neg h1, if_pos h2]; rfl) (Ev.pure _)
    · by_cases h3 : 600 < (B.length : Int)
      · rw [if_pos (.inr (.inr h3))]; exact Ev.of (fun k => by rw [if_neg h1, if_neg h2, decide_eq_true h3]; rfl) (Ev.pure _)
      · rw [if_neg (by omega)]
        have kB := (chk_bans N E B (by omega) B [] rfl).diag
        have kE := (chk_edges N E B (by omega) kB E [] rfl).diag
        have kN := (chk_nodes N E B (by omega) kE N [] rfl).diag
        have e : (if nodF [] N = 0 then (if edF N.length E = 0 then (banF E [] B, ()) else (edF N.length E, ())) else (nodF [] N, ()) : Int × Unit) = (if nodF [] N = 0 then (if edF N.length E = 0 then banF E [] B else edF N.length E) else nodF [] N, ()) := by
          repeat' split
          all_goals rfl
        rw [e] at kN
        exact Ev.of (fun k => by rw [if_neg h1, if_neg h2, decide_eq_false h3]; rfl) kN
end Go.Proofs.Ythfjdcdbimjkjaa.Rw

namespace Go.Proofs.Ythfjdcdbimjkjaa.Rw
open Go.Rx
theorem _root_.Go.Rx.Ev3.stepE {α : Type} {f g : Nat → Nat → Nat → Option α} {r : α} (K : Nat) (h : ∀ k n m, K ≤ k → f k n (m + 1) = g k n m) (hg : Ev3 g r) : Ev3 f r := by
  obtain ⟨K', hK⟩ := hg
  refine ⟨max K K' + 1, fun k n m hk hn hm => ?_⟩
  cases m with
  | zero => omega
  | succ m => rw [h _ _ _ (by omega)]; exact hK k n m (by omega) (by omega) (by omega)
theorem _root_.Go.Rx.Ev2.stepE {α : Type} {f g : Nat → Nat → Option α} {r : α} (K : Nat) (h : ∀ k n, K ≤ k → f k (n + 1) = g k n) (hg : Ev2 g r) : Ev2 f r := by
  obtain ⟨K', hK⟩ := hg
  refine ⟨max K K' + 1, fun k n hk hn => ?_⟩
  cases n with
  | zero => omega
  | succ n => rw [h _ _ (by omega)]; exact hK k n (by omega) (by omega)
end Go.Proofs.Ythfjdcdbimjkjaa.Rw

namespace Go.Proofs.Ythfjdcdbimjkjaa.Rw
open Go.Rx
set_option linter.unusedVariables false
set_option linter.unusedSimpArgs false
/-- The order of rows of numbers. -/
def cmpI : List Int → List Int → Int
  | [], [] => 0
  | [], _ :: _ => -1
  | _ :: _, [] => 1
  | a :: l, b :: m => if a < b then -1 else if b < a then 1 else cmpI l m
theorem cmp1 (k : Nat) (a b : Int) : f156 k a b = some (if a < b then -1 else if b < a then 1 else 0, ()) := by
  simp only [f156, f156_entry_B, f193, f193_entry_B]
  by_cases h1 : a < b <;> by_cases h2 : b < a <;> simp [h1, h2]
theorem cmp_loop : ∀ (l m p q : List Int), p.length = q.length → ((p ++ l).length : Int) ≤ 1073741824 → Ev2 (fun k n => f110_l0 k n (p ++ l) (q ++ m) ((p ++ l).length : Int) (p.length : Int)) (cmpI l m, ())
  | [], m, p, q, hpq, hl => Ev2.step (g := fun _ _ => some (cmpI [] m, ())) (fun k n => by
      rw [f110_l0, f110_l0_B, if_neg (by simp)]
      cases m with
      | nil => rw [if_neg (by simp; omega)]; rfl
      | cons b m => rw [if_pos (by simp; omega)]; rfl) (Ev2.pure _)
  | a :: l, m, p, q, hpq, hl => by
    have h0 : (p.length : Int) < ((p ++ a :: l).length : Int) := by simp; omega
    have h1 : (0 : Int) ≤ p.length := by omega
    have hw : w64 ((p.length : Int) + 1) = (((p ++ [a]).length : Nat) : Int) := by
      rw [w64_id (by omega) (by simp at hl; omega)]; simp
    cases m with
    | nil =>
      refine Ev2.step (g := fun _ _ => some (1, ())) (fun k n => ?_) (Ev2.pure _)
      rw [f110_l0, f110_l0_B, if_pos h0, if_pos h1, if_pos h0, if_pos (by simp; omega)]
    | cons b m =>
      have h2 : ¬ ((q ++ b :: m).length : Int) ≤ (p.length : Int) := by simp; omega
      have h3 : (p.length : Int) < ((q ++ b :: m).length : Int) := by simp; omega
      have h4 : (q ++ b :: m).getD ((p.length : Int)).toNat 0 = b := by rw [hpq]; exact getD_mid
      refine Ev2.step (g := fun k n => if a < b then some (-1, ()) else if b < a then some (1, ()) else f110_l0 k n (p ++ a :: l) (q ++ b :: m) ((p ++ a :: l).length : Int) (((p ++ [a]).length : Nat) : Int)) (fun k n => ?_) ?_
      · rw [f110_l0, f110_l0_B, if_pos h0, if_pos h1, if_pos h0, if_neg h2, if_pos h1, if_pos h3, getD_mid, h4, cmp1]
        simp only [Option.bind_some, hw]
        by_cases g1 : a < b
        · simp [g1]
        · by_cases g2 : b < a <;> simp [g1, g2]
      · simp only [cmpI]
        split
        · exact Ev2.pure _
        · split
          · exact Ev2.pure _
          · have := cmp_loop l m (p ++ [a]) (q ++ [b]) (by simp; omega) (by simpa using hl)
            rw [show p ++ [a] ++ l = p ++ a :: l by simp, show q ++ [b] ++ m = q ++ b :: m by simp] at this
            exact this
theorem cmp_ev (l m : List Int) (hl : (l.length : Int) ≤ 1073741824) : Ev (fun k => f110 k l m) (cmpI l m, ()) := by
  simp only [f110, f110_entry_B]
  simpa using (cmp_loop l m [] [] rfl (by simpa using hl)).diag
theorem clone_eq (k : Nat) (l : List Int) (hl : (l.length : Int) ≤ 1073741824) : f97u k l = some (l, ()) := by
  have h2 : ([] : List Int).length * 8 ≤ 140737488355328 := by simp
  cases l with
  | nil => rfl
  | cons a l =>
    show (if false = true then some (([] : List Int), ()) else if (([] : List Int).length + (a :: l).length) * 8 ≤ 140737488355328 then some (([] : List Int) ++ (a :: l), ()) else none) = some (a :: l, ())
    rw [if_neg (by simp), if_pos (by simp at hl ⊢; omega)]
    rfl
end Go.Proofs.Ythfjdcdbimjkjaa.Rw

namespace Go.Proofs.Ythfjdcdbimjkjaa.Rw
open Go.Rx
set_option linter.unusedVariables false
set_option linter.unusedSimpArgs false
theorem mask32 (n : Nat) (h : n < 4294967296) : bitI .and .u64 (n : Int) 4294967295 = (n : Int) := by
  have h1 : (BitVec.ofInt 64 (n : Int)).toNat = n := by
    rw [BitVec.ofInt_natCast, BitVec.toNat_ofNat]; exact Nat.mod_eq_of_lt (by omega)
  have h2 : (BitVec.ofInt 64 (4294967295 : Int)).toNat = 4294967295 := by rfl
  have e : n &&& 4294967295 = n % 4294967296 := Nat.and_two_pow_sub_one_eq_mod n 32
  have h3 : n &&& 4294967295 = n := by rw [e]; omega
  show IntKind.u64.wrap (((BitVec.ofInt 64 (n : Int) &&& BitVec.ofInt 64 (4294967295 : Int)).toNat : Nat) : Int) = n
  rw [BitVec.toNat_and, h1, h2, h3]
  simp [IntKind.wrap, IntKind.bits, IntKind.signed]
  omega
theorem u64_id {n : Int} (h0 : 0 ≤ n) (h1 : n < 18446744073709551616) : IntKind.u64.wrap n = n := by
  simp [IntKind.wrap, IntKind.bits, IntKind.signed]
  omega
theorem mul1 (k : Nat) (n : Nat) (h : n < 4294967296) : f169 k 1 (n : Int) = some (0, (n : Int), ()) := by
  have e1 : (1 : Int).fdiv (2 ^ min (32 : Int).toNat (IntKind.bits .u64)) = 0 := rfl
  have e2 : (n : Int).fdiv (2 ^ min (32 : Int).toNat (IntKind.bits .u64)) = 0 := by
    have : (2 : Int) ^ min (32 : Int).toNat (IntKind.bits .u64) = 4294967296 := rfl
    rw [this, Int.fdiv_eq_ediv_of_nonneg _ (by omega)]; omega
  have e3 : bitI .and .u64 1 4294967295 = 1 := mask32 1 (by omega)
  have e4 : bitI .and .u64 0 4294967295 = 0 := mask32 0 (by omega)
  have e5 : IntKind.u64.wrap (n : Int) = n := u64_id (by omega) (by omega)
  have e6 : IntKind.u64.wrap 0 = 0 := rfl
  have e7 : (0 : Int).fdiv (2 ^ min (32 : Int).toNat (IntKind.bits .u64)) = 0 := rfl
  simp only [f169, f169_entry_B, e1, e2, e3, mask32 n h, Int.zero_mul, Int.mul_zero, Int.one_mul, e6, e5, Int.zero_add, Int.add_zero, e7, e4]
theorem rep_loop (x : Int) (N : Nat) (hN : N ≤ 1073741824) : ∀ (d c : Nat) (y : List Int), N ≤ c + d → c ≤ N → (1 ≤ c ∨ N = 0) → y.length = N → (∀ q, q < c → y[q]? = some x) →
    Ev2 (fun k n => f69_l0 k n y (c : Int)) (List.replicate N x, ())
  | 0, c, y, hd, hc, h1, hl, hy => by
    refine Ev2.step (g := fun _ _ => some (y, ())) (fun k n => by rw [f69_l0, f69_l0_B, if_neg (by omega)]) ?_
    have : y = List.replicate N x := by
      apply List.ext_getElem?
      intro q
      rw [List.getElem?_replicate]
      by_cases hq : q < N
      · rw [if_pos hq]; exact hy q (by omega)
      · rw [if_neg hq, List.getElem?_eq_none (by omega)]
    rw [this]; exact Ev2.pure _
  | d + 1, c, y, hd, hc, h1, hl, hy => by
    by_cases hcN : c = N
    · subst hcN
      have := rep_loop x c hN 0 c y (by omega) hc h1 hl hy
      exact this
    · have hlt : (c : Int) < (y.length : Int) := by omega
      have hle : (c : Int) ≤ (y.length : Int) := by omega
      have h0 : (0 : Int) ≤ (c : Int) := by omega
      have hm : (List.take ((c : Int).toNat - (0 : Int).toNat) (List.drop ((0 : Int).toNat) y)).length = c := by simp; omega
      have hw : w64 ((c : Int) + ((min ((y.length : Int).toNat - (c : Int).toNat) (List.take ((c : Int).toNat - (0 : Int).toNat) (List.drop ((0 : Int).toNat) y)).length : Nat) : Int)) = ((c + min (N - c) c : Nat) : Int) := by
        rw [hm, w64_id (by omega) (by simp [hl]; omega)]; simp [hl]
      have hcl : (copyL y (List.take ((c : Int).toNat - (0 : Int).toNat) (List.drop ((0 : Int).toNat) y)) (c : Int).toNat ((y.length : Int).toNat - (c : Int).toNat)) = copyL y (y.take c) c (N - c) := by simp [hl]
      have hfit : c + (N - c) ≤ y.length := by omega
      have ht : (y.take c).length = c := by simp; omega
      refine Ev2.step (fun k n => ?_) (rep_loop x N hN d (c + min (N - c) c) (copyL y (y.take c) c (N - c)) (by omega) (by omega) (by omega) (by rw [copyL_len hfit]; exact hl) (fun q hq => ?_))
      · rw [f69_l0, f69_l0_B, if_pos hlt, if_pos h0, if_pos hle, if_pos h0, if_pos hle, hw, hcl]
      · rw [copyL_get hfit, ht]
        by_cases g : q < c
        · rw [if_pos g]; exact hy q g
        · rw [if_neg g, if_pos hq, List.getElem?_take, if_pos (by omega)]
          exact hy _ (by omega)
theorem repeat_ev (x : Int) (N : Nat) (hN : N ≤ 1073741824) : Ev (fun k => f69 k [x] (N : Int)) (List.replicate N x, ()) := by
  have hw : w64 (N : Int) = N := w64_id (by omega) (by omega)
  have hu : IntKind.u64.wrap (N : Int) = N := u64_id (by omega) (by omega)
  have hu1 : IntKind.u64.wrap ((([x] : List Int).length : Nat) : Int) = 1 := rfl
  have hl : (List.replicate N (0 : Int)).length = N := by simp
  have hfit : 0 + N ≤ (List.replicate N (0 : Int)).length := by simp
  have h := (rep_loop x N hN N (min N 1) (copyL (List.replicate N (0 : Int)) [x] 0 N) (by omega) (by omega) (by omega) (by rw [copyL_len hfit, hl]) (fun q hq => by
    rw [copyL_get hfit, if_neg (by omega), if_pos (by simp; omega)]
    have : q = 0 := by omega
    subst this; rfl)).diag
  refine Ev.of (fun k => ?_) h
  simp only [f69, f69_entry_B, f69_c2, f69_c2_B, f135, f135_entry_B, hu, hu1, mul1 k N (by omega), Option.bind_some, f69_r4, f69_r4_B, f69_c5, f69_c5_B, hw]
  rw [if_neg (by omega), if_neg (by omega), decide_eq_false (by omega), if_neg (by simp), if_pos (by omega), if_pos (by omega)]
  simp
end Go.Proofs.Ythfjdcdbimjkjaa.Rw

namespace Go.Proofs.Ythfjdcdbimjkjaa.Rw
open Go.Rx
set_option linter.unusedVariables false
set_option linter.unusedSimpArgs false
abbrev Ride := Int × (Int × (Int × (Int × Int)))
def rbad (S : Int) (r : Ride) : Prop := r.1 < 0 ∨ r.2.1 < 0 ∨ S ≤ r.1 ∨ S ≤ r.2.1 ∨ r.2.2.1 < 0 ∨ 1073741824 < r.2.2.2.1 ∨ r.2.2.2.1 ≤ r.2.2.1
instance (S : Int) (r : Ride) : Decidable (rbad S r) := by unfold rbad; infer_instance
def tabL (S : Int) : Int → List Ride → Int
  | _, [] => 0
  | d, r :: l => if rbad S r then 1 else if r.2.2.1 < d then 9 else tabL S r.2.2.1 l
def tabF (S C : Int) (l : List Ride) : Int := if S < 0 ∨ 200 < S ∨ 400 < (l.length : Int) then 2 else if C < 0 ∨ 1073741824 < C then 1 else tabL S 0 l
/-! ### Check -/
def lastD (pre : List Ride) : Int := match pre.getLast? with
  | some q => q.2.2.1
  | none => 0
theorem f134_l0_step (k n : Nat) (S C : Int) (pre l : List Ride) (r : Ride) (hlen : ((pre ++ r :: l).length : Int) ≤ 400) :
    f134_l0 k (n + 1) S C (pre ++ r :: l) ((pre ++ r :: l).length : Int) (pre.length : Int) = if rbad S r then some (1, ()) else if r.2.2.1 < lastD pre then some (9, ()) else f134_l0 k n S C (pre ++ r :: l) ((pre ++ r :: l).length : Int) (((pre ++ [r]).length : Nat) : Int) := by
  have h0 : (pre.length : Int) < ((pre ++ r :: l).length : Int) := by simp; omega
  have h1 : (0 : Int) ≤ pre.length := by omega
  have hw : w64 ((pre.length : Int) + 1) = (((pre ++ [r]).length : Nat) : Int) := by
    rw [w64_id (by omega) (by simp at hlen; omega)]; simp
  rw [f134_l0, f134_l0_B, if_pos h0, if_pos h1, if_pos h0, getD_mid]
  have key : ∀ (g : Int → Int → List Ride → Int → Int → Int → Int → Int → Int → Int → Bool → Option (Int × Unit)) (x y : Option (Int × Unit)), g S C (pre ++ r :: l) r.1 r.2.1 r.2.2.1 r.2.2.2.1 r.2.2.2.2 ((pre ++ r :: l).length : Int) (pre.length : Int) true = x → (¬ rbad S r → g S C (pre ++ r :: l) r.1 r.2.1 r.2.2.1 r.2.2.2.1 r.2.2.2.2 ((pre ++ r :: l).length : Int) (pre.length : Int) false = y) →
      (if r.1 < 0 then g S C (pre ++ r :: l) r.1 r.2.1 r.2.2.1 r.2.2.2.1 r.2.2.2.2 ((pre ++ r :: l).length : Int) (pre.length : Int) true else if r.2.1 < 0 then g S C (pre ++ r :: l) r.1 r.2.1 r.2.2.1 r.2.2.2.1 r.2.2.2.2 ((pre ++ r :: l).length : Int) (pre.length : Int) true else if S ≤ r.1 then g S C (pre ++ r :: l) r.1 r.2.1 r.2.2.1 r.2.2.2.1 r.2.2.2.2 ((pre ++ r :: l).length : Int) (pre.length : Int) true
        else if S ≤ r.2.1 then g S C (pre ++ r :: l) r.1 r.2.1 r.2.2.1 r.2.2.2.1 r.2.2.2.2 ((pre ++ r :: l).length : Int) (pre.length : Int) true else if r.2.2.1 < 0 then g S C (pre ++ r :: l) r.1 r.2.1 r.2.2.1 r.2.2.2.1 r.2.2.2.2 ((pre ++ r :: l).length : Int) (pre.length : Int) true else if 1073741824 < r.2.2.2.1 then g S C (pre ++ r :: l) r.1 r.2.1 r.2.2.1 r.2.2.2.1 r.2.2.2.2 ((pre ++ r :: l).length : Int) (pre.length : Int) true
        else g S C (pre ++ r :: l) r.1 r.2.1 r.2.2.1 r.2.2.2.1 r.2.2.2.2 ((pre ++ r :: l).length : Int) (pre.length : Int) (decide (r.2.2.2.1 ≤ r.2.2.1))) = if rbad S r then x else y := fun g x y hx hy => by
    by_cases hb : rbad S r
    · rw [if_pos hb]
      unfold rbad at hb
      repeat' split
      all_goals first | exact hx | (exfalso; omega) | (have : r.2.2.2.1 ≤ r.2.2.1 := by omega
                                                       rw [decide_eq_true this]; exact hx)
    · have hy := hy hb
      rw [if_neg hb]
      unfold rbad at hb
      rw [if_neg (by omega), if_neg (by omega), if_neg (by omega), if_neg (by omega), if_neg (by omega), if_neg (by omega), decide_eq_false (by omega)]
      exact hy
  refine key _ _ _ ?_ fun hb => ?_
  · simp [f134_r8, f134_r8_B]
  · simp only [f134_r8, f134_r8_B, f134_r10, f134_r10_B, hw]
    rcases List.eq_nil_or_concat pre with rfl | ⟨p, q, rfl⟩
    · have hd : ¬ r.2.2.1 < 0 := fun h => hb (by unfold rbad; omega)
      simp [lastD, hd]
    · have e1 : (((p.concat q).length : Nat) : Int) = (p.length : Int) + 1 := by simp
      have e2 : w64 ((((p.concat q).length : Nat) : Int) - 1) = (p.length : Int) := by rw [e1, w64_id (by omega) (by simp at hlen; omega)]; omega
      have e3 : (p.concat q ++ r :: l).getD ((p.length : Int)).toNat (0, (0, (0, (0, 0)))) = q := by simp
      have e4 : lastD (p.concat q) = q.2.2.1 := by simp [lastD]
      have e5 : (0 : Int) < ((p.concat q).length : Int) := by rw [e1]; omega
      have e6 : (p.length : Int) < ((p.concat q ++ r :: l).length : Int) := by simp; omega
      have e7 : (0 : Int) ≤ (p.length : Int) := by omega
      simp only [Bool.false_eq_true, if_false, e2, if_pos e5, if_pos e6, if_pos e7, e3, e4]
      by_cases hd : r.2.2.1 < q.2.2.1 <;> simp [hd]
theorem f134_loop (S C : Int) : ∀ (l pre : List Ride), ((pre ++ l).length : Int) ≤ 400 → Ev2 (fun k n => f134_l0 k n S C (pre ++ l) ((pre ++ l).length : Int) (pre.length : Int)) (tabL S (lastD pre) l, ())
  | [], pre, h => Ev2.step (g := fun _ _ => some (0, ())) (fun k n => by rw [f134_l0, f134_l0_B, if_neg (by simp)]) (Ev2.pure _)
  | r :: l, pre, h => by
    refine Ev2.step (fun k n => f134_l0_step k n S C pre l r h) ?_
    simp only [tabL]
    split
    · exact Ev2.pure _
    · split
      · exact Ev2.pure _
      · have := f134_loop S C l (pre ++ [r]) (by simpa using h)
        rw [show pre ++ [r] ++ l = pre ++ r :: l by simp, show lastD (pre ++ [r]) = r.2.2.1 by simp [lastD]] at this
        exact this
theorem f134_ev (S C : Int) (l : List Ride) : Ev (fun k => f134 k (S, (C, l))) (tabF S C l, ()) := by
  unfold tabF
  by_cases h : S < 0 ∨ 200 < S ∨ 400 < (l.length : Int)
  · rw [if_pos h]
    refine Ev.of (g := fun _ => some (2, ())) (fun k => ?_) (Ev.pure _)
    simp only [f134, f134_entry_B, f134_r1, f134_r1_B]
    by_cases h1 : S < 0 <;> by_cases h2 : 200 < S <;> simp [h1, h2] <;> simp [h1, h2] at h <;> omega
  · rw [if_neg h]
    by_cases h4 : C < 0 ∨ 1073741824 < C
    · rw [if_pos h4]
      refine Ev.of (g := fun _ => some (1, ())) (fun k => ?_) (Ev.pure _)
      have h1 : ¬ S < 0 := by omega
      have h2 : ¬ 200 < S := by omega
      have h3 : ¬ 400 < (l.length : Int) := by omega
      simp only [f134, f134_entry_B, f134_r1, f134_r1_B, f134_r3, f134_r3_B, h1, h2, h3]
      by_cases h5 : C < 0 <;> by_cases h6 : 1073741824 < C <;> simp [h5, h6] <;> omega
    · rw [if_neg h4]
      have := (f134_loop S C l [] (by simp; omega)).diag
      refine Ev.of (fun k => ?_) this
      have h1 : ¬ S < 0 := by omega
      have h2 : ¬ 200 < S := by omega
      have h3 : ¬ 400 < (l.length : Int) := by omega
      have h5 : ¬ C < 0 := by omega
      have h6 : ¬ 1073741824 < C := by omega
      simp [f134, f134_entry_B, f134_r1, f134_r1_B, f134_r3, f134_r3_B, h1, h2, h3, h5, h6]
/-! ### Right -/
def canF (C : Int) (a b : Ride) : Bool := if a.2.2.2.2 = b.2.2.2.2 then decide (a.2.1 = b.1) && decide (a.2.2.2.1 ≤ b.2.2.1) else decide (a.2.1 = b.1) && decide (a.2.2.2.1 ≤ w64 (b.2.2.1 - C))
def folF (C : Int) (a b : Ride) : Bool := decide (a.2.1 = b.1) && decide ((if a.2.2.2.2 = b.2.2.2.2 then 0 else C) ≤ w64 (b.2.2.1 - a.2.2.2.1))
theorem f136_eq' (k : Nat) (S C : Int) (l : List Ride) (a b : Ride) : f136 k (S, (C, l)) a b = some (folF C a b, ()) := by
  simp only [f136, f136_entry_B, f136_c3, f136_c3_B, f136_r4, f136_r4_B, folF]
  by_cases h1 : a.2.2.2.2 = b.2.2.2.2 <;> by_cases h2 : a.2.1 = b.1 <;> simp [h1, h2]
theorem can_fol {S C : Int} (hC : 0 ≤ C ∧ C ≤ 1073741824) {a b : Ride} (ha : ¬ rbad S a) (hb : ¬ rbad S b) : canF C a b = folF C a b := by
  unfold rbad at ha hb
  unfold canF folF
  rw [w64_id (by omega) (by omega), w64_id (by omega) (by omega)]
  by_cases h1 : a.2.2.2.2 = b.2.2.2.2
  · simp only [h1, if_true]
    congr 1
    exact decide_eq_decide.2 (by omega)
  · simp only [h1, if_false]
    congr 1
    exact decide_eq_decide.2 (by omega)
def zR : Ride := (0, (0, (0, (0, 0))))
theorem eta5 (r : Ride) : (r.1, (r.2.1, (r.2.2.1, (r.2.2.2.1, r.2.2.2.2)))) = r := rfl
theorem tabL_good {S : Int} : ∀ {l : List Ride} {d : Int}, tabL S d l = 0 → ∀ r ∈ l, ¬ rbad S r
  | r :: l, d, h, q, hq => by
    simp only [tabL] at h
    split at h
    · cases h
    · rename_i hb
      split at h
      · cases h
      · rcases List.mem_cons.1 hq with rfl | hq
        · exact hb
        · exact tabL_good h q hq
end Go.Proofs.Ythfjdcdbimjkjaa.Rw

namespace Go.Proofs.Ythfjdcdbimjkjaa.Rw
open Go.Rx
set_option linter.unusedVariables false
set_option linter.unusedSimpArgs false
def belowF (x n : Int) : Int := if x.tmod n < 0 then x.tmod n + n else x.tmod n
theorem below_lt {x n : Int} (h : 1 ≤ n) : 0 ≤ belowF x n ∧ belowF x n < n := by
  have h1 := Int.lt_tmod_of_pos x (show 0 < n by omega)
  have h2 := Int.tmod_lt_of_pos x (show 0 < n by omega)
  unfold belowF
  split <;> omega
theorem below_eq (k : Nat) (x n : Int) (h : 1 ≤ n) (h2 : n ≤ 1000000000000) : f15 k x n = some (belowF x n, ()) := by
  have g1 := Int.lt_tmod_of_pos x (show 0 < n by omega)
  have g2 := Int.tmod_lt_of_pos x (show 0 < n by omega)
  simp only [f15, f15_entry_B, f15_c3, f15_c3_B, belowF]
  rw [if_pos (by omega)]
  split
  · rw [w64_id (by omega) (by omega)]
  · rfl
def nextF (a : List Int) (n : Int) : List Int × Int := if a.length = 0 then (a, 0) else (a.drop 1, belowF (a.getD 0 0) n)
theorem next_lt {a : List Int} {n : Int} (h : 1 ≤ n) : 0 ≤ (nextF a n).2 ∧ (nextF a n).2 < n := by
  unfold nextF
  split
  · exact ⟨by simp, by simp; omega⟩
  · exact below_lt h
theorem next_eq (k : Nat) (a : List Int) (n : Int) (h : 1 ≤ n) (h2 : n ≤ 1000000000000) : f51 k a n = some ((((nextF a n).1, ()), ()), ((nextF a n).2, ())) := by
  have h3 : ¬ n < 1 := by omega
  simp only [f51, f51_entry_B, f51_r1, f51_r1_B, nextF]
  by_cases h0 : a.length = 0
  · simp [h0]
  · rw [if_neg (by omega), decide_eq_false h3, if_neg (by simp), if_pos (by omega), if_pos (by omega), below_eq k _ n h h2, if_neg h0]
    rfl
end Go.Proofs.Ythfjdcdbimjkjaa.Rw

namespace Go.Proofs.Ythfjdcdbimjkjaa.Rw
open Go.Rx
set_option linter.unusedVariables false
set_option linter.unusedSimpArgs false
def cmpB (p q : Pt) : Int := if p.1 = q.1 then w64 (p.2 - q.2) else w64 (p.1 - q.1)
theorem cmpB_eq (k : Nat) (p q : Pt) : f133 k p q = some (cmpB p q, ()) := by
  simp only [f133, f133_entry_B, cmpB]
  by_cases h : p.1 = q.1 <;> simp [h]
theorem swap_perm (y : List Pt) {i j : Nat} (hi : i < y.length) (hj : j < y.length) (z : Pt) : ((y.set i (y.getD j z)).set j (y.getD i z)).Perm y := by
  rw [List.getD_eq_getElem?_getD, List.getElem?_eq_getElem hj, List.getD_eq_getElem?_getD, List.getElem?_eq_getElem hi]
  exact List.set_set_perm hi hj
theorem ins_in {b i : Nat} (hi : (i : Int) ≤ 1000000) : ∀ (j : Nat) (y : List Pt), j ≤ i → j < y.length →
    ∃ y', y'.Perm y ∧ ∀ res, Ev2 (fun k n => f209_l0 k n y' 0 (b : Int) ((i + 1 : Nat) : Int)) res → Ev3 (fun k n m => f209_l2 k (f209_l0 k n) m y 0 (b : Int) (i : Int) (j : Int)) res
  | 0, y, hji, hj => by
    have hw : w64 ((i : Int) + 1) = ((i + 1 : Nat) : Int) := by rw [w64_id (by omega) (by omega)]; omega
    refine ⟨y, List.Perm.refl _, fun res h => Ev3.step (fun k n m => ?_) h.three⟩
    rw [f209_l2, f209_l2_B, if_neg (by omega), f209_r4, f209_r4_B, if_neg (by simp), hw]
  | j + 1, y, hji, hj => by
    have hw : w64 ((i : Int) + 1) = ((i + 1 : Nat) : Int) := by rw [w64_id (by omega) (by omega)]; omega
    have hw1 : w64 (((j + 1 : Nat) : Int) - 1) = (j : Int) := by rw [w64_id (by omega) (by omega)]; omega
    have c0 : (0 : Int) < ((j + 1 : Nat) : Int) := by omega
    have c1 : (0 : Int) ≤ ((j + 1 : Nat) : Int) := by omega
    have c2 : ((j + 1 : Nat) : Int) < (y.length : Int) := by omega
    have c3 : (0 : Int) ≤ (j : Int) := by omega
    have c4 : (j : Int) < (y.length : Int) := by omega
    by_cases hc : cmpB (y.getD (j + 1) (0, 0)) (y.getD j (0, 0)) < 0
    · obtain ⟨y', p1, p2⟩ := ins_in hi j ((y.set (j + 1) (y.getD j (0, 0))).set j (y.getD (j + 1) (0, 0))) (by omega) (by simp; omega)
      refine ⟨y', p1.trans (swap_perm y hj (by omega) (0, 0)), fun res h => Ev3.step (fun k n m => ?_) (p2 res h)⟩
      rw [f209_l2, f209_l2_B, if_pos c0, if_pos c1, if_pos c2, hw1, if_pos c3, if_pos c4]
      simp only [Int.toNat_natCast, cmpB_eq, Option.bind_some]
      rw [show decide (cmpB (y.getD (j + 1) (0, 0)) (y.getD j (0, 0)) < 0) = true from decide_eq_true hc, f209_r4, f209_r4_B, if_pos rfl, hw1, if_pos c3, if_pos c4, if_pos c1, if_pos c2, if_pos c1, if_pos c2, if_pos c3, if_pos (by simp only [List.length_set]; exact c4)]
      simp only [Int.toNat_natCast]
    · refine ⟨y, List.Perm.refl _, fun res h => Ev3.step (fun k n m => ?_) h.three⟩
      rw [f209_l2, f209_l2_B, if_pos c0, if_pos c1, if_pos c2, hw1, if_pos c3, if_pos c4]
      simp only [Int.toNat_natCast, cmpB_eq, Option.bind_some]
      rw [show decide (cmpB (y.getD (j + 1) (0, 0)) (y.getD j (0, 0)) < 0) = false from decide_eq_false hc, f209_r4, f209_r4_B, if_neg (by simp), hw]
theorem ins_out {b : Nat} (hb : b ≤ 1000) : ∀ (d i : Nat) (y : List Pt), b ≤ i + d → y.length = b → i ≤ 1000 →
    ∃ y', y'.Perm y ∧ Ev2 (fun k n => f209_l0 k n y 0 (b : Int) (i : Int)) ((y', ()), ())
  | 0, i, y, hd, hl, hi => ⟨y, List.Perm.refl _, Ev2.step (g := fun _ _ => some ((y, ()), ())) (fun k n => by rw [f209_l0, f209_l0_B, if_neg (by omega)]) (Ev2.pure _)⟩
  | d + 1, i, y, hd, hl, hi => by
    by_cases h : i < b
    · obtain ⟨y1, p1, p2⟩ := ins_in (b := b) (i := i) (by omega) i y (Nat.le_refl _) (by omega)
      obtain ⟨y2, q1, q2⟩ := ins_out hb d (i + 1) y1 (by omega) (p1.length_eq.trans hl) (by omega)
      refine ⟨y2, q1.trans p1, Ev2.step (fun k n => ?_) (p2 _ q2).in_⟩
      rw [f209_l0, f209_l0_B, if_pos (by omega)]
    · exact ⟨y, List.Perm.refl _, Ev2.step (g := fun _ _ => some ((y, ()), ())) (fun k n => by rw [f209_l0, f209_l0_B, if_neg (by omega)]) (Ev2.pure _)⟩
theorem len3 (n : Nat) (h : n ≤ 3) : ∃ r, ∀ k, f145 k (IntKind.u64.wrap (n : Int)) = some (r, ()) := by
  match n, h with
  | 0, _ => exact ⟨0, fun k => by kernel_rfl⟩
  | 1, _ => exact ⟨1, fun k => by kernel_rfl⟩
  | 2, _ => exact ⟨2, fun k => by kernel_rfl⟩
  | 3, _ => exact ⟨2, fun k => by kernel_rfl⟩
theorem sortB_ev (y : List Pt) (h : y.length ≤ 3) : ∃ y', y'.Perm y ∧ Ev (fun k => f132 k y ()) ((y', ()), ()) := by
  obtain ⟨r, hr⟩ := len3 y.length h
  obtain ⟨y', p1, p2⟩ := ins_out (b := y.length) (by omega) y.length 1 y (by omega) rfl (by omega)
  refine ⟨y', p1, ?_⟩
  simp only [f132, f132_entry_B, hr, Option.bind_some]
  have hw : w64 ((y.length : Int) - 0) = (y.length : Int) := by rw [w64_id (by omega) (by omega)]; omega
  have hp : Ev (fun k => f167 k y 0 (y.length : Int) r ()) ((y', ()), ()) := by
    simp only [f167, f167_entry_B]
    refine Ev2.diag (f := fun k n => f167_l0 k n y 0 (y.length : Int) r) ?_
    have hi : Ev (fun k => f209 k y 0 (y.length : Int) ()) ((y', ()), ()) := by
      simp only [f209, f209_entry_B]
      exact p2.diag
    refine Ev2.step (g := fun k _ => (f209 k y 0 (y.length : Int) ()).bind fun r1 => some ((r1.1.1, ()), ())) (fun k n => ?_) (Ev.two (hi.bind (Ev.pure _)))
    rw [f167_l0, f167_l0_B, hw, if_pos (by omega)]
  exact hp.bind (Ev.pure _)
end Go.Proofs.Ythfjdcdbimjkjaa.Rw

namespace Go.Proofs.Ythfjdcdbimjkjaa.Rw
open Go.Rx
set_option linter.unusedVariables false
set_option linter.unusedSimpArgs false
def GoodN (N : List Pt) : Prop := N.Nodup ∧ ∀ q ∈ N, -100 ≤ q.1 ∧ q.1 ≤ 100 ∧ -100 ≤ q.2 ∧ q.2 ≤ 100
def GoodE (n : Nat) (E : List Ed) : Prop := ∀ e ∈ E, inR e.1 n ∧ inR e.2.1 n ∧ e.1 ≠ e.2.1 ∧ 1 ≤ e.2.2.1 ∧ e.2.2.1 ≤ 20
def GoodB (E : List Ed) (B : List Pt) : Prop := B.Nodup ∧ ∀ b ∈ B, inR b.1 E.length ∧ inR b.2 E.length ∧ toE E b.1 = fromE E b.2
theorem point_eq (a : List Int) : ∃ (a' : List Int) (p : Pt), (∀ k, f131 k a = some (((a', ()), ()), (p, ()))) ∧ -40 ≤ p.1 ∧ p.1 ≤ 40 ∧ -40 ≤ p.2 ∧ p.2 ≤ 40 := by
  have h1 := next_lt (a := a) (n := 81) (by omega)
  have h2 := next_lt (a := (nextF a 81).1) (n := 81) (by omega)
  refine ⟨(nextF (nextF a 81).1 81).1, ((nextF a 81).2 - 40, (nextF (nextF a 81).1 81).2 - 40), fun k => ?_, by simp only; omega, by simp only; omega, by simp only; omega, by simp only; omega⟩
  simp only [f131, f131_entry_B, next_eq k _ 81 (by omega) (by omega), Option.bind_some]
  rw [w64_id (by omega) (by omega), w64_id (by omega) (by omega)]
theorem shift_loop (N : List Pt) (a : List Int) (y : Int) (hN : N.length ≤ 8) : ∀ (d : Nat) (x : Int), (N.filter (fun q => decide (x ≤ q.1))).length ≤ d → -40 ≤ x → x + d ≤ 60 →
    ∃ x', x ≤ x' ∧ x' ≤ x + d ∧ (x', y) ∉ N ∧ ∀ res, Ev2 (fun k n => f67_l0 k n a (N ++ [(x', y)])) res → Ev3 (fun k n m => f67_l2 k (f67_l0 k n) m a N x y) res
  | 0, x, hd, h0, h1 => by
    have hm : (x, y) ∉ N := fun h => by
      have : (x, y) ∈ N.filter (fun q => decide (x ≤ q.1)) := List.mem_filter.2 ⟨h, by simp⟩
      have := List.length_pos_of_mem this
      omega
    refine ⟨x, by omega, by omega, hm, fun res h => ?_⟩
    obtain ⟨K, hK⟩ := conP_ev N (x, y) (by omega)
    refine Ev3.stepE K (fun k n m hk => ?_) h.three
    have hk' := hK k hk; simp only at hk'
    rw [f67_l2, f67_l2_B, hk', Option.bind_some, if_neg (by simp [hm]), if_pos (by omega)]
  | d + 1, x, hd, h0, h1 => by
    obtain ⟨K, hK⟩ := conP_ev N (x, y) (by omega)
    by_cases hm : (x, y) ∈ N
    · have hlt : (N.filter (fun q => decide (x + 1 ≤ q.1))).length < (N.filter (fun q => decide (x ≤ q.1))).length := by
        have hsub : N.filter (fun q => decide (x + 1 ≤ q.1)) = (N.filter (fun q => decide (x ≤ q.1))).filter (fun q => decide (x + 1 ≤ q.1)) := by
          rw [List.filter_filter]
          refine List.filter_congr fun q _ => ?_
          by_cases g : x + 1 ≤ q.1
          · simp [g]; omega
          · simp [g]
        rw [hsub]
        refine List.length_filter_lt_length_iff_exists.2 ⟨(x, y), List.mem_filter.2 ⟨hm, by simp⟩, by simp; omega⟩
      obtain ⟨x', k1, k2, k3, k4⟩ := shift_loop N a y hN d (x + 1) (by omega) (by omega) (by omega)
      refine ⟨x', by omega, by omega, k3, fun res h => Ev3.stepE K (fun k n m hk => ?_) (k4 res h)⟩
      have hk' := hK k hk; simp only at hk'
      rw [f67_l2, f67_l2_B, hk', Option.bind_some, if_pos (by simp [hm]), w64_id (by omega) (by omega)]
    · refine ⟨x, by omega, by omega, hm, fun res h => Ev3.stepE K (fun k n m hk => ?_) h.three⟩
      have hk' := hK k hk; simp only at hk'
      rw [f67_l2, f67_l2_B, hk', Option.bind_some, if_neg (by simp [hm]), if_pos (by omega)]
theorem nodes_loop : ∀ (d : Nat) (a : List Int) (N : List Pt), N.length + d = 8 → GoodN N →
    ∃ (a' : List Int) (N' : List Pt), GoodN N' ∧ 2 ≤ N'.length ∧ N'.length ≤ 8 ∧ ∀ res, Ev (fun k => (f51 k a' 17).bind fun r2 => f67_l4 k k r2.1.1.1 N' ([] : List Ed) r2.2.1 0) res → Ev2 (fun k n => f67_l0 k n a N) res
  | 0, a, N, hl, hN => by
    have h1 := next_lt (a := a) (n := 7) (by omega)
    have hw : w64 (2 + (nextF a 7).2) = 2 + (nextF a 7).2 := w64_id (by omega) (by omega)
    refine ⟨(nextF a 7).1, N, hN, by omega, by omega, fun res h => Ev2.step (fun k n => ?_) h.two⟩
    rw [f67_l0, f67_l0_B]
    simp only [next_eq k a 7 (by omega) (by omega), Option.bind_some]
    rw [hw, if_neg (by omega), decide_eq_false (by omega), f67_r3, f67_r3_B, if_neg (by simp)]
  | d + 1, a, N, hl, hN => by
    have h1 := next_lt (a := a) (n := 7) (by omega)
    have hw : w64 (2 + (nextF a 7).2) = 2 + (nextF a 7).2 := w64_id (by omega) (by omega)
    by_cases c : (N.length : Int) < 2 + (nextF a 7).2 ∨ (N.length : Int) < 2
    · obtain ⟨b, p, hp, p1, p2, p3, p4⟩ := point_eq (nextF a 7).1
      have hf : (N.filter (fun q => decide (p.1 ≤ q.1))).length ≤ 8 := by
        have := List.length_filter_le (fun q => decide (p.1 ≤ q.1)) N
        omega
      obtain ⟨x', k1, k2, k3, k4⟩ := shift_loop N b p.2 (by omega) 8 p.1 hf p1 (by omega)
      have hN' : GoodN (N ++ [(x', p.2)]) := by
        refine ⟨List.nodup_append.2 ⟨hN.1, by simp, fun q hq r hr e => ?_⟩, fun q hq => ?_⟩
        · simp only [List.mem_singleton] at hr
          subst hr; subst e; exact k3 hq
        · rcases List.mem_append.1 hq with hq | hq
          · exact hN.2 q hq
          · simp only [List.mem_singleton] at hq
            subst hq; simp only; omega
      obtain ⟨a', N', g1, g2, g3, g4⟩ := nodes_loop d b (N ++ [(x', p.2)]) (by simp; omega) hN'
      refine ⟨a', N', g1, g2, g3, fun res h => Ev2.step (fun k n => ?_) (k4 res (g4 res h)).in_⟩
      rw [f67_l0, f67_l0_B]
      simp only [next_eq k a 7 (by omega) (by omega), Option.bind_some]
      rw [hw]
      have fin : f67_r3 k (f67_l0 k n) (nextF a 7).1 N true = f67_l2 k (f67_l0 k n) k b N p.1 p.2 := by
        rw [f67_r3, f67_r3_B, if_pos rfl, hp k, Option.bind_some]
      by_cases c1 : (N.length : Int) < 2 + (nextF a 7).2
      · rw [if_pos c1, fin]
      · rw [if_neg c1, decide_eq_true (by omega), fin]
    · refine ⟨(nextF a 7).1, N, hN, by omega, by omega, fun res h => Ev2.step (fun k n => ?_) h.two⟩
      rw [f67_l0, f67_l0_B]
      simp only [next_eq k a 7 (by omega) (by omega), Option.bind_some]
      rw [hw, if_neg (by omega), decide_eq_false (by omega), f67_r3, f67_r3_B, if_neg (by simp)]
theorem edges_loop (N : List Pt) (h2 : 2 ≤ N.length) (h8 : N.length ≤ 8) (cnt : Nat) (hc : cnt ≤ 100) : ∀ (d i : Nat) (a : List Int) (E : List Ed), i + d = cnt → E.length ≤ i → GoodE N.length E →
    ∃ (a' : List Int) (E' : List Ed), GoodE N.length E' ∧ E'.length ≤ cnt ∧ ∀ res, Ev (fun k => (f51 k a' 4).bind fun r5 => f67_l6 k k r5.1.1.1 ([] : List Pt) N E' r5.2.1 0) res → Ev2 (fun k n => f67_l4 k n a N E (cnt : Int) (i : Int)) res
  | 0, i, a, E, hi, hE, hG => by
    refine ⟨a, E, hG, by omega, fun res h => Ev2.step (fun k n => ?_) h.two⟩
    rw [f67_l4, f67_l4_B, if_neg (by omega)]
  | d + 1, i, a, E, hi, hE, hG => by
    have hw : w64 ((i : Int) + 1) = ((i + 1 : Nat) : Int) := by rw [w64_id (by omega) (by omega)]; omega
    have c1 : (i : Int) < (cnt : Int) := by omega
    have l1 := next_lt (a := a) (n := (N.length : Int)) (by omega)
    have l2 := next_lt (a := (nextF a (N.length : Int)).1) (n := (N.length : Int)) (by omega)
    generalize hr1 : nextF a (N.length : Int) = r1 at l1 l2
    generalize hr2 : nextF r1.1 (N.length : Int) = r2 at l2
    by_cases c2 : r1.2 = r2.2
    · obtain ⟨a', E', g1, g2, g3⟩ := edges_loop N h2 h8 cnt hc d (i + 1) r2.1 E (by omega) (by omega) hG
      refine ⟨a', E', g1, g2, fun res h => Ev2.step (fun k n => ?_) (g3 res h)⟩
      rw [f67_l4, f67_l4_B, if_pos c1]
      simp only [next_eq k _ (N.length : Int) (by omega) (by omega), Option.bind_some, hr1, hr2]
      rw [if_neg (by simpa using c2), f67_c12, f67_c12_B, hw]
    · have l3 := next_lt (a := r2.1) (n := 20) (by omega)
      generalize hr3 : nextF r2.1 20 = r3 at l3
      generalize hr4 : nextF r3.1 5 = r4
      have hw1 : w64 (1 + r3.2) = 1 + r3.2 := w64_id (by omega) (by omega)
      have hG' : GoodE N.length (E ++ [(r1.2, (r2.2, (1 + r3.2, r4.2)))]) := fun e he => by
        rcases List.mem_append.1 he with he | he
        · exact hG e he
        · simp only [List.mem_singleton] at he
          subst he
          unfold inR
          simp only
          omega
      obtain ⟨a', E', g1, g2, g3⟩ := edges_loop N h2 h8 cnt hc d (i + 1) r4.1 _ (by omega) (by simp; omega) hG'
      refine ⟨a', E', g1, g2, fun res h => Ev2.step (fun k n => ?_) (g3 res h)⟩
      rw [f67_l4, f67_l4_B, if_pos c1]
      simp only [next_eq k _ (N.length : Int) (by omega) (by omega), Option.bind_some, hr1, hr2]
      rw [if_pos (by simpa using c2)]
      simp only [next_eq k _ 20 (by omega) (by omega), next_eq k _ 5 (by omega) (by omega), Option.bind_some, hr3, hr4, hw1]
      rw [if_pos (by omega), f67_c12, f67_c12_B, hw]
theorem bans_loop (N : List Pt) (E : List Ed) (hE : E.length ≤ 1000) (cnt : Nat) (hc : cnt ≤ 3) : ∀ (d i : Nat) (a : List Int) (B : List Pt), i + d = cnt → B.length ≤ i → GoodB E B →
    ∃ (B' : List Pt), GoodB E B' ∧ B'.length ≤ cnt ∧ ∀ res, Ev (fun k => f67_b6 k B' N E) res → Ev2 (fun k n => f67_l6 k n a B N E (cnt : Int) (i : Int)) res
  | 0, i, a, B, hi, hB, hG => by
    refine ⟨B, hG, by omega, fun res h => Ev2.step (fun k n => ?_) h.two⟩
    rw [f67_l6, f67_l6_B, if_neg (by omega)]
  | d + 1, i, a, B, hi, hB, hG => by
    have hw : w64 ((i : Int) + 1) = ((i + 1 : Nat) : Int) := by rw [w64_id (by omega) (by omega)]; omega
    have c1 : (i : Int) < (cnt : Int) := by omega
    by_cases c0 : (E.length : Int) = 0
    · refine ⟨B, hG, by omega, fun res h => Ev2.step (fun k n => ?_) h.two⟩
      rw [f67_l6, f67_l6_B, if_pos c1, if_pos c0]
    · have l1 := next_lt (a := a) (n := (E.length : Int)) (by omega)
      have l2 := next_lt (a := (nextF a (E.length : Int)).1) (n := (E.length : Int)) (by omega)
      generalize hr1 : nextF a (E.length : Int) = r1 at l1 l2
      generalize hr2 : nextF r1.1 (E.length : Int) = r2 at l2
      have start : ∀ k n, f67_l6 k (n + 1) a B N E (cnt : Int) (i : Int) = if (((E.getD ((r1.2).toNat) zE).2).1) = ((E.getD ((r2.2).toNat) zE).1) then ((f105 k B (r1.2, r2.2)).bind fun r3 => f67_r18 k (f67_l6 k n) r2.1 B N E r1.2 r2.2 (decide (¬ (r3.1 = true))) (cnt : Int) (i : Int)) else f67_r18 k (f67_l6 k n) r2.1 B N E r1.2 r2.2 false (cnt : Int) (i : Int) := fun k n => by
        rw [f67_l6, f67_l6_B, if_pos c1, if_neg c0]
        simp only [next_eq k _ (E.length : Int) (by omega) (by omega), Option.bind_some, hr1, hr2]
        rw [if_pos l1.1, if_pos l1.2, if_pos l2.1, if_pos l2.2]
        rfl
      have no : ∀ k n, f67_r18 k (f67_l6 k n) r2.1 B N E r1.2 r2.2 false (cnt : Int) (i : Int) = f67_l6 k n r2.1 B N E (cnt : Int) ((i + 1 : Nat) : Int) := fun k n => by
        rw [f67_r18, f67_r18_B, if_neg (by simp), f67_c19, f67_c19_B, hw]
      have skip : ∃ (B' : List Pt), GoodB E B' ∧ B'.length ≤ cnt ∧ ∀ res, Ev (fun k => f67_b6 k B' N E) res → Ev2 (fun k n => f67_l6 k n r2.1 B N E (cnt : Int) ((i + 1 : Nat) : Int)) res := bans_loop N E hE cnt hc d (i + 1) r2.1 B (by omega) (by omega) hG
      by_cases c2 : (((E.getD ((r1.2).toNat) zE).2).1) = ((E.getD ((r2.2).toNat) zE).1)
      · obtain ⟨K, hK⟩ := conB_ev B (r1.2, r2.2) (by omega)
        by_cases c3 : (r1.2, r2.2) ∈ B
        · obtain ⟨B', g1, g2, g3⟩ := skip
          refine ⟨B', g1, g2, fun res h => Ev2.stepE K (fun k n hk => ?_) (g3 res h)⟩
          have hk' := hK k hk; simp only at hk'
          rw [start, if_pos c2, hk', Option.bind_some]
          simp only [c3, decide_true, not_true_eq_false, decide_false]
          exact no k n
        · have hG' : GoodB E (B ++ [(r1.2, r2.2)]) := by
            refine ⟨List.nodup_append.2 ⟨hG.1, by simp, fun q hq r hr e => ?_⟩, fun q hq => ?_⟩
            · simp only [List.mem_singleton] at hr
              subst hr; subst e; exact c3 hq
            · rcases List.mem_append.1 hq with hq | hq
              · exact hG.2 q hq
              · simp only [List.mem_singleton] at hq
                subst hq
                exact ⟨⟨l1.1, l1.2⟩, ⟨l2.1, l2.2⟩, c2⟩
          obtain ⟨B', g1, g2, g3⟩ := bans_loop N E hE cnt hc d (i + 1) r2.1 _ (by omega) (by simp; omega) hG'
          refine ⟨B', g1, g2, fun res h => Ev2.stepE K (fun k n hk => ?_) (g3 res h)⟩
          have hk' := hK k hk; simp only at hk'
          rw [start, if_pos c2, hk', Option.bind_some]
          simp only [c3, decide_false, Bool.false_eq_true, not_false_eq_true, decide_true]
          rw [f67_r18, f67_r18_B, if_pos rfl, if_pos (by omega), f67_c19, f67_c19_B, hw]
      · obtain ⟨B', g1, g2, g3⟩ := skip
        refine ⟨B', g1, g2, fun res h => Ev2.step (fun k n => ?_) (g3 res h)⟩
        rw [start, if_neg c2]
        exact no k n
theorem net_ev (a : List Int) : ∃ (N : List Pt) (E : List Ed) (B : List Pt), GoodN N ∧ 2 ≤ N.length ∧ N.length ≤ 8 ∧ GoodE N.length E ∧ E.length ≤ 16 ∧ GoodB E B ∧ B.length ≤ 3 ∧ Ev (fun k => f67 k a) ((N, (E, B)), ()) := by
  obtain ⟨a1, N, n1, n2, n3, n4⟩ := nodes_loop 8 a [] rfl ⟨List.nodup_nil, fun q hq => by cases hq⟩
  have l1 := next_lt (a := a1) (n := 17) (by omega)
  obtain ⟨c1, hc1⟩ : ∃ c : Nat, (nextF a1 17).2 = (c : Int) := ⟨(nextF a1 17).2.toNat, by omega⟩
  obtain ⟨a2, E, e1, e2, e3⟩ := edges_loop N n2 n3 c1 (by omega) c1 0 (nextF a1 17).1 [] (by omega) (by simp) (fun e he => by cases he)
  have l2 := next_lt (a := a2) (n := 4) (by omega)
  obtain ⟨c2, hc2⟩ : ∃ c : Nat, (nextF a2 4).2 = (c : Int) := ⟨(nextF a2 4).2.toNat, by omega⟩
  obtain ⟨B, b1, b2, b3⟩ := bans_loop N E (by omega) c2 (by omega) c2 0 (nextF a2 4).1 [] (by omega) (by simp) ⟨List.nodup_nil, fun b hb => by cases hb⟩
  obtain ⟨B', p1, p2⟩ := sortB_ev B (by omega)
  refine ⟨N, E, B', n1, n2, n3, e1, by omega, ⟨p1.nodup_iff.2 b1.1, fun b hb => b1.2 b (p1.mem_iff.1 hb)⟩, by have := p1.length_eq; omega, ?_⟩
  simp only [f67, f67_entry_B]
  refine (n4 _ ?_).diag
  simp only [next_eq _ a1 17 (show (1 : Int) ≤ 17 by omega) (show (17 : Int) ≤ 1000000000000 by omega), Option.bind_some, hc1]
  refine (e3 _ ?_).diag
  simp only [next_eq _ a2 4 (show (1 : Int) ≤ 4 by omega) (show (4 : Int) ≤ 1000000000000 by omega), Option.bind_some, hc2]
  refine (b3 _ ?_).diag
  simp only [f67_b6, f67_b6_B]
  exact p2.bind (Ev.pure _)
/-! ### They are valid -/
theorem nodF_zero : ∀ (l pre : List Pt), (∀ p ∈ l, okP p) → (pre ++ l).Nodup → nodF pre l = 0
  | [], _, _, _ => rfl
  | p :: l, pre, h, hn => by
    simp only [nodF]
    rw [if_pos (h p (List.mem_cons_self ..)), if_neg, nodF_zero l (pre ++ [p]) (fun q hq => h q (List.mem_cons_of_mem _ hq)) (by simpa using hn)]
    intro hp
    exact (List.nodup_append.1 hn).2.2 p hp p (List.mem_cons_self ..) rfl
theorem edF_zero {n : Nat} : ∀ {E : List Ed}, (∀ e ∈ E, ¬ badE n e ∧ e.1 ≠ e.2.1) → edF n E = 0
  | [], _ => rfl
  | e :: l, h => by
    simp only [edF]
    rw [if_neg (h e (List.mem_cons_self ..)).1, if_neg (h e (List.mem_cons_self ..)).2]
    exact edF_zero fun e' he => h e' (List.mem_cons_of_mem _ he)
theorem banF_zero {E : List Ed} : ∀ (l pre : List Pt), (∀ b ∈ l, inR b.1 E.length ∧ inR b.2 E.length ∧ toE E b.1 = fromE E b.2) → (pre ++ l).Nodup → banF E pre l = 0
  | [], _, _, _ => rfl
  | b :: l, pre, h, hn => by
    have hb := h b (List.mem_cons_self ..)
    simp only [banF]
    rw [if_pos ⟨hb.1, hb.2.1⟩, if_pos hb.2.2, if_neg, banF_zero l (pre ++ [b]) (fun q hq => h q (List.mem_cons_of_mem _ hq)) (by simpa using hn)]
    intro hp
    exact (List.nodup_append.1 hn).2.2 b hp b (List.mem_cons_self ..) rfl
theorem made_valid {N : List Pt} {E : List Ed} {B : List Pt} (h1 : GoodN N) (h2 : N.length ≤ 8) (h3 : GoodE N.length E) (h4 : E.length ≤ 16) (h5 : GoodB E B) (h6 : B.length ≤ 3) : netF (N, (E, B)) = 0 := by
  unfold netF
  simp only
  have k1 := nodF_zero N [] (fun p hp => by
    have := h1.2 p hp
    unfold okP
    rw [cut_in (by omega) (by omega), cut_in (by omega) (by omega)]
    exact ⟨rfl, rfl⟩) (by simpa using h1.1)
  have k2 : edF N.length E = 0 := edF_zero fun e he => by
    have := h3 e he
    exact ⟨fun hb => by unfold badE at hb; rcases hb with hb | hb | hb | hb <;> first | exact hb this.1 | exact hb this.2.1 | omega, this.2.2.1⟩
  have k3 := banF_zero (E := E) B [] h5.2 (by simpa using h5.1)
  rw [if_neg (by omega), if_pos k1, if_pos k2, k3]
end Go.Proofs.Ythfjdcdbimjkjaa.Rw

namespace Go.Proofs.Ythfjdcdbimjkjaa.Rw
open Go.Rx
set_option linter.unusedVariables false
set_option linter.unusedSimpArgs false
abbrev St := Int × Int
/-- A step within the bounds. -/
abbrev goodS (s : St) : Prop := 0 ≤ s.1 ∧ s.1 ≤ 1073741824 ∧ 0 ≤ s.2 ∧ s.2 ≤ 1073741824
def crvFrom : Option St → List St → Int
  | _, [] => 0
  | none, s :: r => if goodS s then crvFrom (some s) r else 1
  | some q, s :: r => if goodS s then (if q.1 ≥ s.1 then 9 else if q.1 + q.2 > s.1 + s.2 then 19 else crvFrom (some s) r) else 1
def crvF (l : List St) : Int := if l.length > 24 then 2 else if l.length = 0 then 14 else crvFrom none l
/-- A valid curve: from a step on. -/
def ChainC : St → List St → Prop
  | a, [] => goodS a
  | a, b :: r => goodS a ∧ a.1 < b.1 ∧ a.1 + a.2 ≤ b.1 + b.2 ∧ ChainC b r
def ValidC : List St → Prop
  | [] => False
  | a :: r => (a :: r).length ≤ 24 ∧ ChainC a r
theorem chain_good {a : St} {r : List St} (h : ChainC a r) : goodS a := by
  cases r with
  | nil => exact h
  | cons b r => exact h.1
theorem crvFrom_zero : ∀ (r : List St) (q : St), goodS q → (crvFrom (some q) r = 0 ↔ ChainC q r)
  | [], q, hq => ⟨fun _ => hq, fun _ => rfl⟩
  | s :: r, q, hq => by
    have ih := crvFrom_zero r s
    simp only [crvFrom, ChainC]
    by_cases h1 : goodS s
    · rw [if_pos h1]
      by_cases h2 : q.1 ≥ s.1
      · rw [if_pos h2]
        exact ⟨fun h => by omega, fun h => by omega⟩
      · rw [if_neg h2]
        by_cases h3 : q.1 + q.2 > s.1 + s.2
        · rw [if_pos h3]
          exact ⟨fun h => by omega, fun h => by omega⟩
        · rw [if_neg h3]
          exact ⟨fun h => ⟨hq, by omega, by omega, (ih h1).1 h⟩, fun h => (ih h1).2 h.2.2.2⟩
    · rw [if_neg h1]
      exact ⟨fun h => by omega, fun h => absurd (chain_good h.2.2.2) h1⟩
theorem crvF_zero (l : List St) : crvF l = 0 ↔ ValidC l := by
  unfold crvF
  cases l with
  | nil => simp [ValidC]
  | cons a r =>
    simp only [ValidC]
    by_cases h : (a :: r).length > 24
    · rw [if_pos h]
      exact ⟨fun h => by omega, fun h => by omega⟩
    rw [if_neg h, if_neg (by simp)]
    simp only [crvFrom]
    by_cases h1 : goodS a
    · rw [if_pos h1]
      exact ⟨fun hh => ⟨by omega, (crvFrom_zero r a h1).1 hh⟩, fun hh => (crvFrom_zero r a h1).2 hh.2⟩
    · rw [if_neg h1]
      exact ⟨fun h => by omega, fun h => absurd (chain_good h.2) h1⟩
/-- The cost between two steps. -/
def segC (a b : St) (t : Int) : Int := a.2 + (b.2 - a.2) * (t - a.1) / (b.1 - a.1)
def atFrom : St → List St → Int → Int
  | a, [], _ => a.2
  | a, b :: r, t => if t ≤ b.1 then segC a b t else atFrom b r t
def atC : List St → Int → Int
  | [], _ => 0
  | a :: r, t => if t ≤ a.1 then a.2 else atFrom a r t
theorem mul_bound {x y : Int} (h1 : -1073741824 ≤ x) (h2 : x ≤ 1073741824) (h3 : 0 ≤ y) (h4 : y ≤ 1073741824) : -1152921504606846976 ≤ x * y ∧ x * y ≤ 1152921504606846976 := by
  have a1 : x * y ≤ 1073741824 * y := Int.mul_le_mul_of_nonneg_right h2 h3
  have a2 : -1073741824 * y ≤ x * y := Int.mul_le_mul_of_nonneg_right h1 h3
  omega
/-- Between two steps the cost lies between theirs. -/
theorem segC_range {a b : St} {t : Int} (hd : a.1 < b.1) (h0 : a.1 ≤ t) (h1 : t ≤ b.1) :
    (a.2 ≤ b.2 → a.2 ≤ segC a b t ∧ segC a b t ≤ b.2) ∧ (b.2 ≤ a.2 → b.2 ≤ segC a b t ∧ segC a b t ≤ a.2) := by
  unfold segC
  have hp : 0 < b.1 - a.1 := by omega
  refine ⟨fun h => ?_, fun h => ?_⟩
  · have l1 : 0 ≤ (b.2 - a.2) * (t - a.1) := Int.mul_nonneg (by omega) (by omega)
    have l2 : (b.2 - a.2) * (t - a.1) ≤ (b.2 - a.2) * (b.1 - a.1) := Int.mul_le_mul_of_nonneg_left (by omega) (by omega)
    have l3 : 0 ≤ (b.2 - a.2) * (t - a.1) / (b.1 - a.1) := Int.ediv_nonneg l1 (by omega)
    have l4 : (b.2 - a.2) * (t - a.1) / (b.1 - a.1) ≤ b.2 - a.2 := Int.ediv_le_of_le_mul hp (by omega)
    omega
  · have l1 : (b.2 - a.2) * (t - a.1) ≤ 0 := Int.mul_nonpos_of_nonpos_of_nonneg (by omega) (by omega)
    have l2 : (b.2 - a.2) * (b.1 - a.1) ≤ (b.2 - a.2) * (t - a.1) := Int.mul_le_mul_of_nonpos_left (by omega) (by omega)
    have l3 : (b.2 - a.2) * (t - a.1) / (b.1 - a.1) ≤ 0 := by
      have := Int.ediv_le_ediv hp l1
      simpa using this
    have l4 : b.2 - a.2 ≤ (b.2 - a.2) * (t - a.1) / (b.1 - a.1) := Int.le_ediv_of_mul_le hp l2
    omega
theorem segC_good {a b : St} {t : Int} (ha : goodS a) (hb : goodS b) (hd : a.1 < b.1) (h0 : a.1 ≤ t) (h1 : t ≤ b.1) : 0 ≤ segC a b t ∧ segC a b t ≤ 1073741824 := by
  obtain ⟨r1, r2⟩ := segC_range hd h0 h1
  unfold goodS at ha hb
  rcases Int.le_total a.2 b.2 with h | h
  · have := r1 h; omega
  · have := r2 h; omega
theorem atFrom_good : ∀ (r : List St) (a : St) (t : Int), ChainC a r → a.1 ≤ t → 0 ≤ atFrom a r t ∧ atFrom a r t ≤ 1073741824
  | [], a, t, h, _ => by have := chain_good h; unfold goodS at this; simp only [atFrom]; omega
  | b :: r, a, t, h, h0 => by
    obtain ⟨ha, hd, hs, hc⟩ := h
    simp only [atFrom]
    by_cases h1 : t ≤ b.1
    · rw [if_pos h1]
      exact segC_good ha (chain_good hc) hd h0 h1
    · rw [if_neg h1]
      exact atFrom_good r b t hc (by omega)
theorem atC_good {l : List St} {t : Int} (h : ValidC l) : 0 ≤ atC l t ∧ atC l t ≤ 1073741824 := by
  cases l with
  | nil => exact h.elim
  | cons a r =>
    simp only [atC]
    by_cases h1 : t ≤ a.1
    · rw [if_pos h1]
      have := chain_good h.2
      unfold goodS at this
      omega
    · rw [if_neg h1]
      exact atFrom_good r a t h.2 (by omega)
theorem segC_mono {a b : St} {t t' : Int} (hd : a.1 < b.1) (hs : a.1 + a.2 ≤ b.1 + b.2) (h : t ≤ t') : t + segC a b t ≤ t' + segC a b t' := by
  unfold segC
  have hp : 0 < b.1 - a.1 := by omega
  have e : (b.2 - a.2) * (t' - a.1) = (b.2 - a.2) * (t - a.1) + (b.2 - a.2) * (t' - t) := by rw [← Int.mul_add]; congr 1; omega
  have l1 : -(b.1 - a.1) * (t' - t) ≤ (b.2 - a.2) * (t' - t) := Int.mul_le_mul_of_nonneg_right (by omega) (by omega)
  have l2 : (b.2 - a.2) * (t - a.1) + -(t' - t) * (b.1 - a.1) ≤ (b.2 - a.2) * (t' - a.1) := by
    have : -(t' - t) * (b.1 - a.1) = -(b.1 - a.1) * (t' - t) := by rw [Int.neg_mul, Int.neg_mul, Int.mul_comm]
    omega
  have l3 := Int.ediv_le_ediv hp l2
  rw [Int.add_mul_ediv_right _ _ (by omega)] at l3
  omega
theorem segC_end {a b : St} (hd : a.1 < b.1) : segC a b b.1 = b.2 := by
  unfold segC
  rw [Int.mul_ediv_cancel _ (by omega)]
  omega
theorem atFrom_start : ∀ (r : List St) (a : St), ChainC a r → atFrom a r a.1 = a.2
  | [], a, _ => rfl
  | b :: r, a, h => by
    simp only [atFrom]
    rw [if_pos (by have := h.2.1; omega)]
    unfold segC
    simp
theorem atFrom_mono : ∀ (r : List St) (a : St) (t t' : Int), ChainC a r → a.1 ≤ t → t ≤ t' → t + atFrom a r t ≤ t' + atFrom a r t'
  | [], a, t, t', _, _, h => by simp only [atFrom]; omega
  | b :: r, a, t, t', hc, h0, h => by
    obtain ⟨ha, hd, hs, hc2⟩ := hc
    simp only [atFrom]
    by_cases h1 : t' ≤ b.1
    · rw [if_pos h1, if_pos (by omega)]
      exact segC_mono hd hs h
    · rw [if_neg h1]
      by_cases h2 : t ≤ b.1
      · rw [if_pos h2]
        have m1 := segC_mono (t := t) (t' := b.1) hd hs h2
        rw [segC_end hd] at m1
        have m2 := atFrom_mono r b b.1 t' hc2 (Int.le_refl _) (by omega)
        rw [atFrom_start r b hc2] at m2
        omega
      · rw [if_neg h2]
        exact atFrom_mono r b t t' hc2 (by omega) h
theorem atC_mono {l : List St} {t t' : Int} (hv : ValidC l) (h : t ≤ t') : t + atC l t ≤ t' + atC l t' := by
  cases l with
  | nil => exact hv.elim
  | cons a r =>
    simp only [atC]
    by_cases h1 : t' ≤ a.1
    · rw [if_pos h1, if_pos (by omega)]
      omega
    · rw [if_neg h1]
      by_cases h2 : t ≤ a.1
      · rw [if_pos h2]
        have m := atFrom_mono r a a.1 t' hv.2 (Int.le_refl _) (by omega)
        rw [atFrom_start r a hv.2] at m
        omega
      · rw [if_neg h2]
        exact atFrom_mono r a t t' hv.2 (by omega) h
end Go.Proofs.Ythfjdcdbimjkjaa.Rw

namespace Go.Proofs.Ythfjdcdbimjkjaa.Rw
open Go.Rx
set_option linter.unusedVariables false
set_option linter.unusedSimpArgs false
def PrevC (pre : List St) : Option St → Prop
  | none => pre = []
  | some q => goodS q ∧ ∃ p0, pre = p0 ++ [q]
theorem pred_nat (n : Nat) (h : (n : Int) ≤ 1000000) : w64 (((n + 1 : Nat) : Int) - 1) = (n : Int) := by rw [w64_id (by omega) (by omega)]; omega
theorem crv_loop (c : List St) (hc : c.length ≤ 24) : ∀ (l pre : List St) (p : Option St), pre ++ l = c → PrevC pre p →
    Ev2 (fun k n => f72_l0 k n c (c.length : Int) (pre.length : Int)) (crvFrom p l, ())
  | [], pre, p, hpl, hp => by
    subst hpl
    refine Ev2.step (g := fun _ _ => some (0, ())) (fun k n => by rw [f72_l0, f72_l0_B, if_neg (by simp)]) ?_
    cases p <;> exact Ev2.pure _
  | s :: l, pre, p, hpl, hp => by
    have h0 : (0 : Int) ≤ (pre.length : Int) := by omega
    have h1 : (pre.length : Int) < (c.length : Int) := by rw [← hpl]; simp; omega
    have hg : c.getD ((pre.length : Int)).toNat (0, 0) = s := by rw [← hpl]; exact getD_mid
    have hpre : pre.length ≤ 24 := by rw [← hpl] at hc; simp at hc; omega
    have hw : w64 ((pre.length : Int) + 1) = (((pre ++ [s]).length : Nat) : Int) := by
      rw [w64_id (by omega) (by omega)]; simp
    have bad : ¬ goodS s → crvFrom p (s :: l) = 1 := fun h => by cases p <;> simp only [crvFrom, if_neg h]
    by_cases g1 : s.1 < 0
    · rw [bad (by unfold goodS; omega)]
      refine Ev2.step (g := fun _ _ => some (1, ())) (fun k n => ?_) (Ev2.pure _)
      rw [f72_l0, f72_l0_B, if_pos h1, if_pos h0, if_pos h1, hg, if_pos g1]; rfl
    by_cases g2 : 1073741824 < s.1
    · rw [bad (by unfold goodS; omega)]
      refine Ev2.step (g := fun _ _ => some (1, ())) (fun k n => ?_) (Ev2.pure _)
      rw [f72_l0, f72_l0_B, if_pos h1, if_pos h0, if_pos h1, hg, if_neg g1, if_pos g2]; rfl
    by_cases g3 : s.2 < 0
    · rw [bad (by unfold goodS; omega)]
      refine Ev2.step (g := fun _ _ => some (1, ())) (fun k n => ?_) (Ev2.pure _)
      rw [f72_l0, f72_l0_B, if_pos h1, if_pos h0, if_pos h1, hg, if_neg g1, if_neg g2, if_pos g3]; rfl
    by_cases g4 : 1073741824 < s.2
    · rw [bad (by unfold goodS; omega)]
      refine Ev2.step (g := fun _ _ => some (1, ())) (fun k n => ?_) (Ev2.pure _)
      rw [f72_l0, f72_l0_B, if_pos h1, if_pos h0, if_pos h1, hg, if_neg g1, if_neg g2, if_neg g3, decide_eq_true g4]; rfl
    have hgs : goodS s := by unfold goodS; omega
    have ih := crv_loop c hc l (pre ++ [s]) (some s) (by simp [← hpl]) ⟨hgs, pre, rfl⟩
    rw [← hw] at ih
    cases p with
    | none =>
      have hp0 : pre = [] := hp
      subst hp0
      simp only [crvFrom, if_pos hgs]
      refine Ev2.step (fun k n => ?_) ih
      rw [f72_l0, f72_l0_B, if_pos h1, if_pos h0, if_pos h1, hg, if_neg g1, if_neg g2, if_neg g3, decide_eq_false g4, f72_r8, f72_r8_B, if_neg (by simp), if_neg (by simp), f72_r10, f72_r10_B, if_neg (by simp), if_neg (by simp), f72_r12, f72_r12_B, if_neg (by simp)]
    | some q =>
      obtain ⟨hgq, p0, rfl⟩ := hp
      have h2 : (0 : Int) < ((p0 ++ [q]).length : Int) := by simp
      have hz : w64 (((p0 ++ [q]).length : Int) - 1) = (p0.length : Int) := by
        rw [List.length_append]; exact pred_nat _ (by simp at hpre; omega)
      have h3 : (0 : Int) ≤ (p0.length : Int) := by omega
      have h4 : (p0.length : Int) < (c.length : Int) := by rw [← hpl]; simp; omega
      have hq : c.getD ((p0.length : Int)).toNat (0, 0) = q := by rw [← hpl, List.append_assoc]; exact getD_mid
      have e1 : w64 (s.1 + s.2) = s.1 + s.2 := w64_id (by omega) (by omega)
      have e2 : w64 (q.1 + q.2) = q.1 + q.2 := w64_id (by unfold goodS at hgq; omega) (by unfold goodS at hgq; omega)
      by_cases g5 : s.1 ≤ q.1
      · simp only [crvFrom]
        rw [if_pos hgs, if_pos g5]
        refine Ev2.step (g := fun _ _ => some (9, ())) (fun k n => ?_) (Ev2.pure _)
        rw [f72_l0, f72_l0_B, if_pos h1, if_pos h0, if_pos h1, hg, if_neg g1, if_neg g2, if_neg g3, decide_eq_false g4, f72_r8, f72_r8_B, if_neg (by simp), if_pos h2, hz, if_pos h3, if_pos h4, hq, decide_eq_true g5]; rfl
      by_cases g6 : s.1 + s.2 < q.1 + q.2
      · simp only [crvFrom]
        rw [if_pos hgs, if_neg g5, if_pos g6]
        refine Ev2.step (g := fun _ _ => some (19, ())) (fun k n => ?_) (Ev2.pure _)
        rw [f72_l0, f72_l0_B, if_pos h1, if_pos h0, if_pos h1, hg, if_neg g1, if_neg g2, if_neg g3, decide_eq_false g4, f72_r8, f72_r8_B, if_neg (by simp), if_pos h2, hz, if_pos h3, if_pos h4, hq, decide_eq_false g5, f72_r10, f72_r10_B, if_neg (by simp), if_pos h2, hz, if_pos h3, if_pos h4, if_pos h3, if_pos h4, hq, e1, e2, decide_eq_true g6]; rfl
      · simp only [crvFrom]
        rw [if_pos hgs, if_neg g5, if_neg g6]
        refine Ev2.step (fun k n => ?_) ih
        rw [f72_l0, f72_l0_B, if_pos h1, if_pos h0, if_pos h1, hg, if_neg g1, if_neg g2, if_neg g3, decide_eq_false g4, f72_r8, f72_r8_B, if_neg (by simp), if_pos h2, hz, if_pos h3, if_pos h4, hq, decide_eq_false g5, f72_r10, f72_r10_B, if_neg (by simp), if_pos h2, hz, if_pos h3, if_pos h4, if_pos h3, if_pos h4, hq, e1, e2, decide_eq_false g6, f72_r12, f72_r12_B, if_neg (by simp)]
theorem crv_ev (c : List St) : Ev (fun k => f72 k c) (crvF c, ()) := by
  simp only [f72, f72_entry_B]
  unfold crvF
  by_cases h1 : c.length > 24
  · rw [if_pos h1]
    exact Ev.of (fun k => by rw [if_pos (by omega)]) (Ev.pure _)
  by_cases h2 : c.length = 0
  · rw [if_neg h1, if_pos h2]
    exact Ev.of (fun k => by rw [if_neg (by omega), if_pos (by omega)]) (Ev.pure _)
  rw [if_neg h1, if_neg h2]
  exact Ev.of (fun k => by rw [if_neg (by omega), if_neg (by omega)]; rfl) (crv_loop c (by omega) c [] none rfl rfl).diag
theorem down_eq (k : Nat) (a b : Int) (hb : 0 < b) (h1 : -9223372036854775807 ≤ a) (h2 : a ≤ 9223372036854775807) : f217 k a b = some (a / b, ()) := by
  have e := Int.mul_tdiv_add_tmod a b
  have l1 := Int.tmod_lt_of_pos a hb
  have l2 := Int.lt_tmod_of_pos a hb
  have q1 : -9223372036854775807 ≤ a.tdiv b ∧ a.tdiv b ≤ 9223372036854775807 := by
    have hn := Int.natAbs_tdiv a b
    have hle : (a.tdiv b).natAbs ≤ a.natAbs := by rw [hn]; exact Nat.div_le_self _ _
    omega
  have hb' : ¬ b = 0 := by omega
  simp only [f217, f217_entry_B, f217_c3, f217_c3_B, if_pos hb']
  rw [w64_id (n := a.tdiv b) (by omega) (by omega)]
  by_cases hm : a.tmod b < 0
  · rw [if_pos hm, w64_id (n := a.tdiv b - 1) (by omega) (by omega)]
    congr 2
    have e2 : a = (a.tmod b + b) + b * (a.tdiv b - 1) := by rw [Int.mul_sub]; omega
    conv => rhs; rw [e2]
    rw [Int.add_mul_ediv_left _ _ (by omega), Int.ediv_eq_zero_of_lt (by omega) (by omega)]
    omega
  · rw [if_neg hm]
    congr 2
    have e2 : a = a.tmod b + b * a.tdiv b := by omega
    conv => rhs; rw [e2]
    rw [Int.add_mul_ediv_left _ _ (by omega), Int.ediv_eq_zero_of_lt (by omega) (by omega)]
    omega
theorem at_loop (c : List St) (t : Int) (hc : c.length ≤ 24) (ht : t ≤ 1073741824) : ∀ (l p0 : List St) (a : St), p0 ++ a :: l = c → ChainC a l → a.1 < t →
    Ev2 (fun k n => f170_l0 k n c t ((p0.length + 1 : Nat) : Int)) (atFrom a l t, ())
  | [], p0, a, hpl, hch, hat => by
    have hq : c.getD ((p0.length : Int)).toNat (0, 0) = a := by rw [← hpl]; exact getD_mid
    have hcl : c.length = p0.length + 1 := by rw [← hpl]; simp
    have hz : w64 ((c.length : Int) - 1) = (p0.length : Int) := by rw [hcl]; exact pred_nat _ (by omega)
    refine Ev2.step (g := fun _ _ => some (a.2, ())) (fun k n => ?_) (Ev2.pure _)
    rw [f170_l0, f170_l0_B, if_neg (by omega), hz, if_pos (by omega), if_pos (by omega), hq]
  | s :: l, p0, a, hpl, hch, hat => by
    obtain ⟨hga, hds, hss, hcs⟩ := hch
    have hgs := chain_good hcs
    have ga := hga
    have gs := hgs
    unfold goodS at ga gs
    have hq : c.getD ((p0.length : Int)).toNat (0, 0) = a := by rw [← hpl]; exact getD_mid
    have hs : c.getD (((p0.length + 1 : Nat) : Int)).toNat (0, 0) = s := by
      have e : c = (p0 ++ [a]) ++ s :: l := by simp [← hpl]
      rw [e]; simp
    have hcl : c.length = p0.length + 1 + 1 + l.length := by rw [← hpl]; simp; omega
    have hz : w64 (((p0.length + 1 : Nat) : Int) - 1) = (p0.length : Int) := pred_nat _ (by omega)
    have hw : w64 (((p0.length + 1 : Nat) : Int) + 1) = ((((p0 ++ [a]).length + 1 : Nat)) : Int) := by
      rw [w64_id (by omega) (by omega)]; simp
    have c1 : (((p0.length + 1 : Nat) : Int)) < (c.length : Int) := by omega
    have c2 : (0 : Int) ≤ (p0.length : Int) := by omega
    have c3 : (p0.length : Int) < (c.length : Int) := by omega
    have c4 : (0 : Int) ≤ (((p0.length + 1 : Nat) : Int)) := by omega
    simp only [atFrom]
    by_cases h : t ≤ s.1
    · rw [if_pos h]
      have hb := mul_bound (x := s.2 - a.2) (y := t - a.1) (by omega) (by omega) (by omega) (by omega)
      have hsg := segC_good hga hgs hds (by omega) h
      unfold segC at hsg
      refine Ev2.step (g := fun _ _ => some (segC a s t, ())) (fun k n => ?_) (Ev2.pure _)
      rw [f170_l0, f170_l0_B, if_pos c1, hz, if_pos c2, if_pos c3, if_pos c4, if_pos c1, hs, hq, if_pos h]
      rw [w64_id (n := s.2 - a.2) (by omega) (by omega), w64_id (n := t - a.1) (by omega) (by omega), w64_id (n := (s.2 - a.2) * (t - a.1)) (by omega) (by omega), w64_id (n := s.1 - a.1) (by omega) (by omega), down_eq _ _ _ (by omega) (by omega) (by omega)]
      simp only [Option.bind_some]
      rw [w64_id (by omega) (by omega)]
      rfl
    · rw [if_neg h]
      have ih := at_loop c t hc ht l (p0 ++ [a]) s (by simp [← hpl]) hcs (by omega)
      refine Ev2.step (fun k n => ?_) ih
      rw [f170_l0, f170_l0_B, if_pos c1, hz, if_pos c2, if_pos c3, if_pos c4, if_pos c1, hs, if_neg h, hw]
theorem at_ev {c : List St} {t : Int} (h : ValidC c) (ht : t ≤ 1073741824) : Ev (fun k => f170 k c t) (atC c t, ()) := by
  cases c with
  | nil => exact h.elim
  | cons a r =>
    have hp : (0 : Int) < ((a :: r).length : Int) := by simp
    simp only [f170, f170_entry_B, if_pos hp, atC]
    by_cases h1 : t ≤ a.1
    · rw [if_pos h1]
      exact Ev.of (fun k => by rw [if_pos (by exact h1)]; rfl) (Ev.pure _)
    · rw [if_neg h1]
      exact Ev.of (fun k => by rw [if_neg (by exact h1)]; rfl) (at_loop (a :: r) t h.1 ht r [] a rfl h.2 (by omega)).diag
/-- Arrive of a valid curve. -/
theorem arrive_ev {c : List St} {t : Int} (h : ValidC c) (h0 : 0 ≤ t) : Ev (fun k => f74 k c t) (if t ≤ 1073741824 then (t + atC c t, 0, ()) else (0, 1, ())) := by
  have hb := atC_good (t := t) h
  simp only [f74, f74_entry_B]
  have hA : Ev (fun k => f139 k c t) (if t ≤ 1073741824 then (atC c t, 0, ()) else (0, 1, ())) := by
    simp only [f139, f139_entry_B]
    refine (crv_ev c).bind ?_
    simp only [(crvF_zero c).2 h, not_true_eq_false, if_false, if_neg (show ¬ t < 0 by omega), f139_r4, f139_r4_B]
    by_cases h1 : t ≤ 1073741824
    · rw [if_pos h1]
      refine Ev.of (fun k => by rw [if_neg (by simp; omega)]) ?_
      exact (at_ev h h1).bind (Ev.pure _)
    · rw [if_neg h1]
      exact Ev.of (fun k => by rw [if_pos (by simp; omega)]) (Ev.pure _)
  by_cases h1 : t ≤ 1073741824
  · rw [if_pos h1] at hA ⊢
    refine hA.bind ?_
    simp only [not_true_eq_false, if_false]
    rw [w64_id (by omega) (by omega)]
    exact Ev.pure _
  · rw [if_neg h1] at hA ⊢
    refine hA.bind ?_
    exact Ev.of (fun k => by rw [if_pos (by decide)]) (Ev.pure _)
end Go.Proofs.Ythfjdcdbimjkjaa.Rw

namespace Go.Proofs.Ythfjdcdbimjkjaa.Rw
open Go.Rx
set_option linter.unusedVariables false
set_option linter.unusedSimpArgs false
theorem gset {α : Type} (l : List α) (i j : Nat) (x z : α) : (l.set i x).getD j z = if i = j ∧ i < l.length then x else l.getD j z := by
  simp only [List.getD_eq_getElem?_getD, List.getElem?_set]
  by_cases h : i = j
  · subst h
    by_cases h2 : i < l.length
    · simp [h2]
    · simp [h2, List.getElem?_eq_none (show l.length ≤ i by omega)]
  · simp [h]
def frN (E : List Ed) (i : Nat) : Nat := (E.getD i zE).1.toNat
def toN (E : List Ed) (i : Nat) : Nat := (E.getD i zE).2.1.toNat
def arrC (C : List (List St)) (i : Nat) (t : Int) : Int := t + atC (C.getD i []) t
/-- One can be at a node at a time. -/
inductive Tr (E : List Ed) (C : List (List St)) (s : Nat) (a : Int) : Nat → Int → Prop
  | start : Tr E C s a s a
  | step {i : Nat} {t : Int} : Tr E C s a (frN E i) t → t ≤ 1073741824 → i < E.length → Tr E C s a (toN E i) (arrC C i t)
structure NetC (n : Nat) (E : List Ed) (C : List (List St)) : Prop where
  ends : ∀ i, i < E.length → inR (E.getD i zE).1 n ∧ inR (E.getD i zE).2.1 n
  curves : ∀ i, i < E.length → ValidC (C.getD i [])
  len : C.length = E.length
  few : E.length ≤ 600
theorem NetC.fr {n : Nat} {E : List Ed} {C : List (List St)} (h : NetC n E C) {i : Nat} (hi : i < E.length) : frN E i < n ∧ (E.getD i zE).1 = (frN E i : Int) := by
  have := (h.ends i hi).1
  unfold inR at this; unfold frN; omega
theorem NetC.to {n : Nat} {E : List Ed} {C : List (List St)} (h : NetC n E C) {i : Nat} (hi : i < E.length) : toN E i < n ∧ (E.getD i zE).2.1 = (toN E i : Int) := by
  have := (h.ends i hi).2
  unfold inR at this; unfold toN; omega
theorem NetC.up {n : Nat} {E : List Ed} {C : List (List St)} (h : NetC n E C) {i : Nat} (hi : i < E.length) (t : Int) : t ≤ arrC C i t ∧ arrC C i t ≤ t + 1073741824 := by
  have := atC_good (t := t) (h.curves i hi)
  unfold arrC; omega
theorem NetC.mono {n : Nat} {E : List Ed} {C : List (List St)} (h : NetC n E C) {i : Nat} (hi : i < E.length) {t t' : Int} (ht : t ≤ t') : arrC C i t ≤ arrC C i t' := atC_mono (h.curves i hi) ht
/-- A row of times at which one can be there, or -1. -/
structure OkL (n : Nat) (E : List Ed) (C : List (List St)) (s : Nat) (a : Int) (L : List Int) : Prop where
  len : L.length = n
  true_ : ∀ v, v < n → 0 ≤ L.getD v 0 → Tr E C s a v (L.getD v 0)
  neg : ∀ v, v < n → L.getD v 0 < 0 → L.getD v 0 = -1
  st : 0 ≤ L.getD s 0 ∧ L.getD s 0 ≤ a
/-- No edge leads somewhere earlier. -/
def Shut (E : List Ed) (C : List (List St)) (L : List Int) (i : Nat) : Prop :=
  0 ≤ L.getD (frN E i) 0 → L.getD (frN E i) 0 ≤ 1073741824 → 0 ≤ L.getD (toN E i) 0 ∧ L.getD (toN E i) 0 ≤ arrC C i (L.getD (frN E i) 0)
def relL (L : List Int) (v : Nat) (t : Int) : List Int := if L.getD v 0 < 0 ∨ t < L.getD v 0 then L.set v t else L
theorem OkL.first {n : Nat} {E : List Ed} {C : List (List St)} {s : Nat} {a : Int} (hs : s < n) (h0 : 0 ≤ a) : OkL n E C s a ((List.replicate n (-1)).set s a) := by
  have hg : ∀ v, v < n → ((List.replicate n (-1 : Int)).set s a).getD v 0 = if s = v then a else -1 := fun v hv => by
    rw [gset]
    simp only [List.length_replicate, hs, and_true]
    split
    · rfl
    · simp [List.getD_eq_getElem?_getD, List.getElem?_replicate, hv]
  refine ⟨by simp, fun v hv h => ?_, fun v hv h => ?_, ?_⟩
  · rw [hg v hv] at h ⊢
    by_cases e : s = v
    · subst e; rw [if_pos rfl]; exact .start
    · rw [if_neg e] at h; omega
  · rw [hg v hv] at h ⊢
    by_cases e : s = v
    · rw [if_pos e] at h; omega
    · rw [if_neg e]
  · rw [hg s hs, if_pos rfl]; omega
theorem rel_len (L : List Int) (v : Nat) (t : Int) : (relL L v t).length = L.length := by unfold relL; split <;> simp
theorem rel_at {L : List Int} {v : Nat} {t : Int} (hv : v < L.length) (w : Nat) : (relL L v t).getD w 0 = if v = w ∧ (L.getD v 0 < 0 ∨ t < L.getD v 0) then t else L.getD w 0 := by
  unfold relL
  by_cases c : L.getD v 0 < 0 ∨ t < L.getD v 0
  · rw [if_pos c, gset]
    by_cases e : v = w
    · rw [if_pos ⟨e, hv⟩, if_pos ⟨e, c⟩]
    · rw [if_neg (fun h => e h.1), if_neg (fun h => e h.1)]
  · rw [if_neg c, if_neg (fun h => c h.2)]
/-- Every place is at most what it was, or was empty. -/
def Below (L' L : List Int) : Prop := ∀ v, 0 ≤ L.getD v 0 → 0 ≤ L'.getD v 0 ∧ L'.getD v 0 ≤ L.getD v 0
theorem rel_below {L : List Int} {v : Nat} {t : Int} (hv : v < L.length) (ht : 0 ≤ t) : Below (relL L v t) L := fun w hw => by
  rw [rel_at hv]
  split
  · rename_i h; obtain ⟨rfl, h⟩ := h; omega
  · omega
theorem OkL.rel {n : Nat} {E : List Ed} {C : List (List St)} {s : Nat} {a : Int} {L : List Int} (h : OkL n E C s a L) {v : Nat} {t : Int} (hv : v < n) (ht : 0 ≤ t) (htr : Tr E C s a v t) : OkL n E C s a (relL L v t) := by
  have hl := h.len
  refine ⟨by rw [rel_len]; exact hl, fun w hw hp => ?_, fun w hw hp => ?_, ?_⟩
  · rw [rel_at (by omega)] at hp ⊢
    split
    · rename_i g; obtain ⟨rfl, _⟩ := g; exact htr
    · rename_i g; rw [if_neg g] at hp; exact h.true_ w hw hp
  · rw [rel_at (by omega)] at hp ⊢
    split
    · rename_i g; rw [if_pos g] at hp; omega
    · rename_i g; rw [if_neg g] at hp; exact h.neg w hw hp
  · have := rel_below (L := L) (v := v) (t := t) (by omega) ht s h.st.1
    have := h.st; omega
/-- A shut row is at most every time at which one can be there. -/
theorem shut_least {n : Nat} {E : List Ed} {C : List (List St)} {s : Nat} {a : Int} (hN : NetC n E C) {L : List Int} (h : OkL n E C s a L) (hS : ∀ i, i < E.length → Shut E C L i) {v : Nat} {t : Int} (ht : Tr E C s a v t) : 0 ≤ L.getD v 0 ∧ L.getD v 0 ≤ t := by
  induction ht with
  | start => exact h.st
  | step h2 h3 hi ih =>
    have k := hS _ hi ih.1 (by omega)
    have := hN.mono hi ih.2
    omega
end Go.Proofs.Ythfjdcdbimjkjaa.Rw

namespace Go.Proofs.Ythfjdcdbimjkjaa.Rw
open Go.Rx
set_option linter.unusedVariables false
set_option linter.unusedSimpArgs false
theorem out_loop (E : List Ed) (u : Int) (hE : E.length ≤ 600) : ∀ (l pre : List Ed) (ks : List Int), pre ++ l = E → ks.length ≤ pre.length → (∀ k : Int, k ∈ ks ↔ 0 ≤ k ∧ k < (pre.length : Int) ∧ fromE E k = u) →
    ∃ ks' : List Int, ks'.length ≤ E.length ∧ (∀ k : Int, k ∈ ks' ↔ 0 ≤ k ∧ k < (E.length : Int) ∧ fromE E k = u) ∧ Ev2 (fun k n => f73_l0 k n ks u (E.length : Int) (pre.length : Int) E) (ks', ())
  | [], pre, ks, hpl, hk, hm => by
    have e : pre = E := by simpa using hpl
    subst e
    exact ⟨ks, hk, hm, Ev2.step (g := fun _ _ => some (ks, ())) (fun k n => by rw [f73_l0, f73_l0_B, if_neg (by simp)]) (Ev2.pure _)⟩
  | e :: l, pre, ks, hpl, hk, hm => by
    have i0 : (0 : Int) ≤ (pre.length : Int) := by omega
    have i1 : (pre.length : Int) < (E.length : Int) := by rw [← hpl]; simp; omega
    have hg : E.getD ((pre.length : Int)).toNat (0, (0, (0, 0))) = e := by rw [← hpl]; exact getD_mid
    have hw : w64 ((pre.length : Int) + 1) = (((pre ++ [e]).length : Nat) : Int) := by
      rw [w64_id (by omega) (by omega)]; simp
    have hpl' : (pre ++ [e]) ++ l = E := by simp [← hpl]
    have hf : fromE E (pre.length : Int) = e.1 := by unfold fromE; exact congrArg Prod.fst hg
    by_cases c : e.1 = u
    · obtain ⟨ks', k1, k2, k3⟩ := out_loop E u hE l (pre ++ [e]) (ks ++ [(pre.length : Int)]) hpl' (by simp; exact hk) (fun k => by
        simp only [List.mem_append, List.mem_singleton, hm, List.length_append, List.length_singleton]
        constructor
        · rintro (h | h)
          · omega
          · subst h; omega
        · intro h
          by_cases g : k = (pre.length : Int)
          · exact .inr g
          · exact .inl (by omega))
      refine ⟨ks', k1, k2, Ev2.step (fun k n => ?_) k3⟩
      rw [f73_l0, f73_l0_B, if_pos i1, if_pos i0, if_pos i1, hg, if_pos c, if_pos (by omega), f73_c6, f73_c6_B, hw]
    · obtain ⟨ks', k1, k2, k3⟩ := out_loop E u hE l (pre ++ [e]) ks hpl' (by simp; omega) (fun k => by
        rw [hm]; simp only [List.length_append, List.length_singleton]
        constructor
        · intro h; omega
        · intro h
          by_cases g : k = (pre.length : Int)
          · subst g; omega
          · omega)
      refine ⟨ks', k1, k2, Ev2.step (fun k n => ?_) k3⟩
      rw [f73_l0, f73_l0_B, if_pos i1, if_pos i0, if_pos i1, hg, if_neg c, f73_c6, f73_c6_B, hw]
theorem out_ev (N : List Pt) (E : List Ed) (B : List Pt) (u : Int) (hE : E.length ≤ 600) :
    ∃ ks' : List Int, ks'.length ≤ E.length ∧ (∀ k : Int, k ∈ ks' ↔ 0 ≤ k ∧ k < (E.length : Int) ∧ fromE E k = u) ∧ Ev (fun k => f73 k (N, (E, B)) u) (ks', ()) := by
  obtain ⟨ks', k1, k2, k3⟩ := out_loop E u hE E [] [] rfl (by simp) (fun k => by simp; omega)
  refine ⟨ks', k1, k2, ?_⟩
  simp only [f73, f73_entry_B]
  exact k3.diag
end Go.Proofs.Ythfjdcdbimjkjaa.Rw

namespace Go.Proofs.Ythfjdcdbimjkjaa.Rw
open Go.Rx
set_option linter.unusedVariables false
set_option linter.unusedSimpArgs false
/-- A node that waits. -/
def Wait (L : List Int) (D : List Bool) (i : Nat) : Prop := 0 ≤ L.getD i 0 ∧ D.getD i false = false
def Pick (L : List Int) (D : List Bool) (m : Nat) (u : Int) : Prop :=
  (u = -1 ∧ ∀ i, i < m → ¬ Wait L D i) ∨ ∃ j : Nat, u = (j : Int) ∧ j < m ∧ Wait L D j ∧ ∀ i, i < m → Wait L D i → L.getD j 0 ≤ L.getD i 0
theorem pick_loop {N B : List Pt} {E : List Ed} {C : List (List St)} {L : List Int} {D : List Bool} (hL : L.length ≤ 200) (hD : D.length = L.length) : ∀ (d i : Nat) (u : Int), i + d = L.length → Pick L D i u →
    ∃ v, Pick L D L.length v ∧ ∀ res, Ev3 (fun k n m => f17_l4 k (fun y4_0 y4_1 y4_2 y72 y76 x1 => f17_l2 k n y4_0 y4_1 y4_2 y72 y76 x1) m N E B L D C v (L.length : Int) (L.length : Int)) res → Ev3 (fun k n m => f17_l4 k (fun y4_0 y4_1 y4_2 y72 y76 x1 => f17_l2 k n y4_0 y4_1 y4_2 y72 y76 x1) m N E B L D C u (L.length : Int) (i : Int)) res
  | 0, i, u, hid, hp => by
    have : i = L.length := by omega
    subst this
    exact ⟨u, hp, fun res h => h⟩
  | d + 1, i, u, hid, hp => by
    have i0 : (0 : Int) ≤ (i : Int) := by omega
    have i1 : (i : Int) < (L.length : Int) := by omega
    have i2 : (i : Int) < (D.length : Int) := by omega
    have hw : w64 ((i : Int) + 1) = ((i + 1 : Nat) : Int) := by rw [w64_id (by omega) (by omega)]; omega
    have skip : ¬ Wait L D i → Pick L D (i + 1) u := fun hn => by
      rcases hp with ⟨h1, h2⟩ | ⟨j, h1, h2, h3, h4⟩
      · exact .inl ⟨h1, fun q hq => by
          by_cases e : q = i
          · rw [e]; exact hn
          · exact h2 q (by omega)⟩
      · exact .inr ⟨j, h1, by omega, h3, fun q hq hw => by
          by_cases e : q = i
          · rw [e] at hw; exact absurd hw hn
          · exact h4 q (by omega) hw⟩
    by_cases c1 : 0 ≤ L.getD i 0
    · by_cases c2 : D.getD i false = true
      · obtain ⟨v, k1, k2⟩ := pick_loop hL hD d (i + 1) u (by omega) (skip (fun h => by have := h.2; rw [c2] at this; cases this))
        refine ⟨v, k1, fun res h => ?_⟩
        refine Ev3.step (fun k n m => ?_) (k2 res h)
        rw [f17_l4, f17_l4_B, if_pos i1, if_pos i0, if_pos i1, Int.toNat_natCast, if_pos c1, if_pos i0, if_pos i2, if_neg (fun h => h c2), f17_r24, f17_r24_B, if_neg (by simp), f17_c25, f17_c25_B, hw]
      · have c2' : D.getD i false = false := by simpa using c2
        have hwi : Wait L D i := ⟨c1, c2'⟩
        rcases hp with ⟨h1, h2⟩ | ⟨j, h1, h2, h3, h4⟩
        · obtain ⟨v, k1, k2⟩ := pick_loop hL hD d (i + 1) (i : Int) (by omega) (.inr ⟨i, rfl, by omega, hwi, fun q hq hw => by
            by_cases e : q = i
            · rw [e]; omega
            · exact absurd hw (h2 q (by omega))⟩)
          refine ⟨v, k1, fun res h => ?_⟩
          refine Ev3.step (fun k n m => ?_) (k2 res h)
          subst h1
          rw [f17_l4, f17_l4_B, if_pos i1, if_pos i0, if_pos i1, Int.toNat_natCast, if_pos c1, if_pos i0, if_pos i2, if_pos c2, if_pos (by omega), f17_r24, f17_r24_B, if_pos rfl, f17_c25, f17_c25_B, hw]
        · have j0 : ¬ u < 0 := by omega
          have j1 : 0 ≤ u := by omega
          have j2 : u < (L.length : Int) := by omega
          by_cases c3 : L.getD i 0 < L.getD j 0
          · obtain ⟨v, k1, k2⟩ := pick_loop hL hD d (i + 1) (i : Int) (by omega) (.inr ⟨i, rfl, by omega, hwi, fun q hq hw => by
              by_cases e : q = i
              · rw [e]; omega
              · have := h4 q (by omega) hw; omega⟩)
            refine ⟨v, k1, fun res h => ?_⟩
            refine Ev3.step (fun k n m => ?_) (k2 res h)
            have c3' : L.getD i 0 < L.getD u.toNat 0 := by rw [h1]; exact c3
            rw [f17_l4, f17_l4_B, if_pos i1, if_pos i0, if_pos i1, Int.toNat_natCast, if_pos c1, if_pos i0, if_pos i2, if_pos c2, if_neg j0, if_pos j1, if_pos j2, decide_eq_true c3', f17_r24, f17_r24_B, if_pos rfl, f17_c25, f17_c25_B, hw]
          · obtain ⟨v, k1, k2⟩ := pick_loop hL hD d (i + 1) u (by omega) (.inr ⟨j, h1, by omega, h3, fun q hq hw => by
              by_cases e : q = i
              · rw [e]; omega
              · exact h4 q (by omega) hw⟩)
            refine ⟨v, k1, fun res h => ?_⟩
            refine Ev3.step (fun k n m => ?_) (k2 res h)
            have c3' : ¬ L.getD i 0 < L.getD u.toNat 0 := by rw [h1]; exact c3
            rw [f17_l4, f17_l4_B, if_pos i1, if_pos i0, if_pos i1, Int.toNat_natCast, if_pos c1, if_pos i0, if_pos i2, if_pos c2, if_neg j0, if_pos j1, if_pos j2, decide_eq_false c3', f17_r24, f17_r24_B, if_neg (by simp), f17_c25, f17_c25_B, hw]
    · obtain ⟨v, k1, k2⟩ := pick_loop hL hD d (i + 1) u (by omega) (skip (fun h => c1 h.1))
      refine ⟨v, k1, fun res h => ?_⟩
      refine Ev3.step (fun k n m => ?_) (k2 res h)
      rw [f17_l4, f17_l4_B, if_pos i1, if_pos i0, if_pos i1, Int.toNat_natCast, if_neg c1, f17_r24, f17_r24_B, if_neg (by simp), f17_c25, f17_c25_B, hw]
/-- What holds between two rounds. -/
structure Front (n : Nat) (E : List Ed) (C : List (List St)) (L : List Int) (D : List Bool) : Prop where
  len : D.length = n
  cut : ∀ u v, u < n → v < n → D.getD u false = true → Wait L D v → L.getD u 0 ≤ L.getD v 0
  done : ∀ u, u < n → D.getD u false = true → 0 ≤ L.getD u 0
  shut : ∀ i, i < E.length → D.getD (frN E i) false = true → Shut E C L i
/-- What holds while the edges that begin at the node u are looked at. -/
structure Mid (n : Nat) (E : List Ed) (C : List (List St)) (u : Nat) (ks : List Int) (L : List Int) (D : List Bool) : Prop where
  len : D.length = n
  at_ : D.getD u false = true
  top : ∀ v, v < n → D.getD v false = true → 0 ≤ L.getD v 0 ∧ L.getD v 0 ≤ L.getD u 0
  low : ∀ v, v < n → Wait L D v → L.getD u 0 ≤ L.getD v 0
  shut : ∀ i, i < E.length → D.getD (frN E i) false = true → (frN E i ≠ u ∨ (i : Int) ∈ ks) → Shut E C L i
theorem Front.mid {n : Nat} {E : List Ed} {C : List (List St)} {L : List Int} {D : List Bool} (h : Front n E C L D) {u : Nat} (hu : u < n) (hw : Wait L D u) (hl : ∀ i, i < n → Wait L D i → L.getD u 0 ≤ L.getD i 0) : Mid n E C u [] L (D.set u true) := by
  have hd := h.len
  have hg : ∀ v, (D.set u true).getD v false = if u = v then true else D.getD v false := fun v => by
    rw [gset]
    by_cases e : u = v
    · rw [if_pos ⟨e, by omega⟩, if_pos e]
    · rw [if_neg (fun z => e z.1), if_neg e]
  refine ⟨by simpa using hd, by rw [hg, if_pos rfl], fun v hv hD => ?_, fun v hv hW => ?_, fun i hi hD hk => ?_⟩
  · rw [hg] at hD
    by_cases e : u = v
    · subst e; exact ⟨hw.1, by omega⟩
    · rw [if_neg e] at hD
      exact ⟨h.done v hv hD, h.cut v u hv hu hD hw⟩
  · obtain ⟨h1, h2⟩ := hW
    rw [hg] at h2
    by_cases e : u = v
    · subst e; omega
    · rw [if_neg e] at h2
      exact hl v hv ⟨h1, h2⟩
  · rw [hg] at hD
    have hne : frN E i ≠ u := hk.resolve_right (by simp)
    rw [if_neg (fun z => hne z.symm)] at hD
    exact h.shut i hi hD
theorem Mid.front {n : Nat} {E : List Ed} {C : List (List St)} {L : List Int} {D : List Bool} {u : Nat} {ks : List Int} (h : Mid n E C u ks L D) (hk : ∀ i, i < E.length → frN E i = u → (i : Int) ∈ ks) : Front n E C L D :=
  ⟨h.len, fun v w hv hw hD hW => by have := (h.top v hv hD).2; have := h.low w hw hW; omega, fun v hv hD => (h.top v hv hD).1, fun i hi hD => h.shut i hi hD (by
    by_cases c : frN E i = u
    · exact .inr (hk i hi c)
    · exact .inl c)⟩
theorem Mid.rel {n : Nat} {E : List Ed} {C : List (List St)} (hN : NetC n E C) {L : List Int} {D : List Bool} {u : Nat} {ks : List Int} (h : Mid n E C u ks L D) (hl : L.length = n) (hu : u < n) {i : Nat} (hi : i < E.length) (hf : frN E i = u) :
    Mid n E C u (ks ++ [(i : Int)]) (relL L (toN E i) (arrC C i (L.getD u 0))) D := by
  obtain ⟨ht, _⟩ := hN.to hi
  have hup := hN.up hi (L.getD u 0)
  have hu0 := (h.top u hu h.at_).1
  have same : ∀ v, v < n → D.getD v false = true → (relL L (toN E i) (arrC C i (L.getD u 0))).getD v 0 = L.getD v 0 := fun v hv hD => by
    rw [rel_at (by omega), if_neg]
    rintro ⟨rfl, g⟩
    have := h.top _ hv hD
    omega
  have eu := same u hu h.at_
  have hb := rel_below (L := L) (v := toN E i) (t := arrC C i (L.getD u 0)) (by omega) (by omega)
  refine ⟨h.len, h.at_, fun v hv hD => ?_, fun v hv hW => ?_, fun j hj hD hk => ?_⟩
  · rw [same v hv hD, eu]; exact h.top v hv hD
  · rw [eu]
    obtain ⟨h1, h2⟩ := hW
    rw [rel_at (by omega)] at h1 ⊢
    split
    · omega
    · rename_i g; rw [if_neg g] at h1; exact h.low v hv ⟨h1, h2⟩
  · have hfj := (hN.fr hj).1
    unfold Shut
    rw [same _ hfj hD]
    intro g0 g1
    by_cases e : j = i
    · subst e
      rw [rel_at (by omega), hf]
      split
      · omega
      · rename_i g
        have : ¬ (L.getD (toN E j) 0 < 0 ∨ arrC C j (L.getD u 0) < L.getD (toN E j) 0) := fun z => g ⟨rfl, z⟩
        omega
    · have hk' : frN E j ≠ u ∨ (j : Int) ∈ ks := by
        rcases hk with hk | hk
        · exact .inl hk
        · rw [List.mem_append, List.mem_singleton] at hk
          exact .inr (hk.resolve_right (by omega))
      have k := h.shut j hj hD hk' g0 g1
      have := hb _ k.1
      omega
theorem Mid.skip {n : Nat} {E : List Ed} {C : List (List St)} {L : List Int} {D : List Bool} {u : Nat} {ks : List Int} (h : Mid n E C u ks L D) {i : Nat} (hi : i < E.length) (hf : frN E i = u) (hb : 1073741824 < L.getD u 0) : Mid n E C u (ks ++ [(i : Int)]) L D := by
  refine ⟨h.len, h.at_, h.top, h.low, fun j hj hD hk => ?_⟩
  by_cases e : j = i
  · subst e
    unfold Shut; rw [hf]; intro g0 g1; omega
  · refine h.shut j hj hD ?_
    rcases hk with hk | hk
    · exact .inl hk
    · rw [List.mem_append, List.mem_singleton] at hk
      exact .inr (hk.resolve_right (by omega))
end Go.Proofs.Ythfjdcdbimjkjaa.Rw

namespace Go.Proofs.Ythfjdcdbimjkjaa.Rw
open Go.Rx
set_option linter.unusedVariables false
set_option linter.unusedSimpArgs false
theorem rlx_loop {n : Nat} {N B : List Pt} {E : List Ed} {C : List (List St)} {s : Nat} {a : Int} (hN : NetC n E C) (hs : s < n) (h0 : 0 ≤ a) (h1 : a ≤ 1073741824) {u : Nat} (hu : u < n) {D : List Bool} {ks : List Int} (hkl : ks.length ≤ 600) (hks : ∀ k ∈ ks, 0 ≤ k ∧ k < (E.length : Int) ∧ fromE E k = (u : Int)) :
    ∀ (l pre : List Int), pre ++ l = ks → ∀ L, OkL n E C s a L → Mid n E C u pre L D →
    ∃ L', OkL n E C s a L' ∧ Mid n E C u ks L' D ∧ ∀ res, Ev2 (fun k n => f17_l2 k n N E B L' D C) res →
      Ev3 (fun k n m => f17_l6 k (fun y4_0 y4_1 y4_2 y72 y76 x1 => f17_l2 k n y4_0 y4_1 y4_2 y72 y76 x1) m ks N E B L D C (ks.length : Int) (pre.length : Int) (u : Int)) res
  | [], pre, hpl, L, hL, hM => by
    have e : pre = ks := by simpa using hpl
    subst e
    exact ⟨L, hL, hM, fun res h => Ev3.step (fun k n m => by rw [f17_l6, f17_l6_B, if_neg (by simp)]) h.three⟩
  | q :: l, pre, hpl, L, hL, hM => by
    have i0 : (0 : Int) ≤ (pre.length : Int) := by omega
    have i1 : (pre.length : Int) < (ks.length : Int) := by rw [← hpl]; simp; omega
    have hg : ks.getD ((pre.length : Int)).toNat 0 = q := by rw [← hpl]; exact getD_mid
    have hw : w64 ((pre.length : Int) + 1) = (((pre ++ [q]).length : Nat) : Int) := by
      rw [w64_id (by omega) (by omega)]; simp
    have hpl' : (pre ++ [q]) ++ l = ks := by simp [← hpl]
    obtain ⟨q0, q1, q2⟩ := hks q (by rw [← hpl]; simp)
    obtain ⟨i, rfl⟩ : ∃ i : Nat, q = (i : Int) := ⟨q.toNat, by omega⟩
    have hi : i < E.length := by omega
    obtain ⟨hfn, hfe⟩ := hN.fr hi
    obtain ⟨htn, hte⟩ := hN.to hi
    have hf : frN E i = u := by unfold fromE at q2; rw [Int.toNat_natCast] at q2; unfold frN; omega
    have hl := hL.len
    have hcl := hN.len
    have q1' : (i : Int) < (C.length : Int) := by omega
    have u0 : (0 : Int) ≤ (u : Int) := by omega
    have u1 : (u : Int) < (L.length : Int) := by omega
    have hLu := (hM.top u hu hM.at_).1
    have hup := hN.up hi (L.getD u 0)
    have hex : (E.getD i (0, (0, (0, 0)))).2.1 = (toN E i : Int) := hte
    have t0 : (0 : Int) ≤ (toN E i : Int) := by omega
    have t1 : (toN E i : Int) < (L.length : Int) := by omega
    have har := arrive_ev (t := L.getD u 0) (hN.curves i hi) hLu
    by_cases c1 : L.getD u 0 ≤ 1073741824
    · rw [if_pos c1] at har
      have htr : Tr E C s a (toN E i) (arrC C i (L.getD u 0)) := by
        have := hL.true_ u hu hLu
        rw [← hf] at this ⊢
        exact .step this (by rw [hf]; exact c1) hi
      obtain ⟨L', k1, k2, k3⟩ := rlx_loop hN hs h0 h1 hu hkl hks l (pre ++ [(i : Int)]) hpl' _ (hL.rel htn (by omega) htr) (hM.rel hN hl hu hi hf)
      refine ⟨L', k1, k2, fun res h => ?_⟩
      have h5 := k3 res h
      obtain ⟨K, hK⟩ := har
      refine Ev3.stepE K (fun k n m hk => ?_) h5
      have hk' := hK k hk; simp only at hk'
      change f74 k (C.getD i []) (L.getD u 0) = some (arrC C i (L.getD u 0), 0, ()) at hk'
      rw [f17_l6, f17_l6_B, if_pos i1, if_pos i0, if_pos i1, hg, if_pos q0, if_pos q1', if_pos u0, if_pos u1]
      simp only [Int.toNat_natCast, hk', Option.bind_some, if_pos q0, if_pos q1, if_true, hex, if_pos t0, if_pos t1]
      unfold relL
      by_cases c2 : L.getD (toN E i) 0 < 0
      · rw [if_pos c2, if_pos (.inl c2), f17_r35, f17_r35_B, if_pos rfl, if_pos t0, if_pos t1, f17_c36, f17_c36_B, hw, Int.toNat_natCast]
      · rw [if_neg c2]
        by_cases c3 : arrC C i (L.getD u 0) < L.getD (toN E i) 0
        · rw [decide_eq_true c3, if_pos (.inr c3), f17_r35, f17_r35_B, if_pos rfl, if_pos t0, if_pos t1, f17_c36, f17_c36_B, hw, Int.toNat_natCast]
        · rw [decide_eq_false c3, if_neg (by omega), f17_r35, f17_r35_B, if_neg (by simp), f17_c36, f17_c36_B, hw]
    · rw [if_neg c1] at har
      obtain ⟨L', k1, k2, k3⟩ := rlx_loop hN hs h0 h1 hu hkl hks l (pre ++ [(i : Int)]) hpl' L hL (hM.skip hi hf (by omega))
      refine ⟨L', k1, k2, fun res h => ?_⟩
      have h5 := k3 res h
      obtain ⟨K, hK⟩ := har
      refine Ev3.stepE K (fun k n m hk => ?_) h5
      have hk' := hK k hk; simp only at hk'
      have z1 : ¬ (1 : Int) = 0 := by decide
      rw [f17_l6, f17_l6_B, if_pos i1, if_pos i0, if_pos i1, hg, if_pos q0, if_pos q1', if_pos u0, if_pos u1]
      simp only [Int.toNat_natCast, hk', Option.bind_some, if_pos q0, if_pos q1, if_neg z1, f17_r35, f17_r35_B, Bool.false_eq_true, if_false, f17_c36, f17_c36_B, hw]
theorem cnt_set : ∀ (D : List Bool) (u : Nat), u < D.length → D.getD u false = false → (D.set u true).count false < D.count false
  | [], u, hu, h => by simp at hu
  | x :: D, 0, hu, h => by
    have : x = false := by simpa using h
    subst this; simp
  | x :: D, u + 1, hu, h => by
    have := cnt_set D u (by simpa using hu) (by simpa using h)
    simp only [List.set_cons_succ, List.count_cons]
    omega
theorem hours_rounds {n : Nat} {N B : List Pt} {E : List Ed} {C : List (List St)} {s : Nat} {a : Int} (hn : n ≤ 200) (hN : NetC n E C) (hs : s < n) (h0 : 0 ≤ a) (h1 : a ≤ 1073741824) : ∀ (d : Nat) (L : List Int) (D : List Bool), D.count false < d → OkL n E C s a L → Front n E C L D →
    ∃ L', OkL n E C s a L' ∧ (∀ i, i < E.length → Shut E C L' i) ∧ Ev2 (fun k n => f17_l2 k n N E B L D C) (L', 0, ())
  | 0, L, D, hd, hL, hF => by omega
  | d + 1, L, D, hd, hL, hF => by
    have hl := hL.len
    have hdl := hF.len
    obtain ⟨v, hp, hpick⟩ := pick_loop (N := N) (B := B) (E := E) (C := C) (L := L) (D := D) (by omega) (by omega) L.length 0 (-1) (by omega) (.inl ⟨rfl, fun i hi => by omega⟩)
    have hend : ¬ (L.length : Int) < (L.length : Int) := by omega
    rcases hp with ⟨rfl, hno⟩ | ⟨u, rfl, hu, hwu, hmin⟩
    · refine ⟨L, hL, fun i hi => ?_, ?_⟩
      · intro g0 g1
        have hfn := (hN.fr hi).1
        refine hF.shut i hi ?_ g0 g1
        cases hD : D.getD (frN E i) false with
        | true => rfl
        | false => exact absurd ⟨g0, hD⟩ (hno _ (by omega))
      · refine Ev2.step (g := fun k n => f17_l4 k (fun y4_0 y4_1 y4_2 y72 y76 x1 => f17_l2 k n y4_0 y4_1 y4_2 y72 y76 x1) k N E B L D C (-1) (L.length : Int) 0) (fun k n => by rw [f17_l2, f17_l2_B]) ?_
        refine (hpick _ ?_).in_
        exact Ev3.step (g := fun _ _ _ => some (L, 0, ())) (fun k n m => by rw [f17_l4, f17_l4_B, if_neg hend, if_pos (by omega)]) (Ev2.three (Ev2.pure _))
    · have hun : u < n := by omega
      have hM := hF.mid hun hwu (fun i hi => hmin i (by omega))
      obtain ⟨ks, o1, o2, o3⟩ := out_ev N E B (u : Int) hN.few
      obtain ⟨L', k1, k2, k3⟩ := rlx_loop (N := N) (B := B) hN hs h0 h1 hun (by have := hN.few; omega) (fun k hk => (o2 k).1 hk) ks [] rfl L hL hM
      have hF' := k2.front (fun i hi hfr => (o2 _).2 ⟨by omega, by omega, by
        unfold fromE; rw [Int.toNat_natCast]; have := (hN.fr hi).2; rw [hfr] at this; exact this⟩)
      have hc := cnt_set D u (by omega) hwu.2
      obtain ⟨M, m1, m2, m3⟩ := hours_rounds hn hN hs h0 h1 d L' (D.set u true) (by omega) k1 hF'
      refine ⟨M, m1, m2, ?_⟩
      refine Ev2.step (g := fun k n => f17_l4 k (fun y4_0 y4_1 y4_2 y72 y76 x1 => f17_l2 k n y4_0 y4_1 y4_2 y72 y76 x1) k N E B L D C (-1) (L.length : Int) 0) (fun k n => by rw [f17_l2, f17_l2_B]) ?_
      refine (hpick _ ?_).in_
      obtain ⟨K, hK⟩ := o3
      refine Ev3.stepE K (fun k n m hk => ?_) (Ev2.three (k3 _ m3).in_)
      have hk' := hK k hk; simp only at hk'
      rw [f17_l4, f17_l4_B, if_neg hend, if_neg (by omega), if_pos (by omega), if_pos (by omega), hk', Option.bind_some, Int.toNat_natCast]
      rfl
theorem hours_ev {N B : List Pt} {E : List Ed} {C : List (List St)} {s : Nat} {a : Int} (hN : NetC N.length E C) (hl : N.length ≤ 200) (hs : s < N.length) (h0 : 0 ≤ a) (h1 : a ≤ 1073741824) :
    ∃ L', OkL N.length E C s a L' ∧ (∀ i, i < E.length → Shut E C L' i) ∧ Ev (fun k => f17_r15 k N E B C (s : Int) a false) (L', 0, ()) := by
  have hz : ∀ u, (List.replicate N.length false).getD u false = false := fun u => by
    simp only [List.getD_eq_getElem?_getD, List.getElem?_replicate]
    split <;> rfl
  obtain ⟨L', k1, k2, k3⟩ := hours_rounds (N := N) (B := B) hl hN hs h0 h1 _ _ (List.replicate N.length false) (Nat.lt_succ_self _) (OkL.first (E := E) (C := C) hs h0) ⟨by simp, fun u v hu hv hD => (by rw [hz] at hD; cases hD), fun u hu hD => (by rw [hz] at hD; cases hD), fun i hi hD => (by rw [hz] at hD; cases hD)⟩
  refine ⟨L', k1, k2, ?_⟩
  simp only [f17_r15, f17_r15_B, Bool.false_eq_true, if_false]
  refine (repeat_ev (-1) N.length (by omega)).bind ?_
  refine Ev.of (fun k => ?_) k3.diag
  rw [if_pos (by omega), if_pos (by omega), if_pos (by omega), if_pos (by simp; omega), Int.toNat_natCast, Int.toNat_natCast]
end Go.Proofs.Ythfjdcdbimjkjaa.Rw

namespace Go.Proofs.Ythfjdcdbimjkjaa.Rw
open Go.Rx
set_option linter.unusedVariables false
set_option linter.unusedSimpArgs false
theorem later_least {n : Nat} {E : List Ed} {C : List (List St)} {s : Nat} {a a' : Int} (haa : a ≤ a') (hN : NetC n E C) {L : List Int} (h : OkL n E C s a L) (hS : ∀ i, i < E.length → Shut E C L i) {v : Nat} {t : Int} (ht : Tr E C s a' v t) : 0 ≤ L.getD v 0 ∧ L.getD v 0 ≤ t := by
  induction ht with
  | start => have := h.st; omega
  | step h2 h3 hi ih =>
    have k := hS _ hi ih.1 (by omega)
    have := hN.mono hi ih.2
    omega
def cntT (n : Nat) (L : List Int) (T : Int) : Nat := ((List.range n).filter (fun v => decide (0 ≤ L.getD v 0 ∧ L.getD v 0 ≤ T))).length
theorem gap {n : Nat} {E : List Ed} {C : List (List St)} {s : Nat} {a : Int} (hN : NetC n E C) (hs : s < n) (h0 : 0 ≤ a) (hc : ∀ i, i < E.length → ∀ t, atC (C.getD i []) t ≤ 200) {L : List Int} (h : OkL n E C s a L) (hS : ∀ i, i < E.length → Shut E C L i) {T : Int} (hT : a ≤ T) (hT1 : T ≤ 1000000) {v : Nat} {t : Int} (ht : Tr E C s a v t) :
    T < L.getD v 0 → ∃ u, u < n ∧ T < L.getD u 0 ∧ L.getD u 0 ≤ T + 200 := by
  induction ht with
  | start => intro hv; have := h.st; omega
  | @step i t h2 h3 hi ih =>
    intro hv
    have hl := shut_least hN h hS h2
    by_cases c : T < L.getD (frN E i) 0
    · exact ih c
    · have k := hS i hi hl.1 (by omega)
      have hb := hc i hi (L.getD (frN E i) 0)
      unfold arrC at k
      exact ⟨toN E i, (hN.to hi).1, hv, by omega⟩
theorem cnt_up {n : Nat} {L : List Int} {T T' : Int} (hTT : T ≤ T') {u : Nat} (hu : u < n) (h1 : T < L.getD u 0) (h2 : L.getD u 0 ≤ T') (h0 : 0 ≤ T) : cntT n L T < cntT n L T' := by
  unfold cntT
  have hsub : (List.range n).filter (fun v => decide (0 ≤ L.getD v 0 ∧ L.getD v 0 ≤ T)) = ((List.range n).filter (fun v => decide (0 ≤ L.getD v 0 ∧ L.getD v 0 ≤ T'))).filter (fun v => decide (0 ≤ L.getD v 0 ∧ L.getD v 0 ≤ T)) := by
    rw [List.filter_filter]
    refine List.filter_congr fun q _ => ?_
    by_cases g : 0 ≤ L.getD q 0 ∧ L.getD q 0 ≤ T
    · have g' : 0 ≤ L.getD q 0 ∧ L.getD q 0 ≤ T' := ⟨g.1, by omega⟩
      simp only [g, g', decide_true, Bool.and_self]
    · simp only [g, decide_false, Bool.false_and]
  rw [hsub]
  refine List.length_filter_lt_length_iff_exists.2 ⟨u, List.mem_filter.2 ⟨List.mem_range.2 hu, decide_eq_true ⟨by omega, h2⟩⟩, ?_⟩
  simp only [decide_eq_true_eq]
  omega
theorem small_times {n : Nat} {E : List Ed} {C : List (List St)} {s : Nat} {a : Int} (hn : n ≤ 8) (hN : NetC n E C) (hs : s < n) (h0 : 0 ≤ a) (h1 : a ≤ 10000) (hc : ∀ i, i < E.length → ∀ t, atC (C.getD i []) t ≤ 200) {L : List Int} (h : OkL n E C s a L) (hS : ∀ i, i < E.length → Shut E C L i) {v : Nat} (hv : v < n) : L.getD v 0 ≤ a + 1600 := by
  have key : ∀ j : Nat, j ≤ 8 → (∃ u, u < n ∧ a + 200 * (j : Int) < L.getD u 0) → j + 1 ≤ cntT n L (a + 200 * (j : Int)) := fun j => by
    induction j with
    | zero =>
      intro _ _
      have hm : s ∈ (List.range n).filter (fun v => decide (0 ≤ L.getD v 0 ∧ L.getD v 0 ≤ a + 200 * ((0 : Nat) : Int))) := List.mem_filter.2 ⟨List.mem_range.2 hs, decide_eq_true ⟨h.st.1, by have := h.st.2; omega⟩⟩
      have := List.length_pos_of_mem hm
      unfold cntT; omega
    | succ j ih =>
      intro hj hex
      obtain ⟨u, hu, hg⟩ := hex
      have i1 := ih (by omega) ⟨u, hu, by omega⟩
      have hpos : 0 ≤ L.getD u 0 := by omega
      obtain ⟨q, q1, q2, q3⟩ := gap hN hs h0 hc h hS (T := a + 200 * (j : Int)) (by omega) (by omega) (h.true_ u hu hpos) (by omega)
      have := cnt_up (n := n) (L := L) (T := a + 200 * (j : Int)) (T' := a + 200 * ((j + 1 : Nat) : Int)) (by omega) q1 q2 (by omega) (by omega)
      omega
  rcases Int.lt_or_le (a + 1600) (L.getD v 0) with g | g
  · have k := key 8 (by omega) ⟨v, hv, by omega⟩
    have : cntT n L (a + 200 * ((8 : Nat) : Int)) ≤ n := by
      unfold cntT
      refine Nat.le_trans (List.length_filter_le _ _) ?_
      simp
    omega
  · exact g
/-- Later starts: the same nodes, not earlier. -/
theorem waits {n : Nat} {E : List Ed} {C : List (List St)} {s : Nat} {a a' : Int} (hn : n ≤ 8) (hN : NetC n E C) (hs : s < n) (h0 : 0 ≤ a) (haa : a ≤ a') (h1 : a' ≤ 10000) (hc : ∀ i, i < E.length → ∀ t, atC (C.getD i []) t ≤ 200) {L M : List Int} (hL : OkL n E C s a L) (hLS : ∀ i, i < E.length → Shut E C L i) (hM : OkL n E C s a' M) (hMS : ∀ i, i < E.length → Shut E C M i) {v : Nat} (hv : v < n) :
    (L.getD v 0 < 0 ↔ M.getD v 0 < 0) ∧ L.getD v 0 ≤ M.getD v 0 := by
  have up : 0 ≤ M.getD v 0 → 0 ≤ L.getD v 0 ∧ L.getD v 0 ≤ M.getD v 0 := fun g => later_least haa hN hL hLS (hM.true_ v hv g)
  have dn : 0 ≤ L.getD v 0 → 0 ≤ M.getD v 0 := fun g => by
    have ht := hL.true_ v hv g
    have key : ∀ {u : Nat} {t : Int}, Tr E C s a u t → 0 ≤ M.getD u 0 := fun {u t} htr => by
      induction htr with
      | start => exact hM.st.1
      | @step i t h2 h3 hi ih =>
        have := small_times hn hN hs (by omega) h1 hc hM hMS (hN.fr hi).1
        exact (hMS i hi ih (by omega)).1
    exact key ht
  by_cases g : 0 ≤ M.getD v 0
  · have := up g; omega
  · have g2 : ¬ 0 ≤ L.getD v 0 := fun z => g (dn z)
    have e1 := hM.neg v hv (by omega)
    have e2 := hL.neg v hv (by omega)
    omega
end Go.Proofs.Ythfjdcdbimjkjaa.Rw

namespace Go.Proofs.Ythfjdcdbimjkjaa.Rw
open Go.Rx
set_option linter.unusedVariables false
set_option linter.unusedSimpArgs false
theorem edF_good {n : Nat} : ∀ {E : List Ed}, edF n E = 0 → ∀ i, i < E.length → inR (E.getD i zE).1 n ∧ inR (E.getD i zE).2.1 n
  | [], h, i, hi => by simp at hi
  | e :: l, h, i, hi => by
    simp only [edF] at h
    by_cases c : badE n e
    · rw [if_pos c] at h; cases h
    · rw [if_neg c] at h
      by_cases c2 : e.1 = e.2.1
      · rw [if_pos c2] at h; cases h
      · rw [if_neg c2] at h
        cases i with
        | zero =>
          have c' : ¬ badE n e := c
          unfold badE at c'
          simp only [List.getD_cons_zero]
          exact ⟨Classical.not_not.1 (fun z => c' (.inl z)), Classical.not_not.1 (fun z => c' (.inr (.inl z)))⟩
        | succ i => simpa using edF_good h i (by simpa using hi)
theorem netF_parts {n : Nt} (h : netF n = 0) : n.1.length ≤ 200 ∧ n.2.1.length ≤ 600 ∧ n.2.2.length ≤ 600 ∧ edF n.1.length n.2.1 = 0 := by
  unfold netF at h
  split at h
  · cases h
  · split at h
    · split at h
      · rename_i h2; exact ⟨by omega, by omega, by omega, h2⟩
      · rename_i h2; exact absurd h h2
    · rename_i h1; exact absurd h h1
def cvF : List (List St) → Int
  | [] => 0
  | c :: l => if crvF c = 0 then cvF l else crvF c
theorem cvF_good : ∀ {C : List (List St)}, cvF C = 0 → ∀ i, i < C.length → ValidC (C.getD i [])
  | [], h, i, hi => by simp at hi
  | c :: l, h, i, hi => by
    simp only [cvF] at h
    by_cases g : crvF c = 0
    · rw [if_pos g] at h
      cases i with
      | zero => simpa using (crvF_zero c).1 g
      | succ i => simpa using cvF_good h i (by simpa using hi)
    · rw [if_neg g] at h; exact absurd h g
theorem hcv_loop (N B : List Pt) (E : List Ed) (C : List (List St)) (s a : Int) (hC : C.length ≤ 600) {res : List Int × Int × Unit} : ∀ (l pre : List (List St)), pre ++ l = C → (cvF l = 0 → Ev2 (fun k n => f17_l0 k n N E B C s a (C.length : Int) (C.length : Int)) res) →
    Ev2 (fun k n => f17_l0 k n N E B C s a (C.length : Int) (pre.length : Int)) (if cvF l = 0 then res else ([], cvF l, ()))
  | [], pre, hpl, hR => by
    have e : pre = C := by simpa using hpl
    subst e
    exact hR rfl
  | c :: l, pre, hpl, hR => by
    have i0 : (0 : Int) ≤ (pre.length : Int) := by omega
    have i1 : (pre.length : Int) < (C.length : Int) := by rw [← hpl]; simp; omega
    have hg : C.getD ((pre.length : Int)).toNat [] = c := by rw [← hpl]; exact getD_mid
    have hw : w64 ((pre.length : Int) + 1) = (((pre ++ [c]).length : Nat) : Int) := by
      rw [w64_id (by omega) (by omega)]; simp
    obtain ⟨K, hK⟩ := crv_ev c
    simp only [cvF] at hR ⊢
    by_cases g : crvF c = 0
    · simp only [if_pos g] at hR ⊢
      have ih := hcv_loop N B E C s a hC (res := res) l (pre ++ [c]) (by simp [← hpl]) hR
      refine Ev2.stepE K (fun k n hk => ?_) ih
      have hk' := hK k hk; simp only at hk'
      rw [f17_l0, f17_l0_B, if_pos i1, if_pos i0, if_pos i1, hg, hk', Option.bind_some, if_neg (by simp [g]), hw]
    · simp only [if_neg g]
      refine Ev2.stepE (g := fun _ _ => some ([], crvF c, ())) K (fun k n hk => ?_) (Ev2.pure _)
      have hk' := hK k hk; simp only at hk'
      rw [f17_l0, f17_l0_B, if_pos i1, if_pos i0, if_pos i1, hg, hk', Option.bind_some, if_pos g]
/-- Hours in a valid network without bans. -/
theorem hoursOK_ev {N : List Pt} {E : List Ed} {C : List (List St)} {s : Nat} {a : Int} (hv : netF (N, (E, ([] : List Pt))) = 0) (hC : C.length = E.length) (hcv : cvF C = 0) (hs : s < N.length) (h0 : 0 ≤ a) (h1 : a ≤ 1073741824) :
    NetC N.length E C ∧ ∃ L, OkL N.length E C s a L ∧ (∀ i, i < E.length → Shut E C L i) ∧ Ev (fun k => f17 k (N, (E, ([] : List Pt))) C (s : Int) a) (L, 0, ()) := by
  obtain ⟨n1, n2, n3, n4⟩ := netF_parts hv
  have n1 : N.length ≤ 200 := n1
  have n2 : E.length ≤ 600 := n2
  have hN : NetC N.length E C := ⟨edF_good n4, fun i hi => cvF_good hcv i (by omega), hC, n2⟩
  obtain ⟨L, l1, l2, l3⟩ := hours_ev (B := ([] : List Pt)) hN n1 hs h0 h1
  refine ⟨hN, L, l1, l2, ?_⟩
  simp only [f17, f17_entry_B]
  refine (chk_ev (N, (E, ([] : List Pt)))).bind ?_
  simp only [hv, not_true_eq_false, if_false]
  have hend : Ev2 (fun k n => f17_l0 k n N E ([] : List Pt) C (s : Int) a (C.length : Int) (C.length : Int)) (L, 0, ()) := by
    refine Ev2.step (g := fun k _ => f17_r15 k N E ([] : List Pt) C (s : Int) a false) (fun k n => ?_) l3.two
    rw [f17_l0, f17_l0_B, if_neg (by omega), if_neg (by omega), if_neg (by omega), if_neg (by omega), decide_eq_false (by omega)]
  have := (hcv_loop N ([] : List Pt) E C (s : Int) a (by omega) C [] rfl (fun _ => hend)).diag
  rw [if_pos hcv] at this
  refine Ev.of (fun k => ?_) this
  rw [if_neg (by simp), if_neg (by simp only [Classical.not_not]; omega)]
  rfl
end Go.Proofs.Ythfjdcdbimjkjaa.Rw

namespace Go.Proofs.Ythfjdcdbimjkjaa.Rw
open Go.Rx
set_option linter.unusedVariables false
set_option linter.unusedSimpArgs false
def evenC (e : Ed) : List St := [(0, e.2.2.1)]
theorem evenC_at (E : List Ed) (i : Nat) (hi : i < E.length) (t : Int) : (E.map evenC).getD i [] = [(0, costE E (i : Int))] ∧ atC ((E.map evenC).getD i []) t = costE E (i : Int) := by
  have e : (E.map evenC).getD i [] = [(0, costE E (i : Int))] := by
    rw [List.getD_eq_getElem?_getD, List.getElem?_map, List.getElem?_eq_getElem hi]
    unfold costE evenC
    rw [Int.toNat_natCast, List.getD_eq_getElem?_getD, List.getElem?_eq_getElem hi]; rfl
  refine ⟨e, ?_⟩
  rw [e]
  simp only [atC, atFrom]
  split <;> rfl
theorem evenC_valid {c : Int} (h0 : 0 ≤ c) (h1 : c ≤ 1073741824) : ValidC [(0, c)] := ⟨by simp, ⟨Int.le_refl 0, by show (0:Int) ≤ 1073741824; decide, h0, h1⟩⟩
theorem evenC_zero {E : List Ed} {n : Nat} : ∀ (l : List Ed), GoodE n l → cvF (l.map evenC) = 0
  | [], _ => rfl
  | e :: l, h => by
    have := h e (List.mem_cons_self ..)
    simp only [List.map_cons, cvF]
    rw [if_pos ((crvF_zero (evenC e)).2 (evenC_valid (by omega) (by omega)))]
    exact evenC_zero (E := E) l (fun x hx => h x (List.mem_cons_of_mem _ hx))
end Go.Proofs.Ythfjdcdbimjkjaa.Rw
