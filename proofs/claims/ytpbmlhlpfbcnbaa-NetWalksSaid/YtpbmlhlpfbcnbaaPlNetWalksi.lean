/- A walk in a network: a way that is allowed, and what it costs. No condition. -/
import Derived.Test.YtpbmlhlpfbcnbaaPlNetWalksh
namespace Go.Proofs.Ytpbmlhlpfbcnbaa.Rw
open Go.Rx
set_option linter.unusedVariables false
set_option linter.unusedSimpArgs false

def chainW (E : List Ed) (B : List Pt) : Option Int → List Int → Prop
  | _, [] => True
  | p, x :: w => inR x E.length ∧ (∀ y, p = some y → toE E y = fromE E x ∧ (y, x) ∉ B) ∧ chainW E B (some x) w
def sumW (E : List Ed) : List Int → Int
  | [] => 0
  | x :: w => costE E x + sumW E w
def endW (E : List Ed) (s : Int) (p : Option Int) : List Int → Int
  | [] => match p with
    | none => s
    | some y => toE E y
  | x :: w => endW E s (some x) w
theorem chainW_snoc {E : List Ed} {B : List Pt} {q : Int} (hq : inR q E.length) : ∀ (w : List Int) (p : Option Int), chainW E B p w → (∀ y, (match w.getLast? with | some z => some z | none => p) = some y → toE E y = fromE E q ∧ (y, q) ∉ B) → chainW E B p (w ++ [q])
  | [], p, _, h => ⟨hq, h, trivial⟩
  | x :: w, p, hc, h => by
    refine ⟨hc.1, hc.2.1, chainW_snoc hq w (some x) hc.2.2 fun y hy => h y ?_⟩
    cases w with
    | nil => simpa using hy
    | cons z w =>
      have e : (x :: z :: w).getLast? = (z :: w).getLast? := List.getLast?_cons_cons
      rw [e]
      cases hl : (z :: w).getLast? with
      | none => simp at hl
      | some u => rw [hl] at hy; exact hy
theorem sumW_snoc {E : List Ed} {q : Int} : ∀ (w : List Int), sumW E (w ++ [q]) = sumW E w + costE E q
  | [] => by simp [sumW]
  | x :: w => by simp only [List.cons_append, sumW]; rw [sumW_snoc w]; omega
structure WalkI (E : List Ed) (B : List Pt) (s : Int) (way : List Int) (sum at_ : Int) : Prop where
  ch : chainW E B none way
  sm : sum = sumW E way
  at_ : at_ = match way.getLast? with | none => s | some y => toE E y
  le : 0 ≤ sum ∧ sum ≤ 20 * (way.length : Int)
def canW (E : List Ed) (B : List Pt) (way : List Int) (at_ q : Int) : Prop := fromE E q = at_ ∧ ∀ y, way.getLast? = some y → (y, q) ∉ B
theorem WalkI.add {E : List Ed} {B : List Pt} {n : Nat} (hE : GoodE n E) {s : Int} {way : List Int} {sum at_ q : Int} (h : WalkI E B s way sum at_) (hq : inR q E.length) (hc : canW E B way at_ q) : WalkI E B s (way ++ [q]) (sum + costE E q) (toE E q) := by
  have hcost : 1 ≤ costE E q ∧ costE E q ≤ 20 := by
    have hi : q.toNat < E.length := by unfold inR at hq; omega
    have hm : E.getD q.toNat zE ∈ E := by
      rw [List.getD_eq_getElem?_getD, List.getElem?_eq_getElem hi]; exact List.getElem_mem hi
    have := hE _ hm
    exact ⟨this.2.2.2.1, this.2.2.2.2⟩
  refine ⟨chainW_snoc hq way none h.ch fun y hy => ?_, by rw [sumW_snoc, h.sm], by simp, ?_⟩
  · have hy' : way.getLast? = some y := by
      cases hl : way.getLast? with
      | none => rw [hl] at hy; cases hy
      | some z => rw [hl] at hy; exact hy
    refine ⟨?_, hc.2 y hy'⟩
    have := h.at_
    rw [hy'] at this
    simp only at this
    rw [← this, hc.1]
  · have := h.le
    simp only [List.length_append, List.length_singleton]
    omega
theorem walk_in (N : List Pt) {E : List Ed} {B : List Pt} (hlE : E.length ≤ 600) (hlB : B.length ≤ 600) {m way : List Int} {sum at_ x : Int} {i : Nat} (hi : i ≤ 1000) (hs : 0 ≤ sum ∧ sum ≤ 1000000) (hcost : ∀ q, inR q E.length → 0 ≤ costE E q ∧ costE E q ≤ 20) (hway : way.length ≤ 1000) :
    ∀ (l pre : List Ed) (out : List Int), pre ++ l = E → out.length ≤ pre.length → (∀ q ∈ out, inR q E.length ∧ canW E B way at_ q) →
    Ev3 (fun k n r => f53_l2 k (f53_l0 k n) r N E B out way sum at_ x m (m.length : Int) (i : Int) (E.length : Int) (pre.length : Int)) (way, sum, at_, ()) ∨
    ∃ q, inR q E.length ∧ canW E B way at_ q ∧ ∀ res, Ev2 (fun k n => f53_l0 k n N E B (way ++ [q]) (sum + costE E q) (toE E q) m (m.length : Int) ((i + 1 : Nat) : Int)) res →
      Ev3 (fun k n r => f53_l2 k (f53_l0 k n) r N E B out way sum at_ x m (m.length : Int) (i : Int) (E.length : Int) (pre.length : Int)) res
  | [], pre, out, hpl, hlo, ho => by
    have e : pre = E := by simpa using hpl
    subst e
    by_cases c : (out.length : Int) = 0
    · left
      refine Ev3.step (g := fun _ _ _ => some (way, sum, at_, ())) (fun k n r => ?_) (Ev2.three (Ev2.pure _))
      rw [f53_l2, f53_l2_B, if_neg (by omega), if_pos c, f53_b0, f53_b0_B]
    · right
      have hb := below_lt (x := x) (n := (out.length : Int)) (by omega)
      obtain ⟨b, hbb⟩ : ∃ b : Nat, belowF x (out.length : Int) = (b : Int) := ⟨(belowF x (out.length : Int)).toNat, by omega⟩
      have hmem : out.getD b 0 ∈ out := by
        rw [List.getD_eq_getElem?_getD, List.getElem?_eq_getElem (by omega)]; exact List.getElem_mem _
      obtain ⟨q1, q2⟩ := ho _ hmem
      have q1' := q1
      unfold inR at q1'
      have hc := hcost _ q1
      have hw : w64 ((i : Int) + 1) = ((i + 1 : Nat) : Int) := by rw [w64_id (by omega) (by omega)]; omega
      refine ⟨out.getD b 0, q1, q2, fun res h => Ev3.step (fun k n r => ?_) h.three⟩
      have hws : w64 (sum + costE pre (out.getD b 0)) = sum + costE pre (out.getD b 0) := w64_id (by omega) (by omega)
      unfold costE toE at *
      rw [f53_l2, f53_l2_B, if_neg (by omega), if_neg c, below_eq k x _ (by omega) (by omega), Option.bind_some]
      simp only [hbb, Int.toNat_natCast]
      rw [if_pos (by omega), if_pos (by omega), if_pos (by omega), if_pos q1'.1, if_pos q1'.2, if_pos q1'.1, if_pos q1'.2, hw]
      exact congrArg (fun z => f53_l0 k n N pre B (way ++ [out.getD b 0]) z ((pre.getD (out.getD b 0).toNat zE).2.1) m (m.length : Int) ((i + 1 : Nat) : Int)) hws
  | e :: l, pre, out, hpl, hlo, ho => by
    have h0 : (0 : Int) ≤ (pre.length : Int) := by omega
    have hlt : pre.length < E.length := by rw [← hpl]; simp
    have h1 : (pre.length : Int) < (E.length : Int) := by omega
    have hg : E.getD ((pre.length : Int)).toNat (0, (0, (0, 0))) = e := by rw [← hpl]; exact getD_mid
    have hw : w64 ((pre.length : Int) + 1) = (((pre ++ [e]).length : Nat) : Int) := by
      rw [w64_id (by omega) (by omega)]; simp
    have hpl' : (pre ++ [e]) ++ l = E := by simp [← hpl]
    have hfr : fromE E (pre.length : Int) = e.1 := by unfold fromE; exact congrArg Prod.fst hg
    have hinR : inR (pre.length : Int) E.length := ⟨h0, h1⟩
    -- one edge more, or not
    have no : ∀ k n r, f53_r10 k (f53_l2 k (f53_l0 k n) r) (f53_l0 k n) N E B out way sum at_ x (pre.length : Int) m (m.length : Int) (i : Int) (E.length : Int) false = f53_l2 k (f53_l0 k n) r N E B out way sum at_ x m (m.length : Int) (i : Int) (E.length : Int) (((pre ++ [e]).length : Nat) : Int) := fun k n r => by
      rw [f53_r10, f53_r10_B, if_neg (by simp), f53_c11, f53_c11_B, hw]
    have yes : ∀ k n r, f53_r10 k (f53_l2 k (f53_l0 k n) r) (f53_l0 k n) N E B out way sum at_ x (pre.length : Int) m (m.length : Int) (i : Int) (E.length : Int) true = f53_l2 k (f53_l0 k n) r N E B (out ++ [(pre.length : Int)]) way sum at_ x m (m.length : Int) (i : Int) (E.length : Int) (((pre ++ [e]).length : Nat) : Int) := fun k n r => by
      rw [f53_r10, f53_r10_B, if_pos rfl, if_pos (by omega), f53_c11, f53_c11_B, hw]
    have lift : ∀ (out' : List Int), (∃ K, ∀ k n r, K ≤ k → f53_l2 k (f53_l0 k n) (r + 1) N E B out way sum at_ x m (m.length : Int) (i : Int) (E.length : Int) (pre.length : Int) = f53_l2 k (f53_l0 k n) r N E B out' way sum at_ x m (m.length : Int) (i : Int) (E.length : Int) (((pre ++ [e]).length : Nat) : Int)) →
        (Ev3 (fun k n r => f53_l2 k (f53_l0 k n) r N E B out' way sum at_ x m (m.length : Int) (i : Int) (E.length : Int) (((pre ++ [e]).length : Nat) : Int)) (way, sum, at_, ()) ∨
        ∃ q, inR q E.length ∧ canW E B way at_ q ∧ ∀ res, Ev2 (fun k n => f53_l0 k n N E B (way ++ [q]) (sum + costE E q) (toE E q) m (m.length : Int) ((i + 1 : Nat) : Int)) res →
          Ev3 (fun k n r => f53_l2 k (f53_l0 k n) r N E B out' way sum at_ x m (m.length : Int) (i : Int) (E.length : Int) (((pre ++ [e]).length : Nat) : Int)) res) →
        Ev3 (fun k n r => f53_l2 k (f53_l0 k n) r N E B out way sum at_ x m (m.length : Int) (i : Int) (E.length : Int) (pre.length : Int)) (way, sum, at_, ()) ∨
        ∃ q, inR q E.length ∧ canW E B way at_ q ∧ ∀ res, Ev2 (fun k n => f53_l0 k n N E B (way ++ [q]) (sum + costE E q) (toE E q) m (m.length : Int) ((i + 1 : Nat) : Int)) res →
          Ev3 (fun k n r => f53_l2 k (f53_l0 k n) r N E B out way sum at_ x m (m.length : Int) (i : Int) (E.length : Int) (pre.length : Int)) res := fun out' hst h => by
      obtain ⟨K, hK⟩ := hst
      rcases h with h | ⟨q, q1, q2, q3⟩
      · exact .inl (Ev3.stepE K (fun k n r hk => hK k n r hk) h)
      · exact .inr ⟨q, q1, q2, fun res hr => Ev3.stepE K (fun k n r hk => hK k n r hk) (q3 res hr)⟩
    have ihno := walk_in N hlE hlB (m := m) (way := way) (sum := sum) (at_ := at_) (x := x) (i := i) hi hs hcost hway l (pre ++ [e]) out hpl' (by simp; omega) ho
    by_cases c1 : e.1 = at_
    · have addo : canW E B way at_ (pre.length : Int) → _ := fun hcan => walk_in N hlE hlB (m := m) (way := way) (sum := sum) (at_ := at_) (x := x) (i := i) hi hs hcost hway l (pre ++ [e]) (out ++ [(pre.length : Int)]) hpl' (by simp; omega) (fun q hq => by
        rcases List.mem_append.1 hq with hq | hq
        · exact ho q hq
        · simp only [List.mem_singleton] at hq; subst hq; exact ⟨hinR, hcan⟩)
      by_cases c2 : (way.length : Int) = 0
      · have hnil : way = [] := List.length_eq_zero_iff.1 (by omega)
        refine lift _ ⟨0, fun k n r _ => ?_⟩ (addo ⟨by rw [hfr, c1], fun y hy => by rw [hnil] at hy; cases hy⟩)
        rw [f53_l2, f53_l2_B, if_pos h1, if_pos h0, if_pos h1, hg, if_pos c1, if_pos c2, yes]
      · obtain ⟨y, hy⟩ : ∃ y, way.getLast? = some y := by
          cases hl : way.getLast? with
          | none => rw [List.getLast?_eq_none_iff] at hl; subst hl; simp at c2
          | some y => exact ⟨y, rfl⟩
        obtain ⟨w0, hw0⟩ := List.getLast?_eq_some_iff.1 hy
        have hwl : w64 ((way.length : Int) - 1) = (w0.length : Int) := by
          rw [w64_id (by omega) (by omega), hw0]; simp
        have hgl : way.getD ((w0.length : Int)).toNat 0 = y := by rw [hw0]; exact getD_mid
        have c3 : (0 : Int) ≤ (w0.length : Int) := by omega
        have c4 : (w0.length : Int) < (way.length : Int) := by rw [hw0]; simp; omega
        obtain ⟨K, hK⟩ := conB_ev B (y, (pre.length : Int)) (by omega)
        by_cases c5 : (y, (pre.length : Int)) ∈ B
        · refine lift _ ⟨K, fun k n r hk => ?_⟩ ihno
          have hk' := hK k hk; simp only at hk'
          rw [f53_l2, f53_l2_B, if_pos h1, if_pos h0, if_pos h1, hg, if_pos c1, if_neg c2, hwl, if_pos c3, if_pos c4]
          have hgl' : way.getD (w0.length : Int).toNat 0 = y := hgl
          rw [hgl', hk', Option.bind_some]
          simp only [c5, decide_true, not_true_eq_false, decide_false]
          exact no k n r
        · refine lift _ ⟨K, fun k n r hk => ?_⟩ (addo ⟨by rw [hfr, c1], fun z hz => by rw [hy] at hz; cases hz; exact c5⟩)
          have hk' := hK k hk; simp only at hk'
          rw [f53_l2, f53_l2_B, if_pos h1, if_pos h0, if_pos h1, hg, if_pos c1, if_neg c2, hwl, if_pos c3, if_pos c4]
          have hgl' : way.getD (w0.length : Int).toNat 0 = y := hgl
          rw [hgl', hk', Option.bind_some]
          simp only [c5, decide_false, Bool.false_eq_true, not_false_eq_true, decide_true]
          exact yes k n r
    · refine lift _ ⟨0, fun k n r _ => ?_⟩ ihno
      rw [f53_l2, f53_l2_B, if_pos h1, if_pos h0, if_pos h1, hg, if_neg c1, no]
theorem walk_out (N : List Pt) {E : List Ed} {B : List Pt} {n0 : Nat} (hE : GoodE n0 E) (hlE : E.length ≤ 600) (hlB : B.length ≤ 600) (s : Int) {m : List Int} (hm : m.length ≤ 12) : ∀ (d i : Nat) (way : List Int) (sum at_ : Int), i + d = m.length → way.length ≤ i → WalkI E B s way sum at_ →
    ∃ way' sum' at', WalkI E B s way' sum' at' ∧ way'.length ≤ m.length ∧ Ev2 (fun k n => f53_l0 k n N E B way sum at_ m (m.length : Int) (i : Int)) (way', sum', at', ())
  | 0, i, way, sum, at_, hid, hl, hI => by
    refine ⟨way, sum, at_, hI, by omega, Ev2.step (g := fun _ _ => some (way, sum, at_, ())) (fun k n => ?_) (Ev2.pure _)⟩
    rw [f53_l0, f53_l0_B, if_neg (by omega), f53_b0, f53_b0_B]
  | d + 1, i, way, sum, at_, hid, hl, hI => by
    have hcost : ∀ q, inR q E.length → 0 ≤ costE E q ∧ costE E q ≤ 20 := fun q hq => by
      have hi : q.toNat < E.length := by unfold inR at hq; omega
      have hm : E.getD q.toNat zE ∈ E := by
        rw [List.getD_eq_getElem?_getD, List.getElem?_eq_getElem hi]; exact List.getElem_mem hi
      have := hE _ hm
      unfold costE; omega
    have hle := hI.le
    have h1 : (i : Int) < (m.length : Int) := by omega
    have h0 : (0 : Int) ≤ (i : Int) := by omega
    have start : ∀ k n, f53_l0 k (n + 1) N E B way sum at_ m (m.length : Int) (i : Int) = f53_l2 k (f53_l0 k n) k N E B ([] : List Int) way sum at_ (m.getD (i : Int).toNat 0) m (m.length : Int) (i : Int) (E.length : Int) 0 := fun k n => by
      rw [f53_l0, f53_l0_B, if_pos h1, if_pos h0, if_pos h1]
    rcases walk_in N hlE hlB (m := m) (way := way) (sum := sum) (at_ := at_) (x := m.getD (i : Int).toNat 0) (i := i) (by omega) (by omega) hcost (by omega) E [] [] rfl (by simp) (fun q hq => by cases hq) with h | ⟨q, q1, q2, q3⟩
    · exact ⟨way, sum, at_, hI, by omega, Ev2.step start h.in_⟩
    · obtain ⟨way', sum', at', g1, g2, g3⟩ := walk_out N hE hlE hlB s hm d (i + 1) (way ++ [q]) _ _ (by omega) (by simp; omega) (hI.add hE q1 q2)
      exact ⟨way', sum', at', g1, g2, Ev2.step start (q3 _ g3).in_⟩
theorem walk_ev {N : List Pt} {E : List Ed} {B : List Pt} {n0 : Nat} (hE : GoodE n0 E) (hlE : E.length ≤ 600) (hlB : B.length ≤ 600) (s : Int) {m : List Int} (hm : m.length ≤ 12) :
    ∃ way sum at_, WalkI E B s way sum at_ ∧ way.length ≤ m.length ∧ Ev (fun k => f53 k (N, (E, B)) s m) (way, sum, at_, ()) := by
  obtain ⟨way, sum, at_, h1, h2, h3⟩ := walk_out N hE hlE hlB s hm m.length 0 [] 0 s (by omega) (by simp) ⟨trivial, rfl, rfl, by simp⟩
  refine ⟨way, sum, at_, h1, h2, ?_⟩
  simp only [f53, f53_entry_B]
  exact h3.diag
/-! ### What such a way costs -/
theorem costL_chain {E : List Ed} {B : List Pt} {n0 : Nat} (hE : GoodE n0 E) : ∀ (w : List Int) (p : Option Int) (s : Int), chainW E B p w → 0 ≤ s → s + 20 * (w.length : Int) ≤ 1000000 → costL E B p s w = (s + sumW E w, 0, ())
  | [], p, s, _, _, _ => by simp [costL, sumW]
  | x :: w, p, s, hc, h0, h1 => by
    have hi : x.toNat < E.length := by have := hc.1; unfold inR at this; omega
    have hm : E.getD x.toNat zE ∈ E := by
      rw [List.getD_eq_getElem?_getD, List.getElem?_eq_getElem hi]; exact List.getElem_mem hi
    have hcost : 1 ≤ costE E x ∧ costE E x ≤ 20 := ⟨(hE _ hm).2.2.2.1, (hE _ hm).2.2.2.2⟩
    simp only [List.length_cons] at h1
    have ih := costL_chain hE w (some x) (s + costE E x) hc.2.2 (by omega) (by omega)
    have hw : w64 (s + costE E x) = s + costE E x := w64_id (by omega) (by omega)
    have e : s + costE E x + sumW E w = s + (costE E x + sumW E w) := by omega
    cases p with
    | none =>
      simp only [costL]
      rw [if_pos hc.1, hw, ih]
      simp only [sumW, e]
    | some y =>
      obtain ⟨t1, t2⟩ := hc.2.1 y rfl
      simp only [costL]
      rw [if_pos hc.1, if_pos t1, if_neg t2, hw, ih]
      simp only [sumW, e]
theorem chainW_weak {E : List Ed} {B : List Pt} {p : Option Int} : ∀ {w : List Int}, chainW E B p w → chainW E B none w
  | [], _ => trivial
  | _ :: _, h => ⟨h.1, fun y hy => (by cases hy), h.2.2⟩
theorem chainW_take {E : List Ed} {B : List Pt} : ∀ (w : List Int) (n : Nat) (p : Option Int), chainW E B p w → chainW E B p (w.take n)
  | [], n, p, _ => by simp [chainW]
  | x :: w, 0, p, _ => trivial
  | x :: w, n + 1, p, h => ⟨h.1, h.2.1, chainW_take w n (some x) h.2.2⟩
theorem chainW_drop {E : List Ed} {B : List Pt} : ∀ (w : List Int) (n : Nat) (p : Option Int), chainW E B p w → chainW E B none (w.drop n)
  | [], n, p, _ => by simp [chainW]
  | x :: w, 0, p, h => chainW_weak h
  | x :: w, n + 1, p, h => chainW_drop w n (some x) h.2.2
theorem sumW_parts {E : List Ed} : ∀ (w : List Int) (n : Nat), sumW E (w.take n) + sumW E (w.drop n) = sumW E w
  | [], n => by simp [sumW]
  | x :: w, 0 => by simp [sumW]
  | x :: w, n + 1 => by
    have := sumW_parts (E := E) w n
    simp only [List.take_succ_cons, List.drop_succ_cons, sumW]; omega
/-- Every two neighbours are a turn. -/
theorem chainW_turn {E : List Ed} {B : List Pt} : ∀ (w : List Int) (i : Nat) (p : Option Int), chainW E B p w → i + 1 < w.length → turnF E B (w.getD i 0) (w.getD (i + 1) 0) = true
  | [], i, p, _, hi => by simp at hi
  | [x], i, p, _, hi => by simp at hi
  | x :: y :: w, 0, p, h, hi => by
    obtain ⟨h1, h2, h3⟩ := h
    obtain ⟨g1, g2, g3⟩ := h3
    obtain ⟨t1, t2⟩ := g2 x rfl
    simp only [List.getD_cons_zero, List.getD_cons_succ]
    unfold turnF
    exact decide_eq_true ⟨h1, g1, t1, t2⟩
  | x :: y :: w, i + 1, p, h, hi => by
    have := chainW_turn (y :: w) i (some x) h.2.2 (by simpa using hi)
    simpa using this
end Go.Proofs.Ytpbmlhlpfbcnbaa.Rw
