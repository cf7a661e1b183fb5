/- Plain laws for MultiFronts. No condition. -/
import Derived.Test.YtpbmlhlpfbcnbaaRwMultiFrontsa
namespace Go.Proofs.Ytpbmlhlpfbcnbaa.Rw
open Go.Rx Go.Sort
set_option linter.unusedVariables false
set_option linter.unusedSimpArgs false
/-- Pairs, compared number by number. -/
def cmpP (x y : Int × Int) : Int := if x.1 < y.1 then -1 else if y.1 < x.1 then 1 else if x.2 < y.2 then -1 else if y.2 < x.2 then 1 else 0
def ltP (x y : Int × Int) : Prop := x.1 < y.1 ∨ x.1 = y.1 ∧ x.2 < y.2
theorem cmpP_lt {x y : Int × Int} : cmpP x y < 0 ↔ ltP x y := by
  unfold cmpP ltP
  split
  · constructor <;> intro <;> omega
  · split
    · constructor <;> intro <;> omega
    · split
      · constructor <;> intro <;> omega
      · split <;> constructor <;> intro <;> omega
theorem cmp1p (k : Nat) (a b : Int) : f133 k a b = some (if a < b then -1 else if b < a then 1 else 0, ()) := by
  simp only [f133, f133_entry_B, f175, f175_entry_B]
  by_cases h1 : a < b <;> by_cases h2 : b < a <;> simp [h1, h2]
theorem cmp2 (k : Nat) (a b c d : Int) : f68 (k + 3) [a, b] [c, d] = some (cmpP (a, b) (c, d), ()) := by
  have w1 : w64 1 = 1 := w64_id (by omega) (by omega)
  have w2 : w64 2 = 2 := w64_id (by omega) (by omega)
  simp only [f68, f68_entry_B]
  simp [f68_l0, f68_l0_B, cmp1p, w1, w2, cmpP]
  by_cases h1 : a < c
  · simp [h1]
  · by_cases h2 : c < a
    · simp [h1, h2]
    · by_cases h3 : b < d
      · simp [h1, h2, h3]
      · by_cases h4 : d < b <;> simp [h1, h2, h3, h4]
theorem cmpA_eq {k : Nat} (hk : 3 ≤ k) : (fun x y => f67 k x y) = fun x y => some (cmpP x y, ()) := by
  obtain ⟨k, rfl⟩ : ∃ m, k = m + 3 := ⟨k - 3, by omega⟩
  funext x y
  simp only [f67, f67_entry_B, cmp2]
  rfl
theorem cmpB_eq {k : Nat} (hk : 3 ≤ k) : (fun x y => f136 k x y) = fun x y => some (cmpP x y, ()) := by
  obtain ⟨k, rfl⟩ : ∃ m, k = m + 3 := ⟨k - 3, by omega⟩
  funext x y
  simp only [f136, f136_entry_B, cmp2]
  rfl
theorem ltC_iff (x y : Int × Int) : ltC (fun x y => some (cmpP x y, ())) x y = true ↔ ltP x y := decide_eq_true_iff.trans cmpP_lt
theorem ltC_not (x y : Int × Int) : ltC (fun x y => some (cmpP x y, ())) x y = false ↔ ¬ ltP x y := by rw [← ltC_iff]; simp
theorem swoP : SWO (ltC fun x y : Int × Int => some (cmpP x y, ())) where
  irrefl x := by rw [ltC_not]; simp [ltP]
  trans x y z h1 h2 := by rw [ltC_iff] at *; unfold ltP at *; omega
  ntrans x y z h1 h2 := by rw [ltC_not] at *; unfold ltP at *; omega
theorem sortP (l : List (Int × Int)) (hl : l.length ≤ 1000000000000000) : ∃ m : List (Int × Int), sortK (e := .pair (.int .i64) (.int .i64)) (fun x y => some (cmpP x y, ())) l = some ((m, ()), ()) ∧ m.Perm l ∧ m.Pairwise fun x y => ¬ ltP y x := by
  obtain ⟨m, h1, h2, h3⟩ := sortK_some (e := .pair (.int .i64) (.int .i64)) (f := fun x y => some (cmpP x y, ())) (l := l) (fun _ _ => rfl) swoP (Nat.lt_of_le_of_lt hl (by decide))
  refine ⟨m, h1, h2, List.Pairwise.imp (fun h => (ltC_not _ _).1 h) h3⟩
theorem sortA_ev (l : List (Int × Int)) (hl : l.length ≤ 1000000000000000) : ∃ m : List (Int × Int), Ev (fun k => f66 k l ()) ((m, ()), ()) ∧ m.Perm l ∧ m.Pairwise fun x y => ¬ ltP y x := by
  obtain ⟨m, h1, h2, h3⟩ := sortP l hl
  refine ⟨m, ⟨3, fun k hk => ?_⟩, h2, h3⟩
  show sortK (e := .pair (.int .i64) (.int .i64)) (fun x y => f67 k x y) l = _
  exact (congrArg (fun f => sortK (e := .pair (.int .i64) (.int .i64)) f l) (cmpA_eq hk)).trans h1
theorem sortB_ev (l : List (Int × Int)) (hl : l.length ≤ 1000000000000000) : ∃ m : List (Int × Int), Ev (fun k => f66v1 k l ()) ((m, ()), ()) ∧ m.Perm l ∧ m.Pairwise fun x y => ¬ ltP y x := by
  obtain ⟨m, h1, h2, h3⟩ := sortP l hl
  refine ⟨m, ⟨3, fun k hk => ?_⟩, h2, h3⟩
  show sortK (e := .pair (.int .i64) (.int .i64)) (fun x y => f136 k x y) l = _
  exact (congrArg (fun f => sortK (e := .pair (.int .i64) (.int .i64)) f l) (cmpB_eq hk)).trans h1
/-- Two rows that rise and have the same entries are the same. -/
theorem riseP : ∀ {l m : List (Int × Int)}, l.Pairwise ltP → m.Pairwise ltP → (∀ x, x ∈ l ↔ x ∈ m) → l = m
  | [], [], _, _, _ => rfl
  | [], y :: m, _, _, h => by have := (h y).2 (by simp); simp at this
  | x :: l, [], _, _, h => by have := (h x).1 (by simp); simp at this
  | x :: l, y :: m, h1, h2, h => by
    rw [List.pairwise_cons] at h1 h2
    have hxy : x = y := by
      rcases List.mem_cons.1 ((h x).1 (by simp)) with e | e
      · exact e
      · rcases List.mem_cons.1 ((h y).2 (by simp)) with e2 | e2
        · exact e2.symm
        · have a := h1.1 _ e2
          have b := h2.1 _ e
          unfold ltP at a b; omega
    subst hxy
    have ih := riseP h1.2 h2.2 fun z => by
      constructor
      · intro hz
        rcases List.mem_cons.1 ((h z).1 (by simp [hz])) with e | e
        · subst e; have := h1.1 _ hz; unfold ltP at this; omega
        · exact e
      · intro hz
        rcases List.mem_cons.1 ((h z).2 (by simp [hz])) with e | e
        · subst e; have := h2.1 _ hz; unfold ltP at this; omega
        · exact e
    rw [ih]
end Go.Proofs.Ytpbmlhlpfbcnbaa.Rw

namespace Go.Proofs.Ytpbmlhlpfbcnbaa.Rw
open Go.Rx
set_option linter.unusedVariables false
set_option linter.unusedSimpArgs false
/-- The first i entries without those that are like the one ahead. -/
def cmpQ (a : List (Int × Int)) : Nat → List (Int × Int)
  | 0 => []
  | i + 1 => if i ≠ 0 ∧ a.getD i (0, 0) = a.getD (i - 1) (0, 0) then cmpQ a i else cmpQ a i ++ [a.getD i (0, 0)]
theorem cmpQ_len (a : List (Int × Int)) : ∀ i, (cmpQ a i).length ≤ i
  | 0 => Nat.le_refl _
  | i + 1 => by
    have := cmpQ_len a i
    unfold cmpQ
    split
    · omega
    · simp; omega
theorem takeP_snoc {a : List (Int × Int)} {i : Nat} (h : i < a.length) : a.take (i + 1) = a.take i ++ [a.getD i (0, 0)] := by
  rw [List.take_add_one, List.getElem?_eq_getElem h, List.getD_eq_getElem?_getD, List.getElem?_eq_getElem h]; rfl
theorem compactP_two {a : List (Int × Int)} (ha : a.length ≤ 1000000000000000) {k0 : Nat} (hk : k0 < a.length) : ∀ (d m : Nat) (y : List (Int × Int)) (i : Nat), k0 + m + d = a.length → 1 ≤ m → y.length = a.length → i = (cmpQ a (k0 + m)).length → y.take i = cmpQ a (k0 + m) → (∀ q, k0 + m ≤ q + 1 → y.getD q (0, 0) = a.getD q (0, 0)) → i < k0 + m →
    Ev3 (fun k n l => f137_l2 k (f137_l0 k n) l y (i : Int) ((k0 : Int)).toNat ((a.length : Int).toNat - ((k0 : Int)).toNat) (m : Int)) ((cmpQ a a.length, ()), ())
  | 0, m, y, i, hd, hm, hy, hi, ht, hq, hlt => by
    have e : k0 + m = a.length := by omega
    rw [e] at hi ht hlt
    refine Ev3.step (g := fun _ _ _ => some ((cmpQ a a.length, ()), ())) (fun k n l => ?_) (Ev2.pure _).three
    have hcl : (clrL y ((0, 0) : Int × Int) i (y.length - i)).length = y.length := by simp [clrL]; omega
    have htk : (clrL y ((0, 0) : Int × Int) i (y.length - i)).take i = y.take i := by
      unfold clrL
      rw [List.append_assoc, List.take_append_of_le_length (by rw [List.length_take]; omega), List.take_take, Nat.min_self]
    rw [f137_l2, f137_l2_B, if_neg (by simp only [Int.toNat_natCast]; omega), if_pos (by omega), if_pos (by omega), if_pos (by omega)]
    simp only [Int.toNat_natCast]
    rw [if_pos (by rw [hcl]; omega), htk, ht]
  | d + 1, m, y, i, hd, hm, hy, hi, ht, hq, hlt => by
    have m0 : (0 : Int) ≤ (m : Int) := by omega
    have m1 : (m : Int) < (((a.length : Int).toNat - ((k0 : Int)).toNat : Nat) : Int) := by simp only [Int.toNat_natCast]; omega
    have hw : w64 ((m : Int) + 1) = ((m + 1 : Nat) : Int) := by rw [w64_id (by omega) (by omega)]; omega
    have hwm : w64 ((m : Int) - 1) = ((m - 1 : Nat) : Int) := by rw [w64_id (by omega) (by omega)]; omega
    have hwi : w64 ((i : Int) + 1) = ((i + 1 : Nat) : Int) := by rw [w64_id (by omega) (by omega)]; omega
    have q1 := hq (k0 + m) (by omega)
    have q2 := hq (k0 + (m - 1)) (by omega)
    have e2 : k0 + m - 1 = k0 + (m - 1) := by omega
    have e3 : k0 + (m + 1) = k0 + m + 1 := by omega
    by_cases c : a.getD (k0 + m) (0, 0) = a.getD (k0 + (m - 1)) (0, 0)
    · have hn : cmpQ a (k0 + (m + 1)) = cmpQ a (k0 + m) := by rw [e3, cmpQ, if_pos ⟨by omega, by rw [e2]; exact c⟩]
      have ih := compactP_two ha hk d (m + 1) y i (by omega) (by omega) hy (by rw [hn]; exact hi) (by rw [hn]; exact ht) (fun q h => hq q (by omega)) (by omega)
      refine Ev3.step (fun k n l => ?_) ih
      rw [f137_l2, f137_l2_B, if_pos m1, if_pos m0, if_pos m1, hwm, if_pos (by omega), if_pos (by simp only [Int.toNat_natCast]; omega)]
      simp only [Int.toNat_natCast]
      rw [q1, q2, if_neg (fun z => z (Prod.ext_iff.1 c)), f137_c12, f137_c12_B, hw]
    · have hn : cmpQ a (k0 + (m + 1)) = cmpQ a (k0 + m) ++ [a.getD (k0 + m) (0, 0)] := by rw [e3, cmpQ, if_neg (fun z => c (by rw [e2] at z; exact z.2))]
      have hil : i < y.length := by omega
      have ih := compactP_two ha hk d (m + 1) (y.set i (a.getD (k0 + m) (0, 0))) (i + 1) (by omega) (by omega) (by simpa using hy) (by rw [hn]; simp; exact hi) (by
        rw [hn, takeP_snoc (by simpa using hil), List.take_set_of_le (Nat.le_refl _), ht]
        congr 1
        rw [List.getD_eq_getElem?_getD, List.getElem?_set_self hil]; rfl) (fun q h => by
          rw [List.getD_eq_getElem?_getD, List.getElem?_set_ne (by omega), ← List.getD_eq_getElem?_getD]; exact hq q (by omega)) (by omega)
      refine Ev3.step (fun k n l => ?_) ih
      rw [f137_l2, f137_l2_B, if_pos m1, if_pos m0, if_pos m1, hwm, if_pos (by omega), if_pos (by simp only [Int.toNat_natCast]; omega)]
      simp only [Int.toNat_natCast] at m1 ⊢
      rw [q1, q2, if_pos (fun z => c (Prod.ext_iff.2 z)), if_pos m0, if_pos m1, if_pos (by omega), if_pos (by omega), f137_c12, f137_c12_B, hw, hwi]
theorem compactP_one {a : List (Int × Int)} (ha : a.length ≤ 1000000000000000) : ∀ (d i : Nat), i + d = a.length → 1 ≤ i → cmpQ a i = a.take i →
    Ev2 (fun k n => f137_l0 k n a (i : Int)) ((cmpQ a a.length, ()), ())
  | 0, i, hd, h1, hc => by
    have e : i = a.length := by omega
    subst e
    rw [List.take_length] at hc
    refine Ev2.step (g := fun _ _ => some ((a, ()), ())) (fun k n => ?_) (by rw [hc]; exact Ev2.pure _)
    rw [f137_l0, f137_l0_B, if_neg (by omega)]
  | d + 1, i, hd, h1, hc => by
    have i0 : (0 : Int) ≤ (i : Int) := by omega
    have i1 : (i : Int) < (a.length : Int) := by omega
    have hw : w64 ((i : Int) + 1) = ((i + 1 : Nat) : Int) := by rw [w64_id (by omega) (by omega)]; omega
    have hwm : w64 ((i : Int) - 1) = ((i - 1 : Nat) : Int) := by rw [w64_id (by omega) (by omega)]; omega
    by_cases c : a.getD i (0, 0) = a.getD (i - 1) (0, 0)
    · have hn : cmpQ a (i + 1) = cmpQ a i := by rw [cmpQ, if_pos ⟨by omega, c⟩]
      have hl : (cmpQ a i).length = i := by rw [hc, List.length_take]; omega
      have h2 := compactP_two ha (k0 := i) (by omega) d 1 a i (by omega) (by omega) rfl (by rw [hn]; exact hl.symm) (by rw [hn]; exact hc.symm) (fun q _ => rfl) (by omega)
      refine Ev2.step (fun k n => ?_) h2.in_
      rw [f137_l0, f137_l0_B, if_pos i1, if_pos i0, if_pos i1, hwm, if_pos (by omega), if_pos (by omega)]
      rw [show ((i : Int)).toNat = i from Int.toNat_natCast i, show (((i - 1 : Nat) : Int)).toNat = i - 1 from Int.toNat_natCast _, if_pos (Prod.ext_iff.1 c), if_pos i0, if_pos (by omega)]
      rfl
    · have ih := compactP_one ha d (i + 1) (by omega) (by omega) (by rw [cmpQ, if_neg (fun z => c z.2), hc, takeP_snoc (by omega)])
      refine Ev2.step (fun k n => ?_) ih
      rw [f137_l0, f137_l0_B, if_pos i1, if_pos i0, if_pos i1, hwm, if_pos (by omega), if_pos (by omega)]
      rw [show ((i : Int)).toNat = i from Int.toNat_natCast i, show (((i - 1 : Nat) : Int)).toNat = i - 1 from Int.toNat_natCast _, if_neg (fun z => c (Prod.ext_iff.2 z)), f137_c7, f137_c7_B, hw]
theorem compactP_ev (a : List (Int × Int)) (ha : a.length ≤ 1000000000000000) : Ev (fun k => f137 k a) ((cmpQ a a.length, ()), ()) := by
  simp only [f137, f137_entry_B]
  by_cases c : (a.length : Int) < 2
  · refine Ev.of (g := fun _ => some ((cmpQ a a.length, ()), ())) (fun k => ?_) (Ev.pure _)
    rw [if_pos c]
    match a, c with
    | [], _ => rfl
    | [x], _ => simp [cmpQ]
    | _ :: _ :: _, c => simp at c; omega
  · refine Ev.of (fun k => by rw [if_neg c]; rfl) (compactP_one ha (a.length - 1) 1 (by omega) (by omega) ?_).diag
    rw [takeP_snoc (by omega), cmpQ, if_neg (fun z => z.1 rfl)]
    rfl
/-- A sorted row loses its twins, and nothing else. -/
theorem cmpQ_spec {a : List (Int × Int)} (hs : a.Pairwise (fun x y => ¬ ltP y x)) : ∀ i, i ≤ a.length → (cmpQ a i).Pairwise ltP ∧ (∀ x, x ∈ cmpQ a i ↔ x ∈ a.take i) ∧ (∀ x ∈ cmpQ a i, i = 0 ∨ ¬ ltP (a.getD (i - 1) (0, 0)) x)
  | 0, _ => ⟨List.Pairwise.nil, fun x => by simp [cmpQ], fun x h => by simp [cmpQ] at h⟩
  | i + 1, hi => by
    obtain ⟨h1, h2, h3⟩ := cmpQ_spec hs i (by omega)
    have hle : ∀ x ∈ a.take i, ¬ ltP (a.getD i (0, 0)) x := fun x hx => by
      obtain ⟨j, hj, rfl⟩ := List.mem_iff_getElem.1 hx
      rw [List.length_take] at hj
      rw [List.getElem_take, List.getD_eq_getElem?_getD, List.getElem?_eq_getElem (by omega : i < a.length)]
      exact List.pairwise_iff_getElem.1 hs j i (by omega) (by omega) (by omega)
    have hir : ∀ x : Int × Int, ¬ ltP x x := fun x h => by unfold ltP at h; omega
    rw [cmpQ]
    split
    · rename_i hc
      obtain ⟨hc0, hc⟩ := hc
      refine ⟨h1, fun x => ?_, fun x hx => .inr ?_⟩
      · rw [h2, takeP_snoc (by omega), List.mem_append, List.mem_singleton]
        refine ⟨.inl, fun h => h.elim id fun e => ?_⟩
        subst e
        rw [hc]
        have : a.take i = a.take (i - 1) ++ [a.getD (i - 1) (0, 0)] := by rw [← takeP_snoc (by omega), show i - 1 + 1 = i by omega]
        rw [this]; simp
      · rw [Nat.add_sub_cancel, hc]
        exact (h3 x hx).resolve_left hc0
    · rename_i hc
      refine ⟨List.pairwise_append.2 ⟨h1, List.pairwise_singleton _ _, fun x hx y hy => ?_⟩, fun x => ?_, fun x hx => .inr ?_⟩
      · rw [List.mem_singleton] at hy
        subst hy
        rcases h3 x hx with rfl | h
        · simp [cmpQ] at hx
        · by_cases e : i = 0
          · subst e; simp [cmpQ] at hx
          · have g1 := hle (a.getD (i - 1) (0, 0)) (by
              have : a.take i = a.take (i - 1) ++ [a.getD (i - 1) (0, 0)] := by rw [← takeP_snoc (by omega), show i - 1 + 1 = i by omega]
              rw [this]; simp)
            have g2 : ¬ ((a.getD i (0, 0)).1 = (a.getD (i - 1) (0, 0)).1 ∧ (a.getD i (0, 0)).2 = (a.getD (i - 1) (0, 0)).2) := fun z => hc ⟨e, Prod.ext z.1 z.2⟩
            unfold ltP at *
            omega
      · rw [takeP_snoc (by omega), List.mem_append, List.mem_append, h2]
      · rw [Nat.add_sub_cancel]
        rcases List.mem_append.1 hx with hx | hx
        · exact hle x ((h2 x).1 hx)
        · rw [List.mem_singleton] at hx; subst hx; exact hir _
end Go.Proofs.Ytpbmlhlpfbcnbaa.Rw

namespace Go.Proofs.Ytpbmlhlpfbcnbaa.Rw
open Go.Rx
set_option linter.unusedVariables false
set_option linter.unusedSimpArgs false
theorem dropP {l : List (Int × Int)} {i : Nat} (h : i < l.length) : l.drop i = l.getD i (0, 0) :: l.drop (i + 1) := by
  rw [List.drop_eq_getElem_cons h, List.getD_eq_getElem?_getD, List.getElem?_eq_getElem h]; rfl
theorem nextP {l : List (Int × Int)} {i : Nat} (hl : l.length ≤ 1000000000000000) (h : i < l.length) : w64 ((i : Int) + 1) = ((i + 1 : Nat) : Int) := by
  rw [w64_id (by omega) (by omega)]; omega
theorem indexP (l : List (Int × Int)) (a b : Int) (hl : l.length ≤ 1000000000000000) : ∀ (d i : Nat), i + d = l.length → ∃ r : Int, Ev2 (fun k n => f130_l0 k n a b l (l.length : Int) (i : Int)) (r, ()) ∧ (0 ≤ r ↔ (a, b) ∈ l.drop i)
  | 0, i, hd => ⟨-1, Ev2.step (g := fun _ _ => some (-1, ())) (fun k n => by
      rw [f130_l0, f130_l0_B, if_neg (by omega)]) (Ev2.pure _), by simp [List.drop_eq_nil_of_le (show l.length ≤ i by omega)]⟩
  | d + 1, i, hd => by
    have h : i < l.length := by omega
    obtain ⟨r, h1, h2⟩ := indexP l a b hl d (i + 1) (by omega)
    by_cases c : (a, b) = l.getD i (0, 0)
    · refine ⟨i, Ev2.step (g := fun _ _ => some ((i : Int), ())) (fun k n => ?_) (Ev2.pure _), by rw [dropP h, ← c]; simp⟩
      rw [f130_l0, f130_l0_B, if_pos (by omega), if_pos (by omega), if_pos (by omega), Int.toNat_natCast, ← c, if_pos ⟨rfl, rfl⟩]
    · refine ⟨r, Ev2.step (fun k n => ?_) h1, by rw [h2, dropP h, List.mem_cons, or_iff_right c]⟩
      rw [f130_l0, f130_l0_B, if_pos (by omega), if_pos (by omega), if_pos (by omega), Int.toNat_natCast, if_neg (fun z => c (Prod.ext z.1 z.2)), nextP hl h]
theorem containsP (l : List (Int × Int)) (x : Int × Int) (hl : l.length ≤ 1000000000000000) : Ev (fun k => f65 k l x) (decide (x ∈ l), ()) := by
  obtain ⟨r, h1, h2⟩ := indexP l x.1 x.2 hl l.length 0 (by omega)
  have h1 : Ev (fun k => f130 k l (x.1, x.2)) (r, ()) := h1.diag
  have h := h1.bind (g := fun _ r1 => some (decide (0 ≤ r1.1), ())) (Ev.pure _)
  rw [show decide (x ∈ l) = decide (0 ≤ r) from decide_eq_decide.2 (by rw [h2]; simp)]
  exact h
/-- One pair is another one, and no number of it is greater. -/
def underP (y x : Int × Int) : Prop := ¬ (y.1 = x.1 ∧ y.2 = x.2) ∧ y.1 ≤ x.1 ∧ y.2 ≤ x.2
open Classical in
theorem under_eq (k : Nat) (y x : Int × Int) : f135 k y x = some (decide (underP y x), ()) := by
  simp only [f135, f135_entry_B, f135_r1, f135_r1_B, f72, f72_entry_B, f72_r1, f72_r1_B]
  unfold underP
  by_cases h1 : y.1 = x.1 ∧ y.2 = x.2
  · rw [if_neg (by simpa using h1)]; simp [h1]
  · rw [if_pos h1]
    by_cases h2 : y.1 ≤ x.1
    · simp [h1, h2]
    · simp [h1, h2]
theorem indexFuncP (l : List (Int × Int)) (x : Int × Int) (hl : l.length ≤ 1000000000000000) : ∀ (d i : Nat), i + d = l.length → ∃ r : Int, Ev2 (fun k n => f176_l0 k n l x (l.length : Int) (i : Int)) (r, ()) ∧ (0 ≤ r ↔ ∃ y ∈ l.drop i, underP y x)
  | 0, i, hd => ⟨-1, Ev2.step (g := fun _ _ => some (-1, ())) (fun k n => by
      rw [f176_l0, f176_l0_B, if_neg (by omega)]) (Ev2.pure _), by simp [List.drop_eq_nil_of_le (show l.length ≤ i by omega)]⟩
  | d + 1, i, hd => by
    have h : i < l.length := by omega
    obtain ⟨r, h1, h2⟩ := indexFuncP l x hl d (i + 1) (by omega)
    by_cases c : underP (l.getD i (0, 0)) x
    · refine ⟨i, Ev2.step (g := fun _ _ => some ((i : Int), ())) (fun k n => ?_) (Ev2.pure _), by rw [dropP h]; exact ⟨fun _ => ⟨_, List.mem_cons_self .., c⟩, fun _ => by omega⟩⟩
      rw [f176_l0, f176_l0_B, if_pos (by omega), if_pos (by omega), if_pos (by omega), Int.toNat_natCast, under_eq, Option.bind_some, if_pos (by simpa using c)]
    · refine ⟨r, Ev2.step (fun k n => ?_) h1, ?_⟩
      · rw [f176_l0, f176_l0_B, if_pos (by omega), if_pos (by omega), if_pos (by omega), Int.toNat_natCast, under_eq, Option.bind_some, if_neg (by simpa using c), nextP hl h]
      · rw [h2, dropP h]
        constructor
        · rintro ⟨y, hy, hu⟩; exact ⟨y, List.mem_cons_of_mem _ hy, hu⟩
        · rintro ⟨y, hy, hu⟩
          rcases List.mem_cons.1 hy with rfl | hy
          · exact absurd hu c
          · exact ⟨y, hy, hu⟩
open Classical in
theorem someUnder (l : List (Int × Int)) (x : Int × Int) (hl : l.length ≤ 1000000000000000) : Ev (fun k => f134 k l x) (decide (∃ y ∈ l, underP y x), ()) := by
  obtain ⟨r, h1, h2⟩ := indexFuncP l x hl l.length 0 (by omega)
  have h1 : Ev (fun k => f176 k l x) (r, ()) := h1.diag
  have h := h1.bind (g := fun _ r1 => some (decide (0 ≤ r1.1), ())) (Ev.pure _)
  rw [show decide (∃ y ∈ l, underP y x) = decide (0 ≤ r) from decide_eq_decide.2 (by rw [h2]; simp)]
  exact h
/-- The pairs that are in front. -/
def inFront (l : List (Int × Int)) (x : Int × Int) : Prop := x ∈ l ∧ ∀ y ∈ l, ¬ underP y x
theorem front_loop (l : List (Int × Int)) (hl : l.length * 16 ≤ 140737488351232) : ∀ (d i : Nat) (out : List (Int × Int)), i + d = l.length → out.length ≤ i → (∀ x, x ∈ out ↔ x ∈ l.take i ∧ ∀ y ∈ l, ¬ underP y x) →
    ∃ m : List (Int × Int), Ev2 (fun k n => f71_l0 k n out l (l.length : Int) (i : Int)) (m, ()) ∧ m.Pairwise ltP ∧ (∀ x, x ∈ m ↔ inFront l x) ∧ m.length ≤ l.length
  | 0, i, out, hd, ho, hm => by
    obtain ⟨m1, h1, h2, h3⟩ := sortB_ev out (by omega)
    have h4 := compactP_ev m1 (by rw [h2.length_eq]; omega)
    obtain ⟨h5, h6, _⟩ := cmpQ_spec h3 m1.length (Nat.le_refl _)
    refine ⟨cmpQ m1 m1.length, Ev2.step (g := fun k n => (f66v1 k out ()).bind fun r2 => ((f137 k r2.1.1).bind fun r3 => some (r3.1.1, ()))) (fun k n => ?_) (h1.two.bind (h4.two.bind (Ev2.pure _))), h5, fun x => ?_, ?_⟩
    · rw [f71_l0, f71_l0_B, if_neg (by omega)]
    · rw [h6, List.take_length, h2.mem_iff, hm, List.take_of_length_le (by omega)]; rfl
    · have := cmpQ_len m1 m1.length
      have := h2.length_eq; omega
  | d + 1, i, out, hd, ho, hm => by
    have h : i < l.length := by omega
    have hw := nextP (l := l) (by omega) h
    have hs := someUnder l (l.getD i (0, 0)) (by omega)
    have ht : l.take (i + 1) = l.take i ++ [l.getD i (0, 0)] := takeP_snoc h
    by_cases c : ∃ y ∈ l, underP y (l.getD i (0, 0))
    · obtain ⟨m, h1, h2⟩ := front_loop l hl d (i + 1) out (by omega) (by omega) (fun x => by
        rw [hm, ht, List.mem_append, List.mem_singleton]
        refine ⟨fun z => ⟨.inl z.1, z.2⟩, fun z => ⟨z.1.elim id fun e => ?_, z.2⟩⟩
        subst e
        obtain ⟨y, hy, hu⟩ := c
        exact absurd hu (z.2 y hy))
      refine ⟨m, Ev2.step (g := fun k n => (f134 k l (l.getD i (0, 0))).bind fun r1 => if ¬ (r1.1 = true) then (if (out.length + 1) * 16 ≤ 140737488355328 then f71_l0 k n (out ++ [l.getD i (0, 0)]) l (l.length : Int) ((i + 1 : Nat) : Int) else none) else f71_l0 k n out l (l.length : Int) ((i + 1 : Nat) : Int)) (fun k n => ?_) (hs.two.bind (Ev2.of (fun k n => ?_) h1)), h2⟩
      · rw [f71_l0, f71_l0_B, if_pos (by omega), if_pos (by omega), if_pos (by omega), Int.toNat_natCast]
        simp only [f71_c6, f71_c6_B, hw]
      · rw [if_neg (by simpa using c)]
    · obtain ⟨m, h1, h2⟩ := front_loop l hl d (i + 1) (out ++ [l.getD i (0, 0)]) (by omega) (by simp; omega) (fun x => by
        rw [ht, List.mem_append, List.mem_singleton, List.mem_append, List.mem_singleton, hm]
        constructor
        · rintro (z | rfl)
          · exact ⟨.inl z.1, z.2⟩
          · exact ⟨.inr rfl, fun y hy hu => c ⟨y, hy, hu⟩⟩
        · rintro ⟨z | z, z2⟩
          · exact .inl ⟨z, z2⟩
          · exact .inr z)
      refine ⟨m, Ev2.step (g := fun k n => (f134 k l (l.getD i (0, 0))).bind fun r1 => if ¬ (r1.1 = true) then (if (out.length + 1) * 16 ≤ 140737488355328 then f71_l0 k n (out ++ [l.getD i (0, 0)]) l (l.length : Int) ((i + 1 : Nat) : Int) else none) else f71_l0 k n out l (l.length : Int) ((i + 1 : Nat) : Int)) (fun k n => ?_) (hs.two.bind (Ev2.of (fun k n => ?_) h1)), h2⟩
      · rw [f71_l0, f71_l0_B, if_pos (by omega), if_pos (by omega), if_pos (by omega), Int.toNat_natCast]
        simp only [f71_c6, f71_c6_B, hw]
      · rw [if_pos (by simpa using c), if_pos (by omega)]
theorem front_ev (l : List (Int × Int)) (hl : l.length * 16 ≤ 140737488351232) : ∃ m : List (Int × Int), Ev (fun k => f71 k l) (m, ()) ∧ m.Pairwise ltP ∧ (∀ x, x ∈ m ↔ inFront l x) ∧ m.length ≤ l.length := by
  obtain ⟨m, h1, h2⟩ := front_loop l hl l.length 0 [] (by omega) (Nat.zero_le _) (fun x => by simp)
  exact ⟨m, h1.diag, h2⟩
end Go.Proofs.Ytpbmlhlpfbcnbaa.Rw

namespace Go.Proofs.Ytpbmlhlpfbcnbaa.Rw
open Go.Rx
set_option linter.unusedVariables false
set_option linter.unusedSimpArgs false
theorem equalP_loop (l : List (Int × Int)) (hl : l.length ≤ 1000000000000000) : ∀ (d i : Nat), i + d = l.length → Ev2 (fun k n => f70_l0 k n l l (l.length : Int) (i : Int)) (true, ())
  | 0, i, hd => Ev2.step (g := fun _ _ => some (true, ())) (fun k n => by rw [f70_l0, f70_l0_B, if_neg (by omega)]) (Ev2.pure _)
  | d + 1, i, hd => by
    have h : i < l.length := by omega
    refine Ev2.step (fun k n => ?_) (equalP_loop l hl d (i + 1) (by omega))
    rw [f70_l0, f70_l0_B, if_pos (by omega), if_pos (by omega), if_pos (by omega), if_pos (by omega), if_pos (by omega), if_neg (by simp), nextP hl h]
theorem equalP_ev (l : List (Int × Int)) (hl : l.length ≤ 1000000000000000) : Ev (fun k => f70 k l l) (true, ()) := by
  refine Ev.of (fun k => ?_) (equalP_loop l hl l.length 0 (by omega)).diag
  simp only [f70, f70_entry_B, not_true_eq_false, if_false]
  rfl
theorem less_eq (k : Nat) (y x : Int × Int) : f72 k y x = some (decide (y.1 ≤ x.1 ∧ y.2 ≤ x.2), ()) := by
  simp only [f72, f72_entry_B, f72_r1, f72_r1_B]
  by_cases h2 : y.1 ≤ x.1 <;> simp [h2]
theorem chosen_ev : Ev (fun k => f69 k) (true, ()) := by
  obtain ⟨m, h1, h2, h3, h4⟩ := front_ev [(3, 1), (1, 3), (3, 3), (1, 3)] (by decide)
  have hm : m = [(1, 3), (3, 1)] := riseP h2 (by simp [ltP]) fun x => by
    rw [h3]
    unfold inFront underP
    simp only [List.mem_cons, List.not_mem_nil, or_false]
    constructor
    · rintro ⟨rfl | rfl | rfl | rfl, h⟩
      · simp
      · simp
      · have := h (1, 3) (by simp)
        simp at this
      · simp
    · rintro (rfl | rfl)
      · refine ⟨by simp, ?_⟩
        rintro y (rfl | rfl | rfl | rfl) <;> simp
      · refine ⟨by simp, ?_⟩
        rintro y (rfl | rfl | rfl | rfl) <;> simp
  subst hm
  have h5 := equalP_ev [(1, 3), (3, 1)] (by decide)
  refine Ev.of (g := fun k => (f71 k [(3, 1), (1, 3), (3, 3), (1, 3)]).bind fun r1 => (f70 k r1.1 [(1, 3), (3, 1)]).bind fun r2 => some (decide (r2.1 = true), ())) (fun k => rfl) (h1.bind (h5.bind ?_))
  simpa using Ev.pure (true, ())
/-- What is wanted, with one pair more. -/
theorem front_in {l : List (Int × Int)} (hl : l.length * 16 ≤ 140737488351232) {A B C D : Int} {i : Nat} (hi : i < l.length) {want : List (Int × Int)} (hw : want.length ≤ i) {r : Bool × Unit} : ∀ (d j : Nat) (ok : Bool) (want' : List (Int × Int)), j + d = l.length →
    ((ok = true ∧ ∀ y ∈ l.drop j, ¬ underP y (l.getD i (0, 0))) ∧ l.getD i (0, 0) ∉ want → want' = want ++ [l.getD i (0, 0)]) → (¬ ((ok = true ∧ ∀ y ∈ l.drop j, ¬ underP y (l.getD i (0, 0))) ∧ l.getD i (0, 0) ∉ want) → want' = want) →
    Ev2 (fun k n => f13_l0 k n A B C D want' l (l.length : Int) ((i + 1 : Nat) : Int)) r →
    Ev3 (fun k n m => f13_l2 k (f13_l0 k n) m A B C D want (l.getD i (0, 0)).1 (l.getD i (0, 0)).2 l ok (l.length : Int) (i : Int) (l.length : Int) (j : Int)) r
  | 0, j, ok, want', hd, g1, g2, hr => by
    have hwn := nextP (l := l) (by omega) hi
    have hdr : l.drop j = [] := List.drop_eq_nil_of_le (by omega)
    rw [hdr] at g1 g2
    have hc := containsP want (l.getD i (0, 0)) (by omega)
    have step : ∀ b : Bool, (b = true → want' = want ++ [l.getD i (0, 0)]) → (b = false → want' = want) → Ev3 (fun k n m => f13_r12 k (f13_l0 k n) A B C D want (l.getD i (0, 0)).1 (l.getD i (0, 0)).2 l (l.length : Int) (i : Int) b) r := fun b b1 b2 => by
      simp only [f13_r12, f13_r12_B, f13_c13, f13_c13_B, hwn]
      cases b with
      | true => 
        have hb : (want.length + 1) * 16 ≤ 140737488355328 := by omega
        simp only [if_true, if_pos hb]
        rw [b1 rfl] at hr
        exact hr.three
      | false =>
        simp only [Bool.false_eq_true, if_false]
        rw [b2 rfl] at hr
        exact hr.three
    cases ok with
    | false =>
      refine Ev3.step (fun k n m => ?_) (step false (fun h => by cases h) (fun _ => g2 (fun z => by simp at z)))
      rw [f13_l2, f13_l2_B, if_neg (by omega), if_neg (by simp)]
    | true =>
      refine Ev3.step (g := fun k n m => (f65 k want (l.getD i (0, 0))).bind fun r1 => f13_r12 k (f13_l0 k n) A B C D want (l.getD i (0, 0)).1 (l.getD i (0, 0)).2 l (l.length : Int) (i : Int) (decide (¬ (r1.1 = true)))) (fun k n m => ?_) (Ev.bind3 hc (step _ (fun h => g1 ⟨⟨rfl, fun y hy => by cases hy⟩, ?_⟩) (fun h => g2 (fun z => ?_))))
      · rw [f13_l2, f13_l2_B, if_neg (by omega), if_pos rfl]
      · simpa using h
      · have := z.2
        simp at h
        exact this h
  | d + 1, j, ok, want', hd, g1, g2, hr => by
    have hj : j < l.length := by omega
    have hwn := nextP (l := l) (by omega) hj
    by_cases c : underP (l.getD j (0, 0)) (l.getD i (0, 0))
    · have ih := front_in hl hi hw d (j + 1) false want' (by omega) (fun z => by simp at z) (fun _ => g2 (fun z => z.1.2 _ (by rw [dropP hj]; simp) c)) hr
      refine Ev3.step (fun k n m => ?_) ih
      rw [f13_l2, f13_l2_B, if_pos (by omega), if_pos (by omega), if_pos (by omega)]
      simp only [Int.toNat_natCast]
      rw [if_pos c.1, if_pos c.2.1]
      simp only [f13_r9, f13_r9_B, f13_c10, f13_c10_B, hwn, c.2.2, decide_true, if_true, Bool.false_eq_true, decide_false]
    · have e : (ok = true ∧ ∀ y ∈ l.drop j, ¬ underP y (l.getD i (0, 0))) ↔ (ok = true ∧ ∀ y ∈ l.drop (j + 1), ¬ underP y (l.getD i (0, 0))) := by
        rw [dropP hj]; simp only [List.mem_cons, forall_eq_or_imp]
        exact ⟨fun z => ⟨z.1, z.2.2⟩, fun z => ⟨z.1, c, z.2⟩⟩
      have ih := front_in hl hi hw d (j + 1) ok want' (by omega) (fun z => g1 ⟨e.2 z.1, z.2⟩) (fun z => g2 (fun q => z ⟨e.1 q.1, q.2⟩)) hr
      refine Ev3.step (fun k n m => ?_) ih
      rw [f13_l2, f13_l2_B, if_pos (by omega), if_pos (by omega), if_pos (by omega)]
      simp only [Int.toNat_natCast, f13_r9, f13_r9_B, f13_c10, f13_c10_B, hwn]
      by_cases c1 : (l.getD j (0, 0)).1 = (l.getD i (0, 0)).1 ∧ (l.getD j (0, 0)).2 = (l.getD i (0, 0)).2
      · rw [if_neg (fun z => z c1)]; simp
      · rw [if_pos c1]
        by_cases c2 : (l.getD j (0, 0)).1 ≤ (l.getD i (0, 0)).1
        · rw [if_pos c2]
          have c3 : ¬ (l.getD j (0, 0)).2 ≤ (l.getD i (0, 0)).2 := fun z => c ⟨c1, c2, z⟩
          simp only [c3, decide_false, Bool.false_eq_true, if_false]; simp
        · rw [if_neg c2]; simp
theorem fronts_loop {l : List (Int × Int)} (hl : l.length * 16 ≤ 140737488351232) (A B C D : Int) : ∀ (d i : Nat) (want : List (Int × Int)), i + d = l.length → want.length ≤ i → want.Nodup → (∀ x, x ∈ want ↔ x ∈ l.take i ∧ ∀ y ∈ l, ¬ underP y x) →
    Ev2 (fun k n => f13_l0 k n A B C D want l (l.length : Int) (i : Int)) (true, ())
  | 0, i, want, hd, hw, hn, hm => by
    obtain ⟨m2, h1, h2, h3⟩ := sortA_ev want (by omega)
    obtain ⟨m, f1, f2, f3, f4⟩ := front_ev l hl
    have hmm : m = m2 := riseP f2 (((h2.nodup_iff.2 hn).and h3).imp fun {x y} z => by
      have hne : ¬ (x.1 = y.1 ∧ x.2 = y.2) := fun q => z.1 (Prod.ext q.1 q.2)
      have := z.2
      unfold ltP at *; omega) fun x => by
        rw [f3, h2.mem_iff, hm, List.take_of_length_le (by omega)]; rfl
    subst hmm
    have he := equalP_ev m (by omega)
    refine Ev2.step (g := fun k n => (f66 k want ()).bind fun r1 => (f69 k).bind fun r2 => if r2.1 = true then ((f71 k l).bind fun r3 => (f70 k r3.1 r1.1.1).bind fun r4 => if r4.1 = true then ((f72 k (A, B) (C, D)).bind fun r5 => if A ≤ C then f13_r16 k (decide (decide (r5.1 = true) = decide (B ≤ D))) else f13_r16 k (decide (decide (r5.1 = true) = false))) else f13_r16 k false) else f13_r16 k false) (fun k n => ?_) ?_
    · rw [f13_l0, f13_l0_B, if_neg (by omega)]
    · refine h1.two.bind (chosen_ev.two.bind ?_)
      simp only [if_true]
      refine f1.two.bind (he.two.bind ?_)
      simp only [if_true]
      refine Ev2.of (g := fun _ _ => some (true, ())) (fun k n => ?_) (Ev2.pure _)
      rw [less_eq, Option.bind_some]
      simp only [f13_r16, f13_r16_B]
      by_cases c : A ≤ C
      · simp [c]
      · simp [c]
  | d + 1, i, want, hd, hw, hn, hm => by
    have hi : i < l.length := by omega
    have ht : l.take (i + 1) = l.take i ++ [l.getD i (0, 0)] := takeP_snoc hi
    refine Ev2.step (g := fun k n => f13_l2 k (f13_l0 k n) k A B C D want (l.getD i (0, 0)).1 (l.getD i (0, 0)).2 l true (l.length : Int) (i : Int) (l.length : Int) ((0 : Nat) : Int)) (fun k n => ?_) ?_
    · rw [f13_l0, f13_l0_B, if_pos (by omega), if_pos (by omega), if_pos (by omega), Int.toNat_natCast]
      rfl
    · by_cases c : (∀ y ∈ l, ¬ underP y (l.getD i (0, 0))) ∧ l.getD i (0, 0) ∉ want
      · refine (front_in hl hi hw l.length 0 true (want ++ [l.getD i (0, 0)]) (by omega) (fun _ => rfl) (fun z => absurd ⟨⟨rfl, by simpa using c.1⟩, c.2⟩ z) (fronts_loop hl A B C D d (i + 1) _ (by omega) (by simp; omega) ?_ fun x => ?_)).in_
        · rw [List.nodup_append]
          exact ⟨hn, by simp, fun a ha b hb => by rw [List.mem_singleton] at hb; subst hb; exact fun e => c.2 (e ▸ ha)⟩
        · rw [ht, List.mem_append, List.mem_append, List.mem_singleton, hm]
          constructor
          · rintro (z | rfl)
            · exact ⟨.inl z.1, z.2⟩
            · exact ⟨.inr rfl, c.1⟩
          · rintro ⟨z | z, z2⟩
            · exact .inl ⟨z, z2⟩
            · exact .inr z
      · refine (front_in hl hi hw l.length 0 true want (by omega) (fun z => absurd ⟨by simpa using z.1.2, z.2⟩ c) (fun _ => rfl) (fronts_loop hl A B C D d (i + 1) want (by omega) (by omega) hn fun x => ?_)).in_
        rw [hm, ht, List.mem_append, List.mem_singleton]
        refine ⟨fun z => ⟨.inl z.1, z.2⟩, fun z => ⟨z.1.elim id fun e => ?_, z.2⟩⟩
        subst e
        exact ((hm _).1 (Classical.byContradiction fun q => c ⟨z.2, q⟩)).1
theorem fronts_ev (l : List (Int × Int)) (a b : Int × Int) (hl : l.length * 16 ≤ 140737488351232) : Ev (fun k => f13 k l a b) (true, ()) :=
  (fronts_loop hl a.1 a.2 b.1 b.2 l.length 0 [] (by omega) (Nat.zero_le _) List.nodup_nil (fun x => by simp)).diag
theorem pure_MultiFronts : Pure_MultiFronts := by
  intro xs hw
  obtain ⟨l, a, b, ⟨⟩⟩ := xs
  exact (fronts_ev l a b hw.1.1).get
end Go.Proofs.Ytpbmlhlpfbcnbaa.Rw
