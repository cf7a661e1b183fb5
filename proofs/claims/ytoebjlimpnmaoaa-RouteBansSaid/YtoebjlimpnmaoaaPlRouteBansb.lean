/- Plain laws for RouteBans. No condition. -/
import Derived.Test.YtoebjlimpnmaoaaPlRouteBansa
namespace Go.Proofs.Ytoebjlimpnmaoaa.Rw
open Go.Rx
set_option linter.unusedVariables false
set_option linter.unusedSimpArgs false
def belowF (x n : Int) : Int := if x.tmod n < 0 then x.tmod n + n else x.tmod n
theorem below_lt {x n : Int} (h : 1 ≤ n) : 0 ≤ belowF x n ∧ belowF x n < n := by
  have h1 := Int.lt_tmod_of_pos x (show 0 < n by omega)
  have h2 := Int.tmod_lt_of_pos x (show 0 < n by omega)
  unfold belowF
  split <;> omega
theorem below_eq (k : Nat) (x n : Int) (h : 1 ≤ n) (h2 : n ≤ 1000000000000) : f15 k x n = some (belowF x n, ()) := by
  have g1 := Int.lt_tmod_of_pos x (show 0 < n by omega)
  have g2 := Int.tmod_lt_of_pos x (show 0 < n by omega)
  simp only [f15, f15_entry_B, f15_c3, f15_c3_B, belowF]
  rw [if_pos (by omega)]
  split
  · rw [w64_id (by omega) (by omega)]
  · rfl
def nextF (a : List Int) (n : Int) : List Int × Int := if a.length = 0 then (a, 0) else (a.drop 1, belowF (a.getD 0 0) n)
theorem next_lt {a : List Int} {n : Int} (h : 1 ≤ n) : 0 ≤ (nextF a n).2 ∧ (nextF a n).2 < n := by
  unfold nextF
  split
  · exact ⟨by simp, by simp; omega⟩
  · exact below_lt h
theorem next_eq (k : Nat) (a : List Int) (n : Int) (h : 1 ≤ n) (h2 : n ≤ 1000000000000) : f43 k a n = some ((((nextF a n).1, ()), ()), ((nextF a n).2, ())) := by
  have h3 : ¬ n < 1 := by omega
  simp only [f43, f43_entry_B, f43_r1, f43_r1_B, nextF]
  by_cases h0 : a.length = 0
  · simp [h0]
  · rw [if_neg (by omega), decide_eq_false h3, if_neg (by simp), if_pos (by omega), if_pos (by omega), below_eq k _ n h h2, if_neg h0]
    rfl
end Go.Proofs.Ytoebjlimpnmaoaa.Rw

namespace Go.Proofs.Ytoebjlimpnmaoaa.Rw
open Go.Rx
set_option linter.unusedVariables false
set_option linter.unusedSimpArgs false
def cmpB (p q : Pt) : Int := if p.1 = q.1 then w64 (p.2 - q.2) else w64 (p.1 - q.1)
theorem cmpB_eq (k : Nat) (p q : Pt) : f48 k p q = some (cmpB p q, ()) := by
  simp only [f48, f48_entry_B, cmpB]
  by_cases h : p.1 = q.1 <;> simp [h]
theorem swap_perm (y : List Pt) {i j : Nat} (hi : i < y.length) (hj : j < y.length) (z : Pt) : ((y.set i (y.getD j z)).set j (y.getD i z)).Perm y := by
  rw [List.getD_eq_getElem?_getD, List.getElem?_eq_getElem hj, List.getD_eq_getElem?_getD, List.getElem?_eq_getElem hi]
  exact List.set_set_perm hi hj
theorem ins_in {b i : Nat} (hi : (i : Int) ≤ 1000000) : ∀ (j : Nat) (y : List Pt), j ≤ i → j < y.length →
    ∃ y', y'.Perm y ∧ ∀ res, Ev2 (fun k n => f96_l0 k n y' 0 (b : Int) ((i + 1 : Nat) : Int)) res → Ev3 (fun k n m => f96_l2 k (f96_l0 k n) m y 0 (b : Int) (i : Int) (j : Int)) res
  | 0, y, hji, hj => by
    have hw : w64 ((i : Int) + 1) = ((i + 1 : Nat) : Int) := by rw [w64_id (by omega) (by omega)]; omega
    refine ⟨y, List.Perm.refl _, fun res h => Ev3.step (fun k n m => ?_) h.three⟩
    rw [f96_l2, f96_l2_B, if_neg (by omega), f96_r4, f96_r4_B, if_neg (by simp), hw]
  | j + 1, y, hji, hj => by
    have hw : w64 ((i : Int) + 1) = ((i + 1 : Nat) : Int) := by rw [w64_id (by omega) (by omega)]; omega
    have hw1 : w64 (((j + 1 : Nat) : Int) - 1) = (j : Int) := by rw [w64_id (by omega) (by omega)]; omega
    have c0 : (0 : Int) < ((j + 1 : Nat) : Int) := by omega
    have c1 : (0 : Int) ≤ ((j + 1 : Nat) : Int) := by omega
    have c2 : ((j + 1 : Nat) : Int) < (y.length : Int) := by omega
    have c3 : (0 : Int) ≤ (j : Int) := by omega
    have c4 : (j : Int) < (y.length : Int) := by omega
    by_cases hc : cmpB (y.getD (j + 1) (0, 0)) (y.getD j (0, 0)) < 0
    · obtain ⟨y', p1, p2⟩ := ins_in hi j ((y.set (j + 1) (y.getD j (0, 0))).set j (y.getD (j + 1) (0, 0))) (by omega) (by simp; omega)
      refine ⟨y', p1.trans (swap_perm y hj (by omega) (0, 0)), fun res h => Ev3.step (fun k n m => ?_) (p2 res h)⟩
      rw [f96_l2, f96_l2_B, if_pos c0, if_pos c1, if_pos c2, hw1, if_pos c3, if_pos c4]
      simp only [Int.toNat_natCast, cmpB_eq, Option.bind_some]
      rw [show decide (cmpB (y.getD (j + 1) (0, 0)) (y.getD j (0, 0)) < 0) = true from decide_eq_true hc, f96_r4, f96_r4_B, if_pos rfl, hw1, if_pos c3, if_pos c4, if_pos c1, if_pos c2, if_pos c1, if_pos c2, if_pos c3, if_pos (by simp only [List.length_set]; exact c4)]
      simp only [Int.toNat_natCast]
    · refine ⟨y, List.Perm.refl _, fun res h => Ev3.step (fun k n m => ?_) h.three⟩
      rw [f96_l2, f96_l2_B, if_pos c0, if_pos c1, if_pos c2, hw1, if_pos c3, if_pos c4]
      simp only [Int.toNat_natCast, cmpB_eq, Option.bind_some]
      rw [show decide (cmpB (y.getD (j + 1) (0, 0)) (y.getD j (0, 0)) < 0) = false from decide_eq_false hc, f96_r4, f96_r4_B, if_neg (by simp), hw]
theorem ins_out {b : Nat} (hb : b ≤ 1000) : ∀ (d i : Nat) (y : List Pt), b ≤ i + d → y.length = b → i ≤ 1000 →
    ∃ y', y'.Perm y ∧ Ev2 (fun k n => f96_l0 k n y 0 (b : Int) (i : Int)) ((y', ()), ())
  | 0, i, y, hd, hl, hi => ⟨y, List.Perm.refl _, Ev2.step (g := fun _ _ => some ((y, ()), ())) (fun k n => by rw [f96_l0, f96_l0_B, if_neg (by omega)]) (Ev2.pure _)⟩
  | d + 1, i, y, hd, hl, hi => by
    by_cases h : i < b
    · obtain ⟨y1, p1, p2⟩ := ins_in (b := b) (i := i) (by omega) i y (Nat.le_refl _) (by omega)
      obtain ⟨y2, q1, q2⟩ := ins_out hb d (i + 1) y1 (by omega) (p1.length_eq.trans hl) (by omega)
      refine ⟨y2, q1.trans p1, Ev2.step (fun k n => ?_) (p2 _ q2).in_⟩
      rw [f96_l0, f96_l0_B, if_pos (by omega)]
    · exact ⟨y, List.Perm.refl _, Ev2.step (g := fun _ _ => some ((y, ()), ())) (fun k n => by rw [f96_l0, f96_l0_B, if_neg (by omega)]) (Ev2.pure _)⟩
theorem len3 (n : Nat) (h : n ≤ 3) : ∃ r, ∀ k, f68 k (IntKind.u64.wrap (n : Int)) = some (r, ()) := by
  match n, h with
  | 0, _ => exact ⟨0, fun k => by kernel_rfl⟩
  | 1, _ => exact ⟨1, fun k => by kernel_rfl⟩
  | 2, _ => exact ⟨2, fun k => by kernel_rfl⟩
  | 3, _ => exact ⟨2, fun k => by kernel_rfl⟩
theorem sortB_ev (y : List Pt) (h : y.length ≤ 3) : ∃ y', y'.Perm y ∧ Ev (fun k => f47 k y ()) ((y', ()), ()) := by
  obtain ⟨r, hr⟩ := len3 y.length h
  obtain ⟨y', p1, p2⟩ := ins_out (b := y.length) (by omega) y.length 1 y (by omega) rfl (by omega)
  refine ⟨y', p1, ?_⟩
  simp only [f47, f47_entry_B, hr, Option.bind_some]
  have hw : w64 ((y.length : Int) - 0) = (y.length : Int) := by rw [w64_id (by omega) (by omega)]; omega
  have hp : Ev (fun k => f71 k y 0 (y.length : Int) r ()) ((y', ()), ()) := by
    simp only [f71, f71_entry_B]
    refine Ev2.diag (f := fun k n => f71_l0 k n y 0 (y.length : Int) r) ?_
    have hi : Ev (fun k => f96 k y 0 (y.length : Int) ()) ((y', ()), ()) := by
      simp only [f96, f96_entry_B]
      exact p2.diag
    refine Ev2.step (g := fun k _ => (f96 k y 0 (y.length : Int) ()).bind fun r1 => some ((r1.1.1, ()), ())) (fun k n => ?_) (Ev.two (hi.bind (Ev.pure _)))
    rw [f71_l0, f71_l0_B, hw, if_pos (by omega)]
  exact hp.bind (Ev.pure _)
end Go.Proofs.Ytoebjlimpnmaoaa.Rw

namespace Go.Proofs.Ytoebjlimpnmaoaa.Rw
open Go.Rx
set_option linter.unusedVariables false
set_option linter.unusedSimpArgs false
def GoodN (N : List Pt) : Prop := N.Nodup ∧ ∀ q ∈ N, -100 ≤ q.1 ∧ q.1 ≤ 100 ∧ -100 ≤ q.2 ∧ q.2 ≤ 100
def GoodE (n : Nat) (E : List Ed) : Prop := ∀ e ∈ E, inR e.1 n ∧ inR e.2.1 n ∧ e.1 ≠ e.2.1 ∧ 1 ≤ e.2.2.1 ∧ e.2.2.1 ≤ 20
def GoodB (E : List Ed) (B : List Pt) : Prop := B.Nodup ∧ ∀ b ∈ B, inR b.1 E.length ∧ inR b.2 E.length ∧ toE E b.1 = fromE E b.2
theorem point_eq (a : List Int) : ∃ (a' : List Int) (p : Pt), (∀ k, f44 k a = some (((a', ()), ()), (p, ()))) ∧ -40 ≤ p.1 ∧ p.1 ≤ 40 ∧ -40 ≤ p.2 ∧ p.2 ≤ 40 := by
  have h1 := next_lt (a := a) (n := 81) (by omega)
  have h2 := next_lt (a := (nextF a 81).1) (n := 81) (by omega)
  refine ⟨(nextF (nextF a 81).1 81).1, ((nextF a 81).2 - 40, (nextF (nextF a 81).1 81).2 - 40), fun k => ?_, by simp only; omega, by simp only; omega, by simp only; omega, by simp only; omega⟩
  simp only [f44, f44_entry_B, next_eq k _ 81 (by omega) (by omega), Option.bind_some]
  rw [w64_id (by omega) (by omega), w64_id (by omega) (by omega)]
theorem shift_loop (N : List Pt) (a : List Int) (y : Int) (hN : N.length ≤ 8) : ∀ (d : Nat) (x : Int), (N.filter (fun q => decide (x ≤ q.1))).length ≤ d → -40 ≤ x → x + d ≤ 60 →
    ∃ x', x ≤ x' ∧ x' ≤ x + d ∧ (x', y) ∉ N ∧ ∀ res, Ev2 (fun k n => f13_l0 k n a (N ++ [(x', y)])) res → Ev3 (fun k n m => f13_l2 k (f13_l0 k n) m a N x y) res
  | 0, x, hd, h0, h1 => by
    have hm : (x, y) ∉ N := fun h => by
      have : (x, y) ∈ N.filter (fun q => decide (x ≤ q.1)) := List.mem_filter.2 ⟨h, by simp⟩
      have := List.length_pos_of_mem this
      omega
    refine ⟨x, by omega, by omega, hm, fun res h => ?_⟩
    obtain ⟨K, hK⟩ := conP_ev N (x, y) (by omega)
    refine Ev3.stepE K (fun k n m hk => ?_) h.three
    have hk' := hK k hk; simp only at hk'
    rw [f13_l2, f13_l2_B, hk', Option.bind_some, if_neg (by simp [hm]), if_pos (by omega)]
  | d + 1, x, hd, h0, h1 => by
    obtain ⟨K, hK⟩ := conP_ev N (x, y) (by omega)
    by_cases hm : (x, y) ∈ N
    · have hlt : (N.filter (fun q => decide (x + 1 ≤ q.1))).length < (N.filter (fun q => decide (x ≤ q.1))).length := by
        have hsub : N.filter (fun q => decide (x + 1 ≤ q.1)) = (N.filter (fun q => decide (x ≤ q.1))).filter (fun q => decide (x + 1 ≤ q.1)) := by
          rw [List.filter_filter]
          refine List.filter_congr fun q _ => ?_
          by_cases g : x + 1 ≤ q.1
          · simp [g]; omega
          · simp [g]
        rw [hsub]
        refine List.length_filter_lt_length_iff_exists.2 ⟨(x, y), List.mem_filter.2 ⟨hm, by simp⟩, by simp; omega⟩
      obtain ⟨x', k1, k2, k3, k4⟩ := shift_loop N a y hN d (x + 1) (by omega) (by omega) (by omega)
      refine ⟨x', by omega, by omega, k3, fun res h => Ev3.stepE K (fun k n m hk => ?_) (k4 res h)⟩
      have hk' := hK k hk; simp only at hk'
      rw [f13_l2, f13_l2_B, hk', Option.bind_some, if_pos (by simp [hm]), w64_id (by omega) (by omega)]
    · refine ⟨x, by omega, by omega, hm, fun res h => Ev3.stepE K (fun k n m hk => ?_) h.three⟩
      have hk' := hK k hk; simp only at hk'
      rw [f13_l2, f13_l2_B, hk', Option.bind_some, if_neg (by simp [hm]), if_pos (by omega)]
theorem nodes_loop : ∀ (d : Nat) (a : List Int) (N : List Pt), N.length + d = 8 → GoodN N →
    ∃ (a' : List Int) (N' : List Pt), GoodN N' ∧ 2 ≤ N'.length ∧ N'.length ≤ 8 ∧ ∀ res, Ev (fun k => (f43 k a' 17).bind fun r2 => f13_l4 k k r2.1.1.1 N' ([] : List Ed) r2.2.1 0) res → Ev2 (fun k n => f13_l0 k n a N) res
  | 0, a, N, hl, hN => by
    have h1 := next_lt (a := a) (n := 7) (by omega)
    have hw : w64 (2 + (nextF a 7).2) = 2 + (nextF a 7).2 := w64_id (by omega) (by omega)
    refine ⟨(nextF a 7).1, N, hN, by omega, by omega, fun res h => Ev2.step (fun k n => ?_) h.two⟩
    rw [f13_l0, f13_l0_B]
    simp only [next_eq k a 7 (by omega) (by omega), Option.bind_some]
    rw [hw, if_neg (by omega), decide_eq_false (by omega), f13_r3, f13_r3_B, if_neg (by simp)]
  | d + 1, a, N, hl, hN => by
    have h1 := next_lt (a := a) (n := 7) (by omega)
    have hw : w64 (2 + (nextF a 7).2) = 2 + (nextF a 7).2 := w64_id (by omega) (by omega)
    by_cases c : (N.length : Int) < 2 + (nextF a 7).2 ∨ (N.length : Int) < 2
    · obtain ⟨b, p, hp, p1, p2, p3, p4⟩ := point_eq (nextF a 7).1
      have hf : (N.filter (fun q => decide (p.1 ≤ q.1))).length ≤ 8 := by
        have := List.length_filter_le (fun q => decide (p.1 ≤ q.1)) N
        omega
      obtain ⟨x', k1, k2, k3, k4⟩ := shift_loop N b p.2 (by omega) 8 p.1 hf p1 (by omega)
      have hN' : GoodN (N ++ [(x', p.2)]) := by
        refine ⟨List.nodup_append.2 ⟨hN.1, by simp, fun q hq r hr e => ?_⟩, fun q hq => ?_⟩
        · simp only [List.mem_singleton] at hr
          subst hr; subst e; exact k3 hq
        · rcases List.mem_append.1 hq with hq | hq
          · exact hN.2 q hq
          · simp only [List.mem_singleton] at hq
            subst hq; simp only; omega
      obtain ⟨a', N', g1, g2, g3, g4⟩ := nodes_loop d b (N ++ [(x', p.2)]) (by simp; omega) hN'
      refine ⟨a', N', g1, g2, g3, fun res h => Ev2.step (fun k n => ?_) (k4 res (g4 res h)).in_⟩
      rw [f13_l0, f13_l0_B]
      simp only [next_eq k a 7 (by omega) (by omega), Option.bind_some]
      rw [hw]
      have fin : f13_r3 k (f13_l0 k n) (nextF a 7).1 N true = f13_l2 k (f13_l0 k n) k b N p.1 p.2 := by
        rw [f13_r3, f13_r3_B, if_pos rfl, hp k, Option.bind_some]
      by_cases c1 : (N.length : Int) < 2 + (nextF a 7).2
      · rw [if_pos c1, fin]
      · rw [if_neg c1, decide_eq_true (by omega), fin]
    · refine ⟨(nextF a 7).1, N, hN, by omega, by omega, fun res h => Ev2.step (fun k n => ?_) h.two⟩
      rw [f13_l0, f13_l0_B]
      simp only [next_eq k a 7 (by omega) (by omega), Option.bind_some]
      rw [hw, if_neg (by omega), decide_eq_false (by omega), f13_r3, f13_r3_B, if_neg (by simp)]
theorem edges_loop (N : List Pt) (h2 : 2 ≤ N.length) (h8 : N.length ≤ 8) (cnt : Nat) (hc : cnt ≤ 100) : ∀ (d i : Nat) (a : List Int) (E : List Ed), i + d = cnt → E.length ≤ i → GoodE N.length E →
    ∃ (a' : List Int) (E' : List Ed), GoodE N.length E' ∧ E'.length ≤ cnt ∧ ∀ res, Ev (fun k => (f43 k a' 4).bind fun r5 => f13_l6 k k r5.1.1.1 ([] : List Pt) N E' r5.2.1 0) res → Ev2 (fun k n => f13_l4 k n a N E (cnt : Int) (i : Int)) res
  | 0, i, a, E, hi, hE, hG => by
    refine ⟨a, E, hG, by omega, fun res h => Ev2.step (fun k n => ?_) h.two⟩
    rw [f13_l4, f13_l4_B, if_neg (by omega)]
  | d + 1, i, a, E, hi, hE, hG => by
    have hw : w64 ((i : Int) + 1) = ((i + 1 : Nat) : Int) := by rw [w64_id (by omega) (by omega)]; omega
    have c1 : (i : Int) < (cnt : Int) := by omega
    have l1 := next_lt (a := a) (n := (N.length : Int)) (by omega)
    have l2 := next_lt (a := (nextF a (N.length : Int)).1) (n := (N.length : Int)) (by omega)
    generalize hr1 : nextF a (N.length : Int) = r1 at l1 l2
    generalize hr2 : nextF r1.1 (N.length : Int) = r2 at l2
    by_cases c2 : r1.2 = r2.2
    · obtain ⟨a', E', g1, g2, g3⟩ := edges_loop N h2 h8 cnt hc d (i + 1) r2.1 E (by omega) (by omega) hG
      refine ⟨a', E', g1, g2, fun res h => Ev2.step (fun k n => ?_) (g3 res h)⟩
      rw [f13_l4, f13_l4_B, if_pos c1]
      simp only [next_eq k _ (N.length : Int) (by omega) (by omega), Option.bind_some, hr1, hr2]
      rw [if_neg (by simpa using c2), f13_c12, f13_c12_B, hw]
    · have l3 := next_lt (a := r2.1) (n := 20) (by omega)
      generalize hr3 : nextF r2.1 20 = r3 at l3
      generalize hr4 : nextF r3.1 5 = r4
      have hw1 : w64 (1 + r3.2) = 1 + r3.2 := w64_id (by omega) (by omega)
      have hG' : GoodE N.length (E ++ [(r1.2, (r2.2, (1 + r3.2, r4.2)))]) := fun e he => by
        rcases List.mem_append.1 he with he | he
        · exact hG e he
        · simp only [List.mem_singleton] at he
          subst he
          unfold inR
          simp only
          omega
      obtain ⟨a', E', g1, g2, g3⟩ := edges_loop N h2 h8 cnt hc d (i + 1) r4.1 _ (by omega) (by simp; omega) hG'
      refine ⟨a', E', g1, g2, fun res h => Ev2.step (fun k n => ?_) (g3 res h)⟩
      rw [f13_l4, f13_l4_B, if_pos c1]
      simp only [next_eq k _ (N.length : Int) (by omega) (by omega), Option.bind_some, hr1, hr2]
      rw [if_pos (by simpa using c2)]
      simp only [next_eq k _ 20 (by omega) (by omega), next_eq k _ 5 (by omega) (by omega), Option.bind_some, hr3, hr4, hw1]
      rw [if_pos (by omega), f13_c12, f13_c12_B, hw]
theorem bans_loop (N : List Pt) (E : List Ed) (hE : E.length ≤ 1000) (cnt : Nat) (hc : cnt ≤ 3) : ∀ (d i : Nat) (a : List Int) (B : List Pt), i + d = cnt → B.length ≤ i → GoodB E B →
    ∃ (B' : List Pt), GoodB E B' ∧ B'.length ≤ cnt ∧ ∀ res, Ev (fun k => f13_b6 k B' N E) res → Ev2 (fun k n => f13_l6 k n a B N E (cnt : Int) (i : Int)) res
  | 0, i, a, B, hi, hB, hG => by
    refine ⟨B, hG, by omega, fun res h => Ev2.step (fun k n => ?_) h.two⟩
    rw [f13_l6, f13_l6_B, if_neg (by omega)]
  | d + 1, i, a, B, hi, hB, hG => by
    have hw : w64 ((i : Int) + 1) = ((i + 1 : Nat) : Int) := by rw [w64_id (by omega) (by omega)]; omega
    have c1 : (i : Int) < (cnt : Int) := by omega
    by_cases c0 : (E.length : Int) = 0
    · refine ⟨B, hG, by omega, fun res h => Ev2.step (fun k n => ?_) h.two⟩
      rw [f13_l6, f13_l6_B, if_pos c1, if_pos c0]
    · have l1 := next_lt (a := a) (n := (E.length : Int)) (by omega)
      have l2 := next_lt (a := (nextF a (E.length : Int)).1) (n := (E.length : Int)) (by omega)
      generalize hr1 : nextF a (E.length : Int) = r1 at l1 l2
      generalize hr2 : nextF r1.1 (E.length : Int) = r2 at l2
      have start : ∀ k n, f13_l6 k (n + 1) a B N E (cnt : Int) (i : Int) = if (((E.getD ((r1.2).toNat) zE).2).1) = ((E.getD ((r2.2).toNat) zE).1) then ((f46 k B (r1.2, r2.2)).bind fun r3 => f13_r18 k (f13_l6 k n) r2.1 B N E r1.2 r2.2 (decide (¬ (r3.1 = true))) (cnt : Int) (i : Int)) else f13_r18 k (f13_l6 k n) r2.1 B N E r1.2 r2.2 false (cnt : Int) (i : Int) := fun k n => by
        rw [f13_l6, f13_l6_B, if_pos c1, if_neg c0]
        simp only [next_eq k _ (E.length : Int) (by omega) (by omega), Option.bind_some, hr1, hr2]
        rw [if_pos l1.1, if_pos l1.2, if_pos l2.1, if_pos l2.2]
        rfl
      have no : ∀ k n, f13_r18 k (f13_l6 k n) r2.1 B N E r1.2 r2.2 false (cnt : Int) (i : Int) = f13_l6 k n r2.1 B N E (cnt : Int) ((i + 1 : Nat) : Int) := fun k n => by
        rw [f13_r18, f13_r18_B, if_neg (by simp), f13_c19, f13_c19_B, hw]
      have skip : ∃ (B' : List Pt), GoodB E B' ∧ B'.length ≤ cnt ∧ ∀ res, Ev (fun k => f13_b6 k B' N E) res → Ev2 (fun k n => f13_l6 k n r2.1 B N E (cnt : Int) ((i + 1 : Nat) : Int)) res := bans_loop N E hE cnt hc d (i + 1) r2.1 B (by omega) (by omega) hG
      by_cases c2 : (((E.getD ((r1.2).toNat) zE).2).1) = ((E.getD ((r2.2).toNat) zE).1)
      · obtain ⟨K, hK⟩ := conB_ev B (r1.2, r2.2) (by omega)
        by_cases c3 : (r1.2, r2.2) ∈ B
        · obtain ⟨B', g1, g2, g3⟩ := skip
          refine ⟨B', g1, g2, fun res h => Ev2.stepE K (fun k n hk => ?_) (g3 res h)⟩
          have hk' := hK k hk; simp only at hk'
          rw [start, if_pos c2, hk', Option.bind_some]
          simp only [c3, decide_true, not_true_eq_false, decide_false]
          exact no k n
        · have hG' : GoodB E (B ++ [(r1.2, r2.2)]) := by
            refine ⟨List.nodup_append.2 ⟨hG.1, by simp, fun q hq r hr e => ?_⟩, fun q hq => ?_⟩
            · simp only [List.mem_singleton] at hr
              subst hr; subst e; exact c3 hq
            · rcases List.mem_append.1 hq with hq | hq
              · exact hG.2 q hq
              · simp only [List.mem_singleton] at hq
                subst hq
                exact ⟨⟨l1.1, l1.2⟩, ⟨l2.1, l2.2⟩, c2⟩
          obtain ⟨B', g1, g2, g3⟩ := bans_loop N E hE cnt hc d (i + 1) r2.1 _ (by omega) (by simp; omega) hG'
          refine ⟨B', g1, g2, fun res h => Ev2.stepE K (fun k n hk => ?_) (g3 res h)⟩
          have hk' := hK k hk; simp only at hk'
          rw [start, if_pos c2, hk', Option.bind_some]
          simp only [c3, decide_false, Bool.false_eq_true, not_false_eq_true, decide_true]
          rw [f13_r18, f13_r18_B, if_pos rfl, if_pos (by omega), f13_c19, f13_c19_B, hw]
      · obtain ⟨B', g1, g2, g3⟩ := skip
        refine ⟨B', g1, g2, fun res h => Ev2.step (fun k n => ?_) (g3 res h)⟩
        rw [start, if_neg c2]
        exact no k n
theorem net_ev (a : List Int) : ∃ (N : List Pt) (E : List Ed) (B : List Pt), GoodN N ∧ 2 ≤ N.length ∧ N.length ≤ 8 ∧ GoodE N.length E ∧ E.length ≤ 16 ∧ GoodB E B ∧ B.length ≤ 3 ∧ Ev (fun k => f13 k a) ((N, (E, B)), ()) := by
  obtain ⟨a1, N, n1, n2, n3, n4⟩ := nodes_loop 8 a [] rfl ⟨List.nodup_nil, fun q hq => by cases hq⟩
  have l1 := next_lt (a := a1) (n := 17) (by omega)
  obtain ⟨c1, hc1⟩ : ∃ c : Nat, (nextF a1 17).2 = (c : Int) := ⟨(nextF a1 17).2.toNat, by omega⟩
  obtain ⟨a2, E, e1, e2, e3⟩ := edges_loop N n2 n3 c1 (by omega) c1 0 (nextF a1 17).1 [] (by omega) (by simp) (fun e he => by cases he)
  have l2 := next_lt (a := a2) (n := 4) (by omega)
  obtain ⟨c2, hc2⟩ : ∃ c : Nat, (nextF a2 4).2 = (c : Int) := ⟨(nextF a2 4).2.toNat, by omega⟩
  obtain ⟨B, b1, b2, b3⟩ := bans_loop N E (by omega) c2 (by omega) c2 0 (nextF a2 4).1 [] (by omega) (by simp) ⟨List.nodup_nil, fun b hb => by cases hb⟩
  obtain ⟨B', p1, p2⟩ := sortB_ev B (by omega)
  refine ⟨N, E, B', n1, n2, n3, e1, by omega, ⟨p1.nodup_iff.2 b1.1, fun b hb => b1.2 b (p1.mem_iff.1 hb)⟩, by have := p1.length_eq; omega, ?_⟩
  simp only [f13, f13_entry_B]
  refine (n4 _ ?_).diag
  simp only [next_eq _ a1 17 (show (1 : Int) ≤ 17 by omega) (show (17 : Int) ≤ 1000000000000 by omega), Option.bind_some, hc1]
  refine (e3 _ ?_).diag
  simp only [next_eq _ a2 4 (show (1 : Int) ≤ 4 by omega) (show (4 : Int) ≤ 1000000000000 by omega), Option.bind_some, hc2]
  refine (b3 _ ?_).diag
  simp only [f13_b6, f13_b6_B]
  exact p2.bind (Ev.pure _)
/-! ### They are valid -/
theorem nodF_zero : ∀ (l pre : List Pt), (∀ p ∈ l, okP p) → (pre ++ l).Nodup → nodF pre l = 0
  | [], _, _, _ => rfl
  | p :: l, pre, h, hn => by
    simp only [nodF]
    rw [if_pos (h p (List.mem_cons_self ..)), if_neg, nodF_zero l (pre ++ [p]) (fun q hq => h q (List.mem_cons_of_mem _ hq)) (by simpa using hn)]
    intro hp
    exact (List.nodup_append.1 hn).2.2 p hp p (List.mem_cons_self ..) rfl
theorem edF_zero {n : Nat} : ∀ {E : List Ed}, (∀ e ∈ E, ¬ badE n e ∧ e.1 ≠ e.2.1) → edF n E = 0
  | [], _ => rfl
  | e :: l, h => by
    simp only [edF]
    rw [if_neg (h e (List.mem_cons_self ..)).1, if_neg (h e (List.mem_cons_self ..)).2]
    exact edF_zero fun e' he => h e' (List.mem_cons_of_mem _ he)
theorem banF_zero {E : List Ed} : ∀ (l pre : List Pt), (∀ b ∈ l, inR b.1 E.length ∧ inR b.2 E.length ∧ toE E b.1 = fromE E b.2) → (pre ++ l).Nodup → banF E pre l = 0
  | [], _, _, _ => rfl
  | b :: l, pre, h, hn => by
    have hb := h b (List.mem_cons_self ..)
    simp only [banF]
    rw [if_pos ⟨hb.1, hb.2.1⟩, if_pos hb.2.2, if_neg, banF_zero l (pre ++ [b]) (fun q hq => h q (List.mem_cons_of_mem _ hq)) (by simpa using hn)]
    intro hp
    exact (List.nodup_append.1 hn).2.2 b hp b (List.mem_cons_self ..) rfl
theorem made_valid {N : List Pt} {E : List Ed} {B : List Pt} (h1 : GoodN N) (h2 : N.length ≤ 8) (h3 : GoodE N.length E) (h4 : E.length ≤ 16) (h5 : GoodB E B) (h6 : B.length ≤ 3) : netF (N, (E, B)) = 0 := by
  unfold netF
  simp only
  have k1 := nodF_zero N [] (fun p hp => by
    have := h1.2 p hp
    unfold okP
    rw [cut_in (by omega) (by omega), cut_in (by omega) (by omega)]
    exact ⟨rfl, rfl⟩) (by simpa using h1.1)
  have k2 : edF N.length E = 0 := edF_zero fun e he => by
    have := h3 e he
    exact ⟨fun hb => by unfold badE at hb; rcases hb with hb | hb | hb | hb <;> first | exact hb this.1 | exact hb this.2.1 | omega, this.2.2.1⟩
  have k3 := banF_zero (E := E) B [] h5.2 (by simpa using h5.1)
  rw [if_neg (by omega), if_pos k1, if_pos k2, k3]
end Go.Proofs.Ytoebjlimpnmaoaa.Rw

namespace Go.Proofs.Ytoebjlimpnmaoaa.Rw
open Go.Rx
set_option linter.unusedVariables false
set_option linter.unusedSimpArgs false
theorem routed4_true (j : Nat) : f31 (j + 60) = some (true, ()) := by kernel_rfl
end Go.Proofs.Ytoebjlimpnmaoaa.Rw

namespace Go.Proofs.Ytoebjlimpnmaoaa.Rw
open Go.Rx
set_option linter.unusedVariables false
set_option linter.unusedSimpArgs false
theorem Wy.free {E : List Ed} {B : List Pt} {s : Int} {w : List Int} {k : Int} (h : Wy E B s w k) : Wy E [] s w k := by
  induction h with
  | one k h1 h2 => exact .one k h1 h2
  | snoc w j k hw h1 h2 h3 ih => exact .snoc w j k ih h1 h2 (by simp)
theorem Rch.free {E : List Ed} {B : List Pt} {s v c : Int} (h : Rch E B s v c) : Rch E [] s v c := by
  rcases h with h | ⟨w, k, h1, h2⟩
  · exact .inl h
  · exact .inr ⟨w, k, h1.free, h2⟩
theorem bans_law_loop {N : List Pt} {E : List Ed} {B : List Pt} {n : Nat} (hn : n ≤ 200) {C D : List Int} (hC : C.length = n) (hD : D.length = n) (h : ∀ v, v < n → 0 ≤ C.getD v 0 → 0 ≤ D.getD v 0 ∧ D.getD v 0 ≤ C.getD v 0) (he : B = [] → C = D) : ∀ (d i : Nat), i + d = n →
    Ev2 (fun k m => f7_l0 k m C D N E B (C.length : Int) (i : Int)) (true, ())
  | 0, i, hi => by
    refine Ev2.step (g := fun _ _ => some (true, ())) (fun k n => ?_) (Ev2.pure _)
    rw [f7_l0, f7_l0_B, if_neg (by omega)]
  | d + 1, i, hi => by
    have i0 : (0 : Int) ≤ (i : Int) := by omega
    have i1 : (i : Int) < (C.length : Int) := by omega
    have i2 : (i : Int) < (D.length : Int) := by omega
    have hw1 : w64 ((i : Int) + 1) = ((i + 1 : Nat) : Int) := by rw [w64_id (by omega) (by omega)]; omega
    have ih := bans_law_loop (N := N) (E := E) hn hC hD h he d (i + 1) (by omega)
    have hi' := h i (by omega)
    have r8 : ∀ k r, f7_r8 k r C D N E B (C.length : Int) (i : Int) false = r C D N E B (C.length : Int) ((i + 1 : Nat) : Int) := fun k r => by
      rw [f7_r8, f7_r8_B, if_neg (by simp), hw1]
    refine Ev2.step (fun k n => ?_) ih
    rw [f7_l0, f7_l0_B]
    simp only [if_pos i0, if_pos i1, if_pos i2, Int.toNat_natCast]
    by_cases c : 0 ≤ C.getD i 0
    · have := hi' c
      simp only [if_pos c, if_neg (show ¬ D.getD i 0 < 0 by omega), if_neg (show ¬ C.getD i 0 < D.getD i 0 by omega)]
      by_cases b : (B.length : Int) = 0
      · have hB : B = [] := List.length_eq_zero_iff.1 (by omega)
        have e := he hB
        simp only [if_pos b]
        rw [show decide (¬ C.getD i 0 = D.getD i 0) = false from decide_eq_false (fun z => z (by rw [e])), r8]
      · simp only [if_neg b]; rw [r8]
    · simp only [if_neg c]; rw [r8]
theorem bans_law (a : List Int) : Ev (fun k => f7 k a) (true, ()) := by
  obtain ⟨N, E, B, n1, n2, n3, e1, e2, b1, b2, hnet⟩ := net_ev a
  have hval := made_valid n1 n3 e1 e2 b1 b2
  have hval0 : netF (N, (E, ([] : List Pt))) = 0 := made_valid n1 n3 e1 e2 ⟨List.nodup_nil, fun b hb => by cases hb⟩ (by simp)
  have h0 : inR 0 N.length := ⟨by omega, by omega⟩
  obtain ⟨C, c1, c2⟩ := costs_ev hval h0
  obtain ⟨D, d1, d2⟩ := costs_ev hval0 h0
  have hr : Ev (fun k => f31 k) (true, ()) := Ev.off 60 routed4_true
  have hp : Ev (fun k => f23 k a) ((N, (E, ([] : List Pt))), ()) := by
    simp only [f23, f23_entry_B]
    exact hnet.bind (Ev.pure _)
  have hcmp : ∀ v, v < N.length → 0 ≤ C.getD v 0 → 0 ≤ D.getD v 0 ∧ D.getD v 0 ≤ C.getD v 0 := fun v hv hc => by
    rcases c1.at_ v hv with ⟨g, _⟩ | ⟨_, g2, _⟩
    · omega
    · rcases d1.at_ v hv with ⟨_, k2⟩ | ⟨k1, _, k3⟩
      · exact (k2 _ g2.free).elim
      · exact ⟨k1, k3 _ g2.free⟩
  have hloop := (bans_law_loop (N := N) (E := E) (B := B) (by omega) c1.len d1.len hcmp (fun e => by subst e; exact c1.one d1) N.length 0 (by omega)).diag
  have hl1 : (C.length : Int) = (N.length : Int) := by rw [c1.len]
  have hl2 : (D.length : Int) = (C.length : Int) := by rw [c1.len, d1.len]
  simp only [f7, f7_entry_B]
  refine hnet.bind (c2.bind (hp.bind (d2.bind (hr.bind ?_))))
  refine Ev.of (fun k => ?_) hloop
  rw [if_neg (by simp), if_neg (fun z => z hl1), decide_eq_false (fun z => z hl2), f7_r3, f7_r3_B, if_neg (by simp)]
  rfl
/-- **Without bans nothing is more expensive.** -/
theorem pure_RouteBans : Pure_RouteBans := by
  rintro ⟨a, u⟩ hwf
  exact (bans_law a).get
end Go.Proofs.Ytoebjlimpnmaoaa.Rw
