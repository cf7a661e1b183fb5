/- Plain laws for RouteEnds. No condition. -/
import Derived.Test.YtoebjlimpnmaoaaPlRouteEndsa
namespace Go.Proofs.Ytoebjlimpnmaoaa.Rw
open Go.Rx
set_option linter.unusedVariables false
set_option linter.unusedSimpArgs false
def GoodN (N : List Pt) : Prop := N.Nodup ∧ ∀ q ∈ N, -100 ≤ q.1 ∧ q.1 ≤ 100 ∧ -100 ≤ q.2 ∧ q.2 ≤ 100
def GoodE (n : Nat) (E : List Ed) : Prop := ∀ e ∈ E, inR e.1 n ∧ inR e.2.1 n ∧ e.1 ≠ e.2.1 ∧ 1 ≤ e.2.2.1 ∧ e.2.2.1 ≤ 20
def GoodB (E : List Ed) (B : List Pt) : Prop := B.Nodup ∧ ∀ b ∈ B, inR b.1 E.length ∧ inR b.2 E.length ∧ toE E b.1 = fromE E b.2
theorem point_eq (a : List Int) : ∃ (a' : List Int) (p : Pt), (∀ k, f44 k a = some (((a', ()), ()), (p, ()))) ∧ -40 ≤ p.1 ∧ p.1 ≤ 40 ∧ -40 ≤ p.2 ∧ p.2 ≤ 40 := by
  have h1 := next_lt (a := a) (n := 81) (by omega)
  have h2 := next_lt (a := (nextF a 81).1) (n := 81) (by omega)
  refine ⟨(nextF (nextF a 81).1 81).1, ((nextF a 81).2 - 40, (nextF (nextF a 81).1 81).2 - 40), fun k => ?_, by simp only; omega, by simp only; omega, by simp only; omega, by simp only; omega⟩
  simp only [f44, f44_entry_B, next_eq k _ 81 (by omega) (by omega), Option.bind_some]
  rw [w64_id (by omega) (by omega), w64_id (by omega) (by omega)]
theorem shift_loop (N : List Pt) (a : List Int) (y : Int) (hN : N.length ≤ 8) : ∀ (d : Nat) (x : Int), (N.filter (fun q => decide (x ≤ q.1))).length ≤ d → -40 ≤ x → x + d ≤ 60 →
    ∃ x', x ≤ x' ∧ x' ≤ x + d ∧ (x', y) ∉ N ∧ ∀ res, Ev2 (fun k n => f13_l0 k n a (N ++ [(x', y)])) res → Ev3 (fun k n m => f13_l2 k (f13_l0 k n) m a N x y) res
  | 0, x, hd, h0, h1 => by
    have hm : (x, y) ∉ N := fun h => by
      have : (x, y) ∈ N.filter (fun q => decide (x ≤ q.1)) := List.mem_filter.2 ⟨h, by simp⟩
      have := List.length_pos_of_mem this
      omega
    refine ⟨x, by omega, by omega, hm, fun res h => ?_⟩
    obtain ⟨K, hK⟩ := conP_ev N (x, y) (by omega)
    refine Ev3.stepE K (fun k n m hk => ?_) h.three
    have hk' := hK k hk; simp only at hk'
    rw [f13_l2, f13_l2_B, hk', Option.bind_some, if_neg (by simp [hm]), if_pos (by omega)]
  | d + 1, x, hd, h0, h1 => by
    obtain ⟨K, hK⟩ := conP_ev N (x, y) (by omega)
    by_cases hm : (x, y) ∈ N
    · have hlt : (N.filter (fun q => decide (x + 1 ≤ q.1))).length < (N.filter (fun q => decide (x ≤ q.1))).length := by
        have hsub : N.filter (fun q => decide (x + 1 ≤ q.1)) = (N.filter (fun q => decide (x ≤ q.1))).filter (fun q => decide (x + 1 ≤ q.1)) := by
          rw [List.filter_filter]
          refine List.filter_congr fun q _ => ?_
          by_cases g : x + 1 ≤ q.1
          · simp [g]; omega
          · simp [g]
        rw [hsub]
        refine List.length_filter_lt_length_iff_exists.2 ⟨(x, y), List.mem_filter.2 ⟨hm, by simp⟩, by simp; omega⟩
      obtain ⟨x', k1, k2, k3, k4⟩ := shift_loop N a y hN d (x + 1) (by omega) (by omega) (by omega)
      refine ⟨x', by omega, by omega, k3, fun res h => Ev3.stepE K (fun k n m hk => ?_) (k4 res h)⟩
      have hk' := hK k hk; simp only at hk'
      rw [f13_l2, f13_l2_B, hk', Option.bind_some, if_pos (by simp [hm]), w64_id (by omega) (by omega)]
    · refine ⟨x, by omega, by omega, hm, fun res h => Ev3.stepE K (fun k n m hk => ?_) h.three⟩
      have hk' := hK k hk; simp only at hk'
      rw [f13_l2, f13_l2_B, hk', Option.bind_some, if_neg (by simp [hm]), if_pos (by omega)]
theorem nodes_loop : ∀ (d : Nat) (a : List Int) (N : List Pt), N.length + d = 8 → GoodN N →
    ∃ (a' : List Int) (N' : List Pt), GoodN N' ∧ 2 ≤ N'.length ∧ N'.length ≤ 8 ∧ ∀ res, Ev (fun k => (f43 k a' 17).bind fun r2 => f13_l4 k k r2.1.1.1 N' ([] : List Ed) r2.2.1 0) res → Ev2 (fun k n => f13_l0 k n a N) res
  | 0, a, N, hl, hN => by
    have h1 := next_lt (a := a) (n := 7) (by omega)
    have hw : w64 (2 + (nextF a 7).2) = 2 + (nextF a 7).2 := w64_id (by omega) (by omega)
    refine ⟨(nextF a 7).1, N, hN, by omega, by omega, fun res h => Ev2.step (fun k n => ?_) h.two⟩
    rw [f13_l0, f13_l0_B]
    simp only [next_eq k a 7 (by omega) (by omega), Option.bind_some]
    rw [hw, if_neg (by omega), decide_eq_false (by omega), f13_r3, f13_r3_B, if_neg (by simp)]
  | d + 1, a, N, hl, hN => by
    have h1 := next_lt (a := a) (n := 7) (by omega)
    have hw : w64 (2 + (nextF a 7).2) = 2 + (nextF a 7).2 := w64_id (by omega) (by omega)
    by_cases c : (N.length : Int) < 2 + (nextF a 7).2 ∨ (N.length : Int) < 2
    · obtain ⟨b, p, hp, p1, p2, p3, p4⟩ := point_eq (nextF a 7).1
      have hf : (N.filter (fun q => decide (p.1 ≤ q.1))).length ≤ 8 := by
        have := List.length_filter_le (fun q => decide (p.1 ≤ q.1)) N
        omega
      obtain ⟨x', k1, k2, k3, k4⟩ := shift_loop N b p.2 (by omega) 8 p.1 hf p1 (by omega)
      have hN' : GoodN (N ++ [(x', p.2)]) := by
        refine ⟨List.nodup_append.2 ⟨hN.1, by simp, fun q hq r hr e => ?_⟩, fun q hq => ?_⟩
        · simp only [List.mem_singleton] at hr
          subst hr; subst e; exact k3 hq
        · rcases List.mem_append.1 hq with hq | hq
          · exact hN.2 q hq
          · simp only [List.mem_singleton] at hq
            subst hq; simp only; omega
      obtain ⟨a', N', g1, g2, g3, g4⟩ := nodes_loop d b (N ++ [(x', p.2)]) (by simp; omega) hN'
      refine ⟨a', N', g1, g2, g3, fun res h => Ev2.step (fun k n => ?_) (k4 res (g4 res h)).in_⟩
      rw [f13_l0, f13_l0_B]
      simp only [next_eq k a 7 (by omega) (by omega), Option.bind_some]
      rw [hw]
      have fin : f13_r3 k (f13_l0 k n) (nextF a 7).1 N true = f13_l2 k (f13_l0 k n) k b N p.1 p.2 := by
        rw [f13_r3, f13_r3_B, if_pos rfl, hp k, Option.bind_some]
      by_cases c1 : (N.length : Int) < 2 + (nextF a 7).2
      · rw [if_pos c1, fin]
      · rw [if_neg c1, decide_eq_true (by omega), fin]
    · refine ⟨(nextF a 7).1, N, hN, by omega, by omega, fun res h => Ev2.step (fun k n => ?_) h.two⟩
      rw [f13_l0, f13_l0_B]
      simp only [next_eq k a 7 (by omega) (by omega), Option.bind_some]
      rw [hw, if_neg (by omega), decide_eq_false (by omega), f13_r3, f13_r3_B, if_neg (by simp)]
theorem edges_loop (N : List Pt) (h2 : 2 ≤ N.length) (h8 : N.length ≤ 8) (cnt : Nat) (hc : cnt ≤ 100) : ∀ (d i : Nat) (a : List Int) (E : List Ed), i + d = cnt → E.length ≤ i → GoodE N.length E →
    ∃ (a' : List Int) (E' : List Ed), GoodE N.length E' ∧ E'.length ≤ cnt ∧ ∀ res, Ev (fun k => (f43 k a' 4).bind fun r5 => f13_l6 k k r5.1.1.1 ([] : List Pt) N E' r5.2.1 0) res → Ev2 (fun k n => f13_l4 k n a N E (cnt : Int) (i : Int)) res
  | 0, i, a, E, hi, hE, hG => by
    refine ⟨a, E, hG, by omega, fun res h => Ev2.step (fun k n => ?_) h.two⟩
    rw [f13_l4, f13_l4_B, if_neg (by omega)]
  | d + 1, i, a, E, hi, hE, hG => by
    have hw : w64 ((i : Int) + 1) = ((i + 1 : Nat) : Int) := by rw [w64_id (by omega) (by omega)]; omega
    have c1 : (i : Int) < (cnt : Int) := by omega
    have l1 := next_lt (a := a) (n := (N.length : Int)) (by omega)
    have l2 := next_lt (a := (nextF a (N.length : Int)).1) (n := (N.length : Int)) (by omega)
    generalize hr1 : nextF a (N.length : Int) = r1 at l1 l2
    generalize hr2 : nextF r1.1 (N.length : Int) = r2 at l2
    by_cases c2 : r1.2 = r2.2
    · obtain ⟨a', E', g1, g2, g3⟩ := edges_loop N h2 h8 cnt hc d (i + 1) r2.1 E (by omega) (by omega) hG
      refine ⟨a', E', g1, g2, fun res h => Ev2.step (fun k n => ?_) (g3 res h)⟩
      rw [f13_l4, f13_l4_B, if_pos c1]
      simp only [next_eq k _ (N.length : Int) (by omega) (by omega), Option.bind_some, hr1, hr2]
      rw [if_neg (by simpa using c2), f13_c12, f13_c12_B, hw]
    · have l3 := next_lt (a := r2.1) (n := 20) (by omega)
      generalize hr3 : nextF r2.1 20 = r3 at l3
      generalize hr4 : nextF r3.1 5 = r4
      have hw1 : w64 (1 + r3.2) = 1 + r3.2 := w64_id (by omega) (by omega)
      have hG' : GoodE N.length (E ++ [(r1.2, (r2.2, (1 + r3.2, r4.2)))]) := fun e he => by
        rcases List.mem_append.1 he with he | he
        · exact hG e he
        · simp only [List.mem_singleton] at he
          subst he
          unfold inR
          simp only
          omega
      obtain ⟨a', E', g1, g2, g3⟩ := edges_loop N h2 h8 cnt hc d (i + 1) r4.1 _ (by omega) (by simp; omega) hG'
      refine ⟨a', E', g1, g2, fun res h => Ev2.step (fun k n => ?_) (g3 res h)⟩
      rw [f13_l4, f13_l4_B, if_pos c1]
      simp only [next_eq k _ (N.length : Int) (by omega) (by omega), Option.bind_some, hr1, hr2]
      rw [if_pos (by simpa using c2)]
      simp only [next_eq k _ 20 (by omega) (by omega), next_eq k _ 5 (by omega) (by omega), Option.bind_some, hr3, hr4, hw1]
      rw [if_pos (by omega), f13_c12, f13_c12_B, hw]
theorem bans_loop (N : List Pt) (E : List Ed) (hE : E.length ≤ 1000) (cnt : Nat) (hc : cnt ≤ 3) : ∀ (d i : Nat) (a : List Int) (B : List Pt), i + d = cnt → B.length ≤ i → GoodB E B →
    ∃ (B' : List Pt), GoodB E B' ∧ B'.length ≤ cnt ∧ ∀ res, Ev (fun k => f13_b6 k B' N E) res → Ev2 (fun k n => f13_l6 k n a B N E (cnt : Int) (i : Int)) res
  | 0, i, a, B, hi, hB, hG => by
    refine ⟨B, hG, by omega, fun res h => Ev2.step (fun k n => ?_) h.two⟩
    rw [f13_l6, f13_l6_B, if_neg (by omega)]
  | d + 1, i, a, B, hi, hB, hG => by
    have hw : w64 ((i : Int) + 1) = ((i + 1 : Nat) : Int) := by rw [w64_id (by omega) (by omega)]; omega
    have c1 : (i : Int) < (cnt : Int) := by omega
    by_cases c0 : (E.length : Int) = 0
    · refine ⟨B, hG, by omega, fun res h => Ev2.step (fun k n => ?_) h.two⟩
      rw [f13_l6, f13_l6_B, if_pos c1, if_pos c0]
    · have l1 := next_lt (a := a) (n := (E.length : Int)) (by omega)
      have l2 := next_lt (a := (nextF a (E.length : Int)).1) (n := (E.length : Int)) (by omega)
      generalize hr1 : nextF a (E.length : Int) = r1 at l1 l2
      generalize hr2 : nextF r1.1 (E.length : Int) = r2 at l2
      have start : ∀ k n, f13_l6 k (n + 1) a B N E (cnt : Int) (i : Int) = if (((E.getD ((r1.2).toNat) zE).2).1) = ((E.getD ((r2.2).toNat) zE).1) then ((f46 k B (r1.2, r2.2)).bind fun r3 => f13_r18 k (f13_l6 k n) r2.1 B N E r1.2 r2.2 (decide (¬ (r3.1 = true))) (cnt : Int) (i : Int)) else f13_r18 k (f13_l6 k n) r2.1 B N E r1.2 r2.2 false (cnt : Int) (i : Int) := fun k n => by
        rw [f13_l6, f13_l6_B, if_pos c1, if_neg c0]
        simp only [next_eq k _ (E.length : Int) (by omega) (by omega), Option.bind_some, hr1, hr2]
        rw [if_pos l1.1, if_pos l1.2, if_pos l2.1, if_pos l2.2]
        rfl
      have no : ∀ k n, f13_r18 k (f13_l6 k n) r2.1 B N E r1.2 r2.2 false (cnt : Int) (i : Int) = f13_l6 k n r2.1 B N E (cnt : Int) ((i + 1 : Nat) : Int) := fun k n => by
        rw [f13_r18, f13_r18_B, if_neg (by simp), f13_c19, f13_c19_B, hw]
      have skip : ∃ (B' : List Pt), GoodB E B' ∧ B'.length ≤ cnt ∧ ∀ res, Ev (fun k => f13_b6 k B' N E) res → Ev2 (fun k n => f13_l6 k n r2.1 B N E (cnt : Int) ((i + 1 : Nat) : Int)) res := bans_loop N E hE cnt hc d (i + 1) r2.1 B (by omega) (by omega) hG
      by_cases c2 : (((E.getD ((r1.2).toNat) zE).2).1) = ((E.getD ((r2.2).toNat) zE).1)
      · obtain ⟨K, hK⟩ := conB_ev B (r1.2, r2.2) (by omega)
        by_cases c3 : (r1.2, r2.2) ∈ B
        · obtain ⟨B', g1, g2, g3⟩ := skip
          refine ⟨B', g1, g2, fun res h => Ev2.stepE K (fun k n hk => ?_) (g3 res h)⟩
          have hk' := hK k hk; simp only at hk'
          rw [start, if_pos c2, hk', Option.bind_some]
          simp only [c3, decide_true, not_true_eq_false, decide_false]
          exact no k n
        · have hG' : GoodB E (B ++ [(r1.2, r2.2)]) := by
            refine ⟨List.nodup_append.2 ⟨hG.1, by simp, fun q hq r hr e => ?_⟩, fun q hq => ?_⟩
            · simp only [List.mem_singleton] at hr
              subst hr; subst e; exact c3 hq
            · rcases List.mem_append.1 hq with hq | hq
              · exact hG.2 q hq
              · simp only [List.mem_singleton] at hq
                subst hq
                exact ⟨⟨l1.1, l1.2⟩, ⟨l2.1, l2.2⟩, c2⟩
          obtain ⟨B', g1, g2, g3⟩ := bans_loop N E hE cnt hc d (i + 1) r2.1 _ (by omega) (by simp; omega) hG'
          refine ⟨B', g1, g2, fun res h => Ev2.stepE K (fun k n hk => ?_) (g3 res h)⟩
          have hk' := hK k hk; simp only at hk'
          rw [start, if_pos c2, hk', Option.bind_some]
          simp only [c3, decide_false, Bool.false_eq_true, not_false_eq_true, decide_true]
          rw [f13_r18, f13_r18_B, if_pos rfl, if_pos (by omega), f13_c19, f13_c19_B, hw]
      · obtain ⟨B', g1, g2, g3⟩ := skip
        refine ⟨B', g1, g2, fun res h => Ev2.step (fun k n => ?_) (g3 res h)⟩
        rw [start, if_neg c2]
        exact no k n
theorem net_ev (a : List Int) : ∃ (N : List Pt) (E : List Ed) (B : List Pt), GoodN N ∧ 2 ≤ N.length ∧ N.length ≤ 8 ∧ GoodE N.length E ∧ E.length ≤ 16 ∧ GoodB E B ∧ B.length ≤ 3 ∧ Ev (fun k => f13 k a) ((N, (E, B)), ()) := by
  obtain ⟨a1, N, n1, n2, n3, n4⟩ := nodes_loop 8 a [] rfl ⟨List.nodup_nil, fun q hq => by cases hq⟩
  have l1 := next_lt (a := a1) (n := 17) (by omega)
  obtain ⟨c1, hc1⟩ : ∃ c : Nat, (nextF a1 17).2 = (c : Int) := ⟨(nextF a1 17).2.toNat, by omega⟩
  obtain ⟨a2, E, e1, e2, e3⟩ := edges_loop N n2 n3 c1 (by omega) c1 0 (nextF a1 17).1 [] (by omega) (by simp) (fun e he => by cases he)
  have l2 := next_lt (a := a2) (n := 4) (by omega)
  obtain ⟨c2, hc2⟩ : ∃ c : Nat, (nextF a2 4).2 = (c : Int) := ⟨(nextF a2 4).2.toNat, by omega⟩
  obtain ⟨B, b1, b2, b3⟩ := bans_loop N E (by omega) c2 (by omega) c2 0 (nextF a2 4).1 [] (by omega) (by simp) ⟨List.nodup_nil, fun b hb => by cases hb⟩
  obtain ⟨B', p1, p2⟩ := sortB_ev B (by omega)
  refine ⟨N, E, B', n1, n2, n3, e1, by omega, ⟨p1.nodup_iff.2 b1.1, fun b hb => b1.2 b (p1.mem_iff.1 hb)⟩, by have := p1.length_eq; omega, ?_⟩
  simp only [f13, f13_entry_B]
  refine (n4 _ ?_).diag
  simp only [next_eq _ a1 17 (show (1 : Int) ≤ 17 by omega) (show (17 : Int) ≤ 1000000000000 by omega), Option.bind_some, hc1]
  refine (e3 _ ?_).diag
  simp only [next_eq _ a2 4 (show (1 : Int) ≤ 4 by omega) (show (4 : Int) ≤ 1000000000000 by omega), Option.bind_some, hc2]
  refine (b3 _ ?_).diag
  simp only [f13_b6, f13_b6_B]
  exact p2.bind (Ev.pure _)
/-! ### They are valid -/
theorem nodF_zero : ∀ (l pre : List Pt), (∀ p ∈ l, okP p) → (pre ++ l).Nodup → nodF pre l = 0
  | [], _, _, _ => rfl
  | p :: l, pre, h, hn => by
    simp only [nodF]
    rw [if_pos (h p (List.mem_cons_self ..)), if_neg, nodF_zero l (pre ++ [p]) (fun q hq => h q (List.mem_cons_of_mem _ hq)) (by simpa using hn)]
    intro hp
    exact (List.nodup_append.1 hn).2.2 p hp p (List.mem_cons_self ..) rfl
theorem edF_zero {n : Nat} : ∀ {E : List Ed}, (∀ e ∈ E, ¬ badE n e ∧ e.1 ≠ e.2.1) → edF n E = 0
  | [], _ => rfl
  | e :: l, h => by
    simp only [edF]
    rw [if_neg (h e (List.mem_cons_self ..)).1, if_neg (h e (List.mem_cons_self ..)).2]
    exact edF_zero fun e' he => h e' (List.mem_cons_of_mem _ he)
theorem banF_zero {E : List Ed} : ∀ (l pre : List Pt), (∀ b ∈ l, inR b.1 E.length ∧ inR b.2 E.length ∧ toE E b.1 = fromE E b.2) → (pre ++ l).Nodup → banF E pre l = 0
  | [], _, _, _ => rfl
  | b :: l, pre, h, hn => by
    have hb := h b (List.mem_cons_self ..)
    simp only [banF]
    rw [if_pos ⟨hb.1, hb.2.1⟩, if_pos hb.2.2, if_neg, banF_zero l (pre ++ [b]) (fun q hq => h q (List.mem_cons_of_mem _ hq)) (by simpa using hn)]
    intro hp
    exact (List.nodup_append.1 hn).2.2 b hp b (List.mem_cons_self ..) rfl
theorem made_valid {N : List Pt} {E : List Ed} {B : List Pt} (h1 : GoodN N) (h2 : N.length ≤ 8) (h3 : GoodE N.length E) (h4 : E.length ≤ 16) (h5 : GoodB E B) (h6 : B.length ≤ 3) : netF (N, (E, B)) = 0 := by
  unfold netF
  simp only
  have k1 := nodF_zero N [] (fun p hp => by
    have := h1.2 p hp
    unfold okP
    rw [cut_in (by omega) (by omega), cut_in (by omega) (by omega)]
    exact ⟨rfl, rfl⟩) (by simpa using h1.1)
  have k2 : edF N.length E = 0 := edF_zero fun e he => by
    have := h3 e he
    exact ⟨fun hb => by unfold badE at hb; rcases hb with hb | hb | hb | hb <;> first | exact hb this.1 | exact hb this.2.1 | omega, this.2.2.1⟩
  have k3 := banF_zero (E := E) B [] h5.2 (by simpa using h5.1)
  rw [if_neg (by omega), if_pos k1, if_pos k2, k3]
end Go.Proofs.Ytoebjlimpnmaoaa.Rw

namespace Go.Proofs.Ytoebjlimpnmaoaa.Rw
open Go.Rx
set_option linter.unusedVariables false
set_option linter.unusedSimpArgs false
def chainW (E : List Ed) (B : List Pt) : Option Int → List Int → Prop
  | _, [] => True
  | p, x :: w => inR x E.length ∧ (∀ y, p = some y → toE E y = fromE E x ∧ (y, x) ∉ B) ∧ chainW E B (some x) w
def sumW (E : List Ed) : List Int → Int
  | [] => 0
  | x :: w => costE E x + sumW E w
theorem chainW_snoc {E : List Ed} {B : List Pt} {q : Int} (hq : inR q E.length) : ∀ (w : List Int) (p : Option Int), chainW E B p w → (∀ y, (match w.getLast? with | some z => some z | none => p) = some y → toE E y = fromE E q ∧ (y, q) ∉ B) → chainW E B p (w ++ [q])
  | [], p, _, h => ⟨hq, h, trivial⟩
  | x :: w, p, hc, h => by
    refine ⟨hc.1, hc.2.1, chainW_snoc hq w (some x) hc.2.2 fun y hy => h y ?_⟩
    cases w with
    | nil => simpa using hy
    | cons z w =>
      have e : (x :: z :: w).getLast? = (z :: w).getLast? := List.getLast?_cons_cons
      rw [e]
      cases hl : (z :: w).getLast? with
      | none => simp at hl
      | some u => rw [hl] at hy; exact hy
theorem sumW_snoc {E : List Ed} {q : Int} : ∀ (w : List Int), sumW E (w ++ [q]) = sumW E w + costE E q
  | [] => by simp [sumW]
  | x :: w => by simp only [List.cons_append, sumW]; rw [sumW_snoc w]; omega
structure WalkI (E : List Ed) (B : List Pt) (s : Int) (way : List Int) (sum at_ : Int) : Prop where
  ch : chainW E B none way
  sm : sum = sumW E way
  at_ : at_ = match way.getLast? with | none => s | some y => toE E y
  le : 0 ≤ sum ∧ sum ≤ 20 * (way.length : Int)
  fst : ∀ y, way.head? = some y → fromE E y = s
def canW (E : List Ed) (B : List Pt) (way : List Int) (at_ q : Int) : Prop := fromE E q = at_ ∧ ∀ y, way.getLast? = some y → (y, q) ∉ B
theorem WalkI.add {E : List Ed} {B : List Pt} {n : Nat} (hE : GoodE n E) {s : Int} {way : List Int} {sum at_ q : Int} (h : WalkI E B s way sum at_) (hq : inR q E.length) (hc : canW E B way at_ q) : WalkI E B s (way ++ [q]) (sum + costE E q) (toE E q) := by
  have hcost : 1 ≤ costE E q ∧ costE E q ≤ 20 := by
    have hi : q.toNat < E.length := by unfold inR at hq; omega
    have hm : E.getD q.toNat zE ∈ E := by
      rw [List.getD_eq_getElem?_getD, List.getElem?_eq_getElem hi]; exact List.getElem_mem hi
    have := hE _ hm
    exact ⟨this.2.2.2.1, this.2.2.2.2⟩
  refine ⟨chainW_snoc hq way none h.ch fun y hy => ?_, by rw [sumW_snoc, h.sm], by simp, ?_, fun y hy => ?_⟩
  · have hy' : way.getLast? = some y := by
      cases hl : way.getLast? with
      | none => rw [hl] at hy; cases hy
      | some z => rw [hl] at hy; exact hy
    refine ⟨?_, hc.2 y hy'⟩
    have := h.at_
    rw [hy'] at this
    simp only at this
    rw [← this, hc.1]
  · have := h.le
    simp only [List.length_append, List.length_singleton]
    omega
  · cases way with
    | nil =>
      simp only [List.nil_append, List.head?_cons, Option.some.injEq] at hy
      subst hy
      rw [hc.1]; exact h.at_
    | cons z w => exact h.fst y (by simpa using hy)
theorem walk_in (N : List Pt) {E : List Ed} {B : List Pt} (hlE : E.length ≤ 600) (hlB : B.length ≤ 600) {m way : List Int} {sum at_ x : Int} {i : Nat} (hi : i ≤ 1000) (hs : 0 ≤ sum ∧ sum ≤ 1000000) (hcost : ∀ q, inR q E.length → 0 ≤ costE E q ∧ costE E q ≤ 20) (hway : way.length ≤ 1000) :
    ∀ (l pre : List Ed) (out : List Int), pre ++ l = E → out.length ≤ pre.length → (∀ q ∈ out, inR q E.length ∧ canW E B way at_ q) →
    Ev3 (fun k n r => f30_l2 k (f30_l0 k n) r N E B out way sum at_ x m (m.length : Int) (i : Int) (E.length : Int) (pre.length : Int)) (way, sum, at_, ()) ∨
    ∃ q, inR q E.length ∧ canW E B way at_ q ∧ ∀ res, Ev2 (fun k n => f30_l0 k n N E B (way ++ [q]) (sum + costE E q) (toE E q) m (m.length : Int) ((i + 1 : Nat) : Int)) res →
      Ev3 (fun k n r => f30_l2 k (f30_l0 k n) r N E B out way sum at_ x m (m.length : Int) (i : Int) (E.length : Int) (pre.length : Int)) res
  | [], pre, out, hpl, hlo, ho => by
    have e : pre = E := by simpa using hpl
    subst e
    by_cases c : (out.length : Int) = 0
    · left
      refine Ev3.step (g := fun _ _ _ => some (way, sum, at_, ())) (fun k n r => ?_) (Ev2.three (Ev2.pure _))
      rw [f30_l2, f30_l2_B, if_neg (by omega), if_pos c, f30_b0, f30_b0_B]
    · right
      have hb := below_lt (x := x) (n := (out.length : Int)) (by omega)
      obtain ⟨b, hbb⟩ : ∃ b : Nat, belowF x (out.length : Int) = (b : Int) := ⟨(belowF x (out.length : Int)).toNat, by omega⟩
      have hmem : out.getD b 0 ∈ out := by
        rw [List.getD_eq_getElem?_getD, List.getElem?_eq_getElem (by omega)]; exact List.getElem_mem _
      obtain ⟨q1, q2⟩ := ho _ hmem
      have q1' := q1
      unfold inR at q1'
      have hc := hcost _ q1
      have hw : w64 ((i : Int) + 1) = ((i + 1 : Nat) : Int) := by rw [w64_id (by omega) (by omega)]; omega
      refine ⟨out.getD b 0, q1, q2, fun res h => Ev3.step (fun k n r => ?_) h.three⟩
      have hws : w64 (sum + costE pre (out.getD b 0)) = sum + costE pre (out.getD b 0) := w64_id (by omega) (by omega)
      unfold costE toE at *
      rw [f30_l2, f30_l2_B, if_neg (by omega), if_neg c, below_eq k x _ (by omega) (by omega), Option.bind_some]
      simp only [hbb, Int.toNat_natCast]
      rw [if_pos (by omega), if_pos (by omega), if_pos (by omega), if_pos q1'.1, if_pos q1'.2, if_pos q1'.1, if_pos q1'.2, hw]
      exact congrArg (fun z => f30_l0 k n N pre B (way ++ [out.getD b 0]) z ((pre.getD (out.getD b 0).toNat zE).2.1) m (m.length : Int) ((i + 1 : Nat) : Int)) hws
  | e :: l, pre, out, hpl, hlo, ho => by
    have h0 : (0 : Int) ≤ (pre.length : Int) := by omega
    have hlt : pre.length < E.length := by rw [← hpl]; simp
    have h1 : (pre.length : Int) < (E.length : Int) := by omega
    have hg : E.getD ((pre.length : Int)).toNat (0, (0, (0, 0))) = e := by rw [← hpl]; exact getD_mid
    have hw : w64 ((pre.length : Int) + 1) = (((pre ++ [e]).length : Nat) : Int) := by
      rw [w64_id (by omega) (by omega)]; simp
    have hpl' : (pre ++ [e]) ++ l = E := by simp [← hpl]
    have hfr : fromE E (pre.length : Int) = e.1 := by unfold fromE; exact congrArg Prod.fst hg
    have hinR : inR (pre.length : Int) E.length := ⟨h0, h1⟩
    -- one edge more, or not
    have no : ∀ k n r, f30_r10 k (f30_l2 k (f30_l0 k n) r) (f30_l0 k n) N E B out way sum at_ x (pre.length : Int) m (m.length : Int) (i : Int) (E.length : Int) false = f30_l2 k (f30_l0 k n) r N E B out way sum at_ x m (m.length : Int) (i : Int) (E.length : Int) (((pre ++ [e]).length : Nat) : Int) := fun k n r => by
      rw [f30_r10, f30_r10_B, if_neg (by simp), f30_c11, f30_c11_B, hw]
    have yes : ∀ k n r, f30_r10 k (f30_l2 k (f30_l0 k n) r) (f30_l0 k n) N E B out way sum at_ x (pre.length : Int) m (m.length : Int) (i : Int) (E.length : Int) true = f30_l2 k (f30_l0 k n) r N E B (out ++ [(pre.length : Int)]) way sum at_ x m (m.length : Int) (i : Int) (E.length : Int) (((pre ++ [e]).length : Nat) : Int) := fun k n r => by
      rw [f30_r10, f30_r10_B, if_pos rfl, if_pos (by omega), f30_c11, f30_c11_B, hw]
    have lift : ∀ (out' : List Int), (∃ K, ∀ k n r, K ≤ k → f30_l2 k (f30_l0 k n) (r + 1) N E B out way sum at_ x m (m.length : Int) (i : Int) (E.length : Int) (pre.length : Int) = f30_l2 k (f30_l0 k n) r N E B out' way sum at_ x m (m.length : Int) (i : Int) (E.length : Int) (((pre ++ [e]).length : Nat) : Int)) →
        (Ev3 (fun k n r => f30_l2 k (f30_l0 k n) r N E B out' way sum at_ x m (m.length : Int) (i : Int) (E.length : Int) (((pre ++ [e]).length : Nat) : Int)) (way, sum, at_, ()) ∨
        ∃ q, inR q E.length ∧ canW E B way at_ q ∧ ∀ res, Ev2 (fun k n => f30_l0 k n N E B (way ++ [q]) (sum + costE E q) (toE E q) m (m.length : Int) ((i + 1 : Nat) : Int)) res →
          Ev3 (fun k n r => f30_l2 k (f30_l0 k n) r N E B out' way sum at_ x m (m.length : Int) (i : Int) (E.length : Int) (((pre ++ [e]).length : Nat) : Int)) res) →
        Ev3 (fun k n r => f30_l2 k (f30_l0 k n) r N E B out way sum at_ x m (m.length : Int) (i : Int) (E.length : Int) (pre.length : Int)) (way, sum, at_, ()) ∨
        ∃ q, inR q E.length ∧ canW E B way at_ q ∧ ∀ res, Ev2 (fun k n => f30_l0 k n N E B (way ++ [q]) (sum + costE E q) (toE E q) m (m.length : Int) ((i + 1 : Nat) : Int)) res →
          Ev3 (fun k n r => f30_l2 k (f30_l0 k n) r N E B out way sum at_ x m (m.length : Int) (i : Int) (E.length : Int) (pre.length : Int)) res := fun out' hst h => by
      obtain ⟨K, hK⟩ := hst
      rcases h with h | ⟨q, q1, q2, q3⟩
      · exact .inl (Ev3.stepE K (fun k n r hk => hK k n r hk) h)
      · exact .inr ⟨q, q1, q2, fun res hr => Ev3.stepE K (fun k n r hk => hK k n r hk) (q3 res hr)⟩
    have ihno := walk_in N hlE hlB (m := m) (way := way) (sum := sum) (at_ := at_) (x := x) (i := i) hi hs hcost hway l (pre ++ [e]) out hpl' (by simp; omega) ho
    by_cases c1 : e.1 = at_
    · have addo : canW E B way at_ (pre.length : Int) → _ := fun hcan => walk_in N hlE hlB (m := m) (way := way) (sum := sum) (at_ := at_) (x := x) (i := i) hi hs hcost hway l (pre ++ [e]) (out ++ [(pre.length : Int)]) hpl' (by simp; omega) (fun q hq => by
        rcases List.mem_append.1 hq with hq | hq
        · exact ho q hq
        · simp only [List.mem_singleton] at hq; subst hq; exact ⟨hinR, hcan⟩)
      by_cases c2 : (way.length : Int) = 0
      · have hnil : way = [] := List.length_eq_zero_iff.1 (by omega)
        refine lift _ ⟨0, fun k n r _ => ?_⟩ (addo ⟨by rw [hfr, c1], fun y hy => by rw [hnil] at hy; cases hy⟩)
        rw [f30_l2, f30_l2_B, if_pos h1, if_pos h0, if_pos h1, hg, if_pos c1, if_pos c2, yes]
      · obtain ⟨y, hy⟩ : ∃ y, way.getLast? = some y := by
          cases hl : way.getLast? with
          | none => rw [List.getLast?_eq_none_iff] at hl; subst hl; simp at c2
          | some y => exact ⟨y, rfl⟩
        obtain ⟨w0, hw0⟩ := List.getLast?_eq_some_iff.1 hy
        have hwl : w64 ((way.length : Int) - 1) = (w0.length : Int) := by
          rw [w64_id (by omega) (by omega), hw0]; simp
        have hgl : way.getD ((w0.length : Int)).toNat 0 = y := by rw [hw0]; exact getD_mid
        have c3 : (0 : Int) ≤ (w0.length : Int) := by omega
        have c4 : (w0.length : Int) < (way.length : Int) := by rw [hw0]; simp; omega
        obtain ⟨K, hK⟩ := conB_ev B (y, (pre.length : Int)) (by omega)
        by_cases c5 : (y, (pre.length : Int)) ∈ B
        · refine lift _ ⟨K, fun k n r hk => ?_⟩ ihno
          have hk' := hK k hk; simp only at hk'
          rw [f30_l2, f30_l2_B, if_pos h1, if_pos h0, if_pos h1, hg, if_pos c1, if_neg c2, hwl, if_pos c3, if_pos c4]
          have hgl' : way.getD (w0.length : Int).toNat 0 = y := hgl
          rw [hgl', hk', Option.bind_some]
          simp only [c5, decide_true, not_true_eq_false, decide_false]
          exact no k n r
        · refine lift _ ⟨K, fun k n r hk => ?_⟩ (addo ⟨by rw [hfr, c1], fun z hz => by rw [hy] at hz; cases hz; exact c5⟩)
          have hk' := hK k hk; simp only at hk'
          rw [f30_l2, f30_l2_B, if_pos h1, if_pos h0, if_pos h1, hg, if_pos c1, if_neg c2, hwl, if_pos c3, if_pos c4]
          have hgl' : way.getD (w0.length : Int).toNat 0 = y := hgl
          rw [hgl', hk', Option.bind_some]
          simp only [c5, decide_false, Bool.false_eq_true, not_false_eq_true, decide_true]
          exact yes k n r
    · refine lift _ ⟨0, fun k n r _ => ?_⟩ ihno
      rw [f30_l2, f30_l2_B, if_pos h1, if_pos h0, if_pos h1, hg, if_neg c1, no]
theorem walk_out (N : List Pt) {E : List Ed} {B : List Pt} {n0 : Nat} (hE : GoodE n0 E) (hlE : E.length ≤ 600) (hlB : B.length ≤ 600) (s : Int) {m : List Int} (hm : m.length ≤ 12) : ∀ (d i : Nat) (way : List Int) (sum at_ : Int), i + d = m.length → way.length ≤ i → WalkI E B s way sum at_ →
    ∃ way' sum' at', WalkI E B s way' sum' at' ∧ way'.length ≤ m.length ∧ Ev2 (fun k n => f30_l0 k n N E B way sum at_ m (m.length : Int) (i : Int)) (way', sum', at', ())
  | 0, i, way, sum, at_, hid, hl, hI => by
    refine ⟨way, sum, at_, hI, by omega, Ev2.step (g := fun _ _ => some (way, sum, at_, ())) (fun k n => ?_) (Ev2.pure _)⟩
    rw [f30_l0, f30_l0_B, if_neg (by omega), f30_b0, f30_b0_B]
  | d + 1, i, way, sum, at_, hid, hl, hI => by
    have hcost : ∀ q, inR q E.length → 0 ≤ costE E q ∧ costE E q ≤ 20 := fun q hq => by
      have hi : q.toNat < E.length := by unfold inR at hq; omega
      have hm : E.getD q.toNat zE ∈ E := by
        rw [List.getD_eq_getElem?_getD, List.getElem?_eq_getElem hi]; exact List.getElem_mem hi
      have := hE _ hm
      unfold costE; omega
    have hle := hI.le
    have h1 : (i : Int) < (m.length : Int) := by omega
    have h0 : (0 : Int) ≤ (i : Int) := by omega
    have start : ∀ k n, f30_l0 k (n + 1) N E B way sum at_ m (m.length : Int) (i : Int) = f30_l2 k (f30_l0 k n) k N E B ([] : List Int) way sum at_ (m.getD (i : Int).toNat 0) m (m.length : Int) (i : Int) (E.length : Int) 0 := fun k n => by
      rw [f30_l0, f30_l0_B, if_pos h1, if_pos h0, if_pos h1]
    rcases walk_in N hlE hlB (m := m) (way := way) (sum := sum) (at_ := at_) (x := m.getD (i : Int).toNat 0) (i := i) (by omega) (by omega) hcost (by omega) E [] [] rfl (by simp) (fun q hq => by cases hq) with h | ⟨q, q1, q2, q3⟩
    · exact ⟨way, sum, at_, hI, by omega, Ev2.step start h.in_⟩
    · obtain ⟨way', sum', at', g1, g2, g3⟩ := walk_out N hE hlE hlB s hm d (i + 1) (way ++ [q]) _ _ (by omega) (by simp; omega) (hI.add hE q1 q2)
      exact ⟨way', sum', at', g1, g2, Ev2.step start (q3 _ g3).in_⟩
theorem walk_ev {N : List Pt} {E : List Ed} {B : List Pt} {n0 : Nat} (hE : GoodE n0 E) (hlE : E.length ≤ 600) (hlB : B.length ≤ 600) (s : Int) {m : List Int} (hm : m.length ≤ 12) :
    ∃ way sum at_, WalkI E B s way sum at_ ∧ way.length ≤ m.length ∧ Ev (fun k => f30 k (N, (E, B)) s m) (way, sum, at_, ()) := by
  obtain ⟨way, sum, at_, h1, h2, h3⟩ := walk_out N hE hlE hlB s hm m.length 0 [] 0 s (by omega) (by simp) ⟨trivial, rfl, rfl, by simp, fun y hy => by cases hy⟩
  refine ⟨way, sum, at_, h1, h2, ?_⟩
  simp only [f30, f30_entry_B]
  exact h3.diag
/-- Every two neighbours are a turn. -/
theorem chainW_turn {E : List Ed} {B : List Pt} : ∀ (w : List Int) (i : Nat) (p : Option Int), chainW E B p w → i + 1 < w.length → turnF E B (w.getD i 0) (w.getD (i + 1) 0) = true
  | [], i, p, _, hi => by simp at hi
  | [x], i, p, _, hi => by simp at hi
  | x :: y :: w, 0, p, h, hi => by
    obtain ⟨h1, h2, h3⟩ := h
    obtain ⟨g1, g2, g3⟩ := h3
    obtain ⟨t1, t2⟩ := g2 x rfl
    simp only [List.getD_cons_zero, List.getD_cons_succ]
    unfold turnF
    exact decide_eq_true ⟨h1, g1, t1, t2⟩
  | x :: y :: w, i + 1, p, h, hi => by
    have := chainW_turn (y :: w) i (some x) h.2.2 (by simpa using hi)
    simpa using this
end Go.Proofs.Ytoebjlimpnmaoaa.Rw

namespace Go.Proofs.Ytoebjlimpnmaoaa.Rw
open Go.Rx
set_option linter.unusedVariables false
set_option linter.unusedSimpArgs false
theorem take_one {w : List Int} {i : Nat} (h : i < w.length) : w.take (i + 1) = w.take i ++ [w.getD i 0] := by
  rw [List.take_add_one, List.getD_eq_getElem?_getD, List.getElem?_eq_getElem h]; rfl
theorem walk_wy {E : List Ed} {B : List Pt} {s : Int} {way : List Int} {sum at_ : Int} (h : WalkI E B s way sum at_) : ∀ i, i < way.length → Wy E B s (way.take (i + 1)) (way.getD i 0)
  | 0, hi => by
    cases way with
    | nil => simp at hi
    | cons x w => exact .one x h.ch.1 (h.fst x rfl)
  | i + 1, hi => by
    have ih := walk_wy h i (by omega)
    have ht := chainW_turn way i none h.ch hi
    unfold turnF at ht
    simp only [decide_eq_true_eq] at ht
    rw [take_one hi]
    exact .snoc _ _ _ ih ht.2.1 ht.2.2.1 ht.2.2.2
end Go.Proofs.Ytoebjlimpnmaoaa.Rw

namespace Go.Proofs.Ytoebjlimpnmaoaa.Rw
open Go.Rx
set_option linter.unusedVariables false
set_option linter.unusedSimpArgs false
theorem routed4_true (j : Nat) : f31 (j + 60) = some (true, ()) := by kernel_rfl
theorem ends_law_loop {N : List Pt} {E : List Ed} {B : List Pt} {s : Int} {W : List (List Int)} (hE : E.length ≤ 600) (hW : Opt E B s W) (h0 : ∀ k, inR k E.length → 0 ≤ costE E k ∧ costE E k ≤ 20) {way : List Int} (hl : way.length ≤ 12) (hw : ∀ i, i < way.length → Wy E B s (way.take (i + 1)) (way.getD i 0)) : ∀ (d i : Nat), i + d = way.length →
    Ev2 (fun k n => f6_l0 k n (W.map (endC E)) N E B (cW E (way.take i)) way (way.length : Int) (i : Int)) (true, ())
  | 0, i, hi => by
    refine Ev2.step (g := fun _ _ => some (true, ())) (fun k n => ?_) (Ev2.pure _)
    rw [f6_l0, f6_l0_B, if_neg (by omega)]
  | d + 1, i, hi => by
    have hil : i < way.length := by omega
    have i0 : (0 : Int) ≤ (i : Int) := by omega
    have i1 : (i : Int) < (way.length : Int) := by omega
    have hy := hw i hil
    have hr := hy.inR
    have hr1 : (way.getD i 0) < ((W.map (endC E)).length : Int) := by rw [List.length_map, hW.len]; exact hr.2
    have hkn : (way.getD i 0).toNat < E.length := by have := hr.1; have := hr.2; omega
    have ek : (((way.getD i 0).toNat : Nat) : Int) = way.getD i 0 := by have := hr.1; omega
    have hne : W.getD (way.getD i 0).toNat [] ≠ [] := fun z => hW.no _ hkn z _ (by rw [ek]; exact hy)
    obtain ⟨y1, y2⟩ := hW.yes _ hkn hne
    have y2 := wle_cost (y2 _ (by rw [ek]; exact hy))
    have y0 := y1.cost (fun k hk => (h0 k hk).1)
    have hg : way.getD ((i : Int)).toNat 0 = way.getD i 0 := by rw [Int.toNat_natCast]
    have he : (W.map (endC E)).getD (way.getD i 0).toNat 0 = cW E (W.getD (way.getD i 0).toNat []) := by
      rw [ends_at (by rw [hW.len]; exact hkn)]; unfold endC; rw [if_neg hne]
    have hsum : w64 (cW E (way.take i) + (E.getD (way.getD i 0).toNat (0, (0, (0, 0)))).2.2.1) = cW E (way.take (i + 1)) := by
      rw [take_one hil, cW_app, cW_one]
      have e : (E.getD (way.getD i 0).toNat (0, (0, (0, 0)))).2.2.1 = costE E (way.getD i 0) := rfl
      have hmem : ∀ x ∈ way.take i, inR x E.length := fun x hx => hy.mem x (by rw [take_one hil]; exact List.mem_append_left _ hx)
      have hle := cW_le (E := E) (M := 20) (by decide) (fun k hk => (h0 k hk).2) (way.take i) hmem
      have hge : 0 ≤ cW E (way.take i) := by
        cases i with
        | zero => simp [cW]
        | succ i => exact (hw i (by omega)).cost (fun k hk => (h0 k hk).1)
      have := h0 _ hr
      have hl2 : (way.take i).length ≤ 12 := by rw [List.length_take]; omega
      rw [e, w64_id (by omega) (by omega)]
    have hw1 : w64 ((i : Int) + 1) = ((i + 1 : Nat) : Int) := by rw [w64_id (by omega) (by omega)]; omega
    refine Ev2.step (fun k n => ?_) (ends_law_loop (N := N) hE hW h0 hl hw d (i + 1) (by omega))
    rw [f6_l0, f6_l0_B, if_pos i1, if_pos i0, if_pos i1, hg, if_pos hr.1, if_pos hr.2, if_pos hr.1, if_pos hr1, he, if_neg (by omega), if_pos hr.1, if_pos hr1, hsum, decide_eq_false (by omega), f6_r11, f6_r11_B, if_neg (by simp), hw1]
theorem goodE_cost {n : Nat} {E : List Ed} (h : GoodE n E) : ∀ k, inR k E.length → 0 ≤ costE E k ∧ costE E k ≤ 20 := fun k hk => by
  have hi : k.toNat < E.length := by have := hk.1; have := hk.2; omega
  have hm : E.getD k.toNat zE ∈ E := by
    rw [List.getD_eq_getElem?_getD, List.getElem?_eq_getElem hi]; exact List.getElem_mem hi
  have := h _ hm
  unfold costE; omega
theorem ends_law (a m : List Int) : Ev (fun k => f6 k a m) (true, ()) := by
  obtain ⟨N, E, B, n1, n2, n3, e1, e2, b1, b2, hnet⟩ := net_ev a
  have hmx : mx2 false (m.length : Int) 12 = ((min m.length 12 : Nat) : Int) := by rw [mx2_min]; omega
  have hml : (m.take (min m.length 12)).length ≤ 12 := by rw [List.length_take]; omega
  obtain ⟨way, sum, at_, hW, hwl, hwalk⟩ := walk_ev (N := N) (B := B) e1 (by omega) (by omega) 0 hml
  have hval := made_valid n1 n3 e1 e2 b1 b2
  obtain ⟨W, w1, w2⟩ := ends_ev hval (s := 0) ⟨by omega, by omega⟩
  have hr : Ev (fun k => f31 k) (true, ()) := Ev.off 60 routed4_true
  have hloop := (ends_law_loop (N := N) (by omega) w1 (goodE_cost e1) (by omega) (walk_wy hW) way.length 0 (by omega)).diag
  simp only [f6, f6_entry_B]
  refine hnet.bind (w2.bind ?_)
  simp only [hmx]
  refine Ev.of (fun k => by rw [if_pos (by omega), if_pos (by omega), Int.toNat_natCast]) ?_
  refine hwalk.bind (hr.bind ?_)
  have hlen : ((W.map (endC E)).length : Int) = (E.length : Int) := by rw [List.length_map, w1.len]
  refine Ev.of (fun k => ?_) hloop
  rw [if_neg (by simp), decide_eq_false (fun z => z hlen), f6_r4, f6_r4_B, if_neg (by simp)]
  rfl
/-- **No way that ends with an edge is cheaper than Ends.** -/
theorem pure_RouteEnds : Pure_RouteEnds := by
  rintro ⟨a, m, u⟩ hwf
  exact (ends_law a m).get
end Go.Proofs.Ytoebjlimpnmaoaa.Rw
