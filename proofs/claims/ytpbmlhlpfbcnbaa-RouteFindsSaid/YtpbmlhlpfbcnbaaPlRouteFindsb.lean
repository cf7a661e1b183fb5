/- Plain laws for RouteFinds. No condition. -/
import Derived.Test.YtpbmlhlpfbcnbaaPlRouteFindsa
namespace Go.Proofs.Ytpbmlhlpfbcnbaa.Rw
open Go.Rx
set_option linter.unusedVariables false
set_option linter.unusedSimpArgs false
theorem wle_pre {E : List Ed} (a : List Int) {q : List Int} (h : 0 ≤ cW E q) : wle E a (a ++ q) := by
  unfold wle
  rw [cW_app, List.length_append]
  cases q with
  | nil => rw [List.append_nil, cmpI_self]; simp only [cW]; omega
  | cons x l => simp only [List.length_cons]; omega
theorem cW_nn {E : List Ed} (hc : ∀ k, inR k E.length → 0 ≤ costE E k) : ∀ {w : List Int}, (∀ x ∈ w, inR x E.length) → 0 ≤ cW E w
  | [], _ => Int.le_refl 0
  | q :: w, h => by
    have h1 := cW_nn hc (w := w) (fun x hx => h x (List.mem_cons_of_mem _ hx))
    have h2 := hc q (h q (List.mem_cons_self ..))
    simp only [cW]; omega
/-- What holds of the ways at all times. -/
structure WI (E : List Ed) (B : List Pt) (s : Int) (W : List (List Int)) : Prop where
  len : W.length = E.length
  way : ∀ i, i < E.length → W.getD i [] ≠ [] → Wy E B s (W.getD i []) (i : Int) ∧ (W.getD i []).Nodup
  pre : ∀ i, i < E.length → ∀ p x q, W.getD i [] = p ++ x :: q → W.getD x.toNat [] ≠ [] ∧ wle E (W.getD x.toNat []) (p ++ [x])
  one : ∀ i, i < E.length → fromE E (i : Int) = s → W.getD i [] ≠ [] ∧ wle E (W.getD i []) [(i : Int)]
theorem WI.set {E : List Ed} {B : List Pt} {s : Int} {W : List (List Int)} (h : WI E B s W) (hC : ∀ k, inR k E.length → 0 ≤ costE E k) {a b : Nat} (ha : a < E.length) (hb : b < E.length) (hne : W.getD a [] ≠ []) (hg : Goes E B (a : Int) (b : Int)) (hu : W.getD b [] = [] ∨ ¬ wle E (W.getD b []) (W.getD a [] ++ [(b : Int)])) :
    WI E B s (W.set b (W.getD a [] ++ [(b : Int)])) := by
  have hbW : b < W.length := by rw [h.len]; exact hb
  obtain ⟨wa, na⟩ := h.way a ha hne
  have hg' : ∀ j, (W.set b (W.getD a [] ++ [(b : Int)])).getD j [] = if b = j then W.getD a [] ++ [(b : Int)] else W.getD j [] := fun j => by
    rw [gsetN]
    by_cases e : b = j
    · rw [if_pos ⟨e, hbW⟩, if_pos e]
    · rw [if_neg (fun z => e z.1), if_neg e]
  have hup : ∀ (j : Nat) (v : List Int), W.getD j [] ≠ [] ∧ wle E (W.getD j []) v → (W.set b (W.getD a [] ++ [(b : Int)])).getD j [] ≠ [] ∧ wle E ((W.set b (W.getD a [] ++ [(b : Int)])).getD j []) v := fun j v ⟨h1, h2⟩ => by
    rw [hg']
    by_cases e : b = j
    · rw [if_pos e]
      refine ⟨by simp, ?_⟩
      rcases hu with hu | hu
      · rw [← e] at h1; exact absurd hu h1
      · rw [← e] at h2
        rcases wle_total E (W.getD b []) (W.getD a [] ++ [(b : Int)]) with g | g
        · exact absurd g hu
        · exact wle_trans g h2
    · rw [if_neg e]; exact ⟨h1, h2⟩
  have hin := wa.mem
  have hnb : (b : Int) ∉ W.getD a [] := fun hm => by
    obtain ⟨p, q, e⟩ := List.append_of_mem hm
    obtain ⟨g1, g2⟩ := h.pre a ha p (b : Int) q e
    rw [Int.toNat_natCast] at g1 g2
    rcases hu with hu | hu
    · exact g1 hu
    · refine hu (wle_trans g2 ?_)
      rw [e, show p ++ (b : Int) :: q ++ [(b : Int)] = (p ++ [(b : Int)]) ++ (q ++ [(b : Int)]) by simp]
      refine wle_pre _ (cW_nn hC fun x hx => ?_)
      rcases List.mem_append.1 hx with hx | hx
      · exact hin x (by rw [e]; exact List.mem_append_right _ (List.mem_cons_of_mem _ hx))
      · rw [List.mem_singleton.1 hx]; exact hg.1
  refine ⟨by rw [List.length_set]; exact h.len, fun i hi hn => ?_, fun i hi p x q e => ?_, fun i hi hs => hup i _ (h.one i hi hs)⟩
  · rw [hg'] at hn ⊢
    by_cases e : b = i
    · rw [if_pos e, ← e]
      refine ⟨.snoc _ _ _ wa hg.1 hg.2.1 hg.2.2, ?_⟩
      rw [List.nodup_append]
      refine ⟨na, by simp, fun x hx y hy => ?_⟩
      rw [List.mem_singleton.1 hy]
      exact fun z => hnb (z ▸ hx)
    · rw [if_neg e] at hn ⊢; exact h.way i hi hn
  · rw [hg'] at e
    by_cases c : b = i
    · rw [if_pos c] at e
      rcases List.eq_nil_or_concat q with z | ⟨q', y, z⟩
      · subst z
        obtain ⟨e1, e2⟩ := List.append_inj' e rfl
        obtain rfl : (b : Int) = x := by simpa using e2
        rw [hg', Int.toNat_natCast, if_pos rfl, ← e1]
        exact ⟨by simp, wle_refl _ _⟩
      · subst z
        have e' : W.getD a [] ++ [(b : Int)] = (p ++ x :: q') ++ [y] := by rw [e]; simp
        obtain ⟨e1, _⟩ := List.append_inj' e' rfl
        exact hup _ _ (h.pre a ha p x q' e1)
    · rw [if_neg c] at e
      exact hup _ _ (h.pre i hi p x q e)
theorem WI.sz {E : List Ed} {B : List Pt} {s : Int} {W : List (List Int)} (h : WI E B s W) (i : Nat) (hi : i < E.length) : (W.getD i []).length ≤ E.length := by
  by_cases c : W.getD i [] = []
  · rw [c]; simp
  · obtain ⟨h1, h2⟩ := h.way i hi c
    exact nodup_len _ h2 h1.mem
theorem WI.mem {E : List Ed} {B : List Pt} {s : Int} {W : List (List Int)} (h : WI E B s W) (i : Nat) (hi : i < E.length) : ∀ x ∈ W.getD i [], inR x E.length := by
  by_cases c : W.getD i [] = []
  · rw [c]; intro x hx; cases hx
  · exact (h.way i hi c).1.mem
/-- Over a pair of edges nothing can be improved. -/
def Cl (E : List Ed) (B : List Pt) (W : List (List Int)) (a b : Nat) : Prop := W.getD a [] ≠ [] → Goes E B (a : Int) (b : Int) → W.getD b [] ≠ [] ∧ wle E (W.getD b []) (W.getD a [] ++ [(b : Int)])
theorem WI.opt {E : List Ed} {B : List Pt} {s : Int} {W : List (List Int)} (h : WI E B s W) (hc : ∀ a b, a < E.length → b < E.length → Cl E B W a b) : Opt E B s W := by
  have hall : ∀ {w : List Int} {k : Int}, Wy E B s w k → W.getD k.toNat [] ≠ [] ∧ wle E (W.getD k.toNat []) w := fun {w k} hw => by
    induction hw with
    | one k h1 h2 =>
      have e : ((k.toNat : Nat) : Int) = k := by have := h1.1; omega
      have := h.one k.toNat (by have := h1.1; have := h1.2; omega) (by rw [e]; exact h2)
      rwa [e] at this
    | snoc w j k hw h1 h2 h3 ih =>
      have hj := hw.inR
      have e : ((k.toNat : Nat) : Int) = k := by have := h1.1; omega
      have e2 : ((j.toNat : Nat) : Int) = j := by have := hj.1; omega
      have := hc j.toNat k.toNat (by have := hj.1; have := hj.2; omega) (by have := h1.1; have := h1.2; omega) ih.1 (by rw [e, e2]; exact ⟨h1, h2, h3⟩)
      rw [e] at this
      exact ⟨this.1, wle_trans this.2 (wle_snoc ih.2 k)⟩
  refine ⟨h.len, fun i hi hn w hw => ?_, fun i hi hn => ⟨(h.way i hi hn).1, fun w hw => ?_⟩, fun i hi _ => h.sz i hi⟩
  · have := (hall hw).1; rw [Int.toNat_natCast] at this; exact this hn
  · have := (hall hw).2; rwa [Int.toNat_natCast] at this
/-- Numbers of ways, in their order. -/
def hor (M : Nat) : List Int → Nat
  | [] => 0
  | x :: l => x.toNat * M ^ l.length + hor M l
theorem hor_lt {M : Nat} : ∀ {w : List Int}, (∀ x ∈ w, 0 ≤ x ∧ x < (M : Int)) → hor M w < M ^ w.length
  | [], _ => by simp [hor]
  | x :: l, h => by
    have ih := hor_lt (w := l) (fun y hy => h y (List.mem_cons_of_mem _ hy))
    have hx := h x (List.mem_cons_self ..)
    have h1 : (x.toNat + 1) * M ^ l.length ≤ M * M ^ l.length := Nat.mul_le_mul_right _ (by omega)
    simp only [hor, List.length_cons, Nat.pow_succ]
    rw [Nat.add_mul] at h1
    rw [Nat.mul_comm (M ^ l.length) M]
    omega
theorem hor_cmp {M : Nat} : ∀ {a b : List Int}, a.length = b.length → (∀ x ∈ a, 0 ≤ x ∧ x < (M : Int)) → (∀ x ∈ b, 0 ≤ x ∧ x < (M : Int)) → cmpI a b < 0 → hor M a < hor M b
  | [], [], _, _, _, h => by simp [cmpI] at h
  | [], _ :: _, h, _, _, _ => by simp at h
  | _ :: _, [], h, _, _, _ => by simp at h
  | x :: l, y :: m, hl, ha, hb, h => by
    have hl' : l.length = m.length := by simpa using hl
    have h1 := hor_lt (M := M) (w := l) (fun z hz => ha z (List.mem_cons_of_mem _ hz))
    have hx := ha x (List.mem_cons_self ..)
    have hy := hb y (List.mem_cons_self ..)
    simp only [cmpI] at h
    simp only [hor]
    rw [← hl']
    by_cases c : x < y
    · have h2 : (x.toNat + 1) * M ^ l.length ≤ y.toNat * M ^ l.length := Nat.mul_le_mul_right _ (by omega)
      rw [Nat.add_mul] at h2
      omega
    · rw [if_neg c] at h
      by_cases d : y < x
      · rw [if_pos d] at h; omega
      · rw [if_neg d] at h
        have ih := hor_cmp hl' (fun z hz => ha z (List.mem_cons_of_mem _ hz)) (fun z hz => hb z (List.mem_cons_of_mem _ hz)) h
        obtain rfl : x = y := by omega
        omega
def codW (E : List Ed) (w : List Int) : Nat := ((cW E w).toNat * (E.length + 1) + w.length) * (E.length + 1) ^ E.length + hor (E.length + 1) w
def muW (E : List Ed) (w : List Int) : Nat := if w = [] then ((1099511627776 * E.length + 1) * (E.length + 1)) * (E.length + 1) ^ E.length else codW E w
theorem hor_le {E : List Ed} {w : List Int} (hl : w.length ≤ E.length) (h : ∀ x ∈ w, inR x E.length) : hor (E.length + 1) w < (E.length + 1) ^ E.length :=
  Nat.lt_of_lt_of_le (hor_lt (M := E.length + 1) (w := w) (fun x hx => by have := h x hx; exact ⟨this.1, by have := this.2; omega⟩)) (Nat.pow_le_pow_right (by omega) hl)
theorem cod_step {A A' P h h' : Nat} (hA : A + 1 ≤ A') (hh : h < P) : A * P + h < A' * P + h' := by
  have h1 : (A + 1) * P ≤ A' * P := Nat.mul_le_mul_right _ hA
  rw [Nat.add_mul] at h1
  omega
theorem cod_lt {E : List Ed} {w v : List Int} (hw : w.length ≤ E.length) (hv : v.length ≤ E.length) (iw : ∀ x ∈ w, inR x E.length) (iv : ∀ x ∈ v, inR x E.length) (cw : 0 ≤ cW E w) (cv : 0 ≤ cW E v) (h : ¬ wle E v w) : codW E w < codW E v := by
  unfold wle at h
  unfold codW
  by_cases c1 : cW E w < cW E v
  · refine cod_step ?_ (hor_le hw iw)
    have h1 : ((cW E w).toNat + 1) * (E.length + 1) ≤ (cW E v).toNat * (E.length + 1) := Nat.mul_le_mul_right _ (by omega)
    rw [Nat.add_mul] at h1
    omega
  · have e : cW E w = cW E v := by omega
    by_cases c2 : w.length < v.length
    · refine cod_step ?_ (hor_le hw iw)
      rw [e]; omega
    · have e2 : w.length = v.length := by omega
      have hf := cmpI_flip v w
      have := hor_cmp (M := E.length + 1) e2 (fun x hx => by have := iw x hx; exact ⟨this.1, by have := this.2; omega⟩) (fun x hx => by have := iv x hx; exact ⟨this.1, by have := this.2; omega⟩) (by omega)
      rw [e, e2]; omega
theorem cod_top {E : List Ed} {w : List Int} (hw : w.length ≤ E.length) (iw : ∀ x ∈ w, inR x E.length) (hC : ∀ k, inR k E.length → 0 ≤ costE E k ∧ costE E k ≤ 1099511627776) : codW E w < ((1099511627776 * E.length + 1) * (E.length + 1)) * (E.length + 1) ^ E.length := by
  have h1 := cW_le (E := E) (M := 1099511627776) (by omega) (fun k hk => (hC k hk).2) w iw
  have h0 := cW_nn (fun k hk => (hC k hk).1) iw
  have h2 : (cW E w).toNat ≤ 1099511627776 * E.length := by omega
  have h3 : (cW E w).toNat * (E.length + 1) ≤ (1099511627776 * E.length) * (E.length + 1) := Nat.mul_le_mul_right _ h2
  have := cod_step (A := (cW E w).toNat * (E.length + 1) + w.length) (A' := (1099511627776 * E.length + 1) * (E.length + 1)) (P := (E.length + 1) ^ E.length) (h := hor (E.length + 1) w) (h' := 0) (by rw [Nat.add_mul]; omega) (hor_le hw iw)
  unfold codW
  omega
theorem sum_set (f : List Int → Nat) : ∀ (l : List (List Int)) (b : Nat) (v : List Int), b < l.length → ((l.set b v).map f).sum + f (l.getD b []) = (l.map f).sum + f v
  | [], b, v, h => by simp at h
  | x :: l, 0, v, _ => by simp; omega
  | x :: l, b + 1, v, h => by
    have := sum_set f l b v (by simpa using h)
    simp only [List.set_cons_succ, List.map_cons, List.sum_cons, List.getD_cons_succ]
    omega
def mu (E : List Ed) (W : List (List Int)) : Nat := (W.map (muW E)).sum
theorem WI.less {E : List Ed} {B : List Pt} {s : Int} {W : List (List Int)} (h : WI E B s W) (hC : ∀ k, inR k E.length → 0 ≤ costE E k ∧ costE E k ≤ 1099511627776) {a b : Nat} (ha : a < E.length) (hb : b < E.length) (hne : W.getD a [] ≠ []) (hg : Goes E B (a : Int) (b : Int)) (hu : W.getD b [] = [] ∨ ¬ wle E (W.getD b []) (W.getD a [] ++ [(b : Int)])) :
    mu E (W.set b (W.getD a [] ++ [(b : Int)])) < mu E W := by
  have hn := h.set (fun k hk => (hC k hk).1) ha hb hne hg hu
  have hbW : b < W.length := by rw [h.len]; exact hb
  have e : (W.set b (W.getD a [] ++ [(b : Int)])).getD b [] = W.getD a [] ++ [(b : Int)] := by rw [gsetN, if_pos ⟨rfl, hbW⟩]
  have l1 := hn.sz b hb
  have m1 := hn.mem b hb
  rw [e] at l1 m1
  have hs := sum_set (muW E) W b (W.getD a [] ++ [(b : Int)]) hbW
  have hlt : muW E (W.getD a [] ++ [(b : Int)]) < muW E (W.getD b []) := by
    unfold muW
    rw [if_neg (by simp)]
    by_cases c : W.getD b [] = []
    · rw [if_pos c]; exact cod_top l1 m1 hC
    · rw [if_neg c]
      rcases hu with hu | hu
      · exact absurd hu c
      · exact cod_lt l1 (h.sz b hb) m1 (h.mem b hb) (cW_nn (fun k hk => (hC k hk).1) m1) (cW_nn (fun k hk => (hC k hk).1) (h.mem b hb)) hu
  unfold mu
  omega
end Go.Proofs.Ytpbmlhlpfbcnbaa.Rw

namespace Go.Proofs.Ytpbmlhlpfbcnbaa.Rw
open Go.Rx
set_option linter.unusedVariables false
set_option linter.unusedSimpArgs false
theorem pointOK_eq (k : Nat) (p : Pt) : f30 k p = some (decide (okP p), ()) := by
  have key : ∀ x : Int, (x = cut x ↔ -1048576 ≤ x ∧ x ≤ 1048576) := fun x => by
    have := cut_range x
    exact ⟨fun h => by omega, fun h => (cut_in h.1 h.2).symm⟩
  simp only [f30, f30_entry_B, f30_r1, f30_r1_B]
  have e : decide (okP p) = decide ((-1048576 ≤ p.1 ∧ p.1 ≤ 1048576) ∧ (-1048576 ≤ p.2 ∧ p.2 ≤ 1048576)) := decide_eq_decide.2 (by unfold okP; rw [key, key])
  rw [e]
  by_cases h1 : -1048576 ≤ p.1 <;> by_cases h2 : p.1 ≤ 1048576 <;> by_cases h3 : -1048576 ≤ p.2 <;> simp [h1, h2, h3]
theorem inS_eq (k : Nat) (i : Int) (n : Nat) : f109 k i (n : Int) = some (decide (inR i n), ()) := by
  simp only [f109, f109_entry_B, f109_r1, f109_r1_B, inR]
  by_cases h : 0 ≤ i <;> simp [h]
theorem flt_bans (N : List Pt) (E : List Ed) (B : List Pt) (hB : B.length ≤ 600) : ∀ (l pre : List Pt), pre ++ l = B →
    Ev2 (fun k n => f42_l6 k n N E B pre (B.length : Int) (pre.length : Int)) (banF E pre l, ())
  | [], pre, hpl => by
    subst hpl
    exact Ev2.step (g := fun _ _ => some (0, ())) (fun k n => by rw [f42_l6, f42_l6_B, if_neg (by simp)]) (Ev2.pure _)
  | b :: l, pre, hpl => by
    have ih := flt_bans N E B hB l (pre ++ [b]) (by simp [← hpl])
    have h0 : (0 : Int) ≤ (pre.length : Int) := by omega
    have h1 : (pre.length : Int) < (B.length : Int) := by rw [← hpl]; simp; omega
    have hg : B.getD ((pre.length : Int)).toNat (0, 0) = b := by rw [← hpl]; exact getD_mid
    have hw : w64 ((pre.length : Int) + 1) = (((pre ++ [b]).length : Nat) : Int) := by
      rw [w64_id (by omega) (by omega)]; simp
    have hbb : (b.1, b.2) = b := rfl
    have opn : ∀ k n, f42_l6 k (n + 1) N E B pre (B.length : Int) (pre.length : Int) = if inR b.1 E.length ∧ inR b.2 E.length then (if toE E b.1 = fromE E b.2 then (if b ∈ pre then some (5, ()) else f42_l6 k n N E B (pre ++ [b]) (B.length : Int) (((pre ++ [b]).length : Nat) : Int)) else some (9, ())) else some (1, ()) := fun k n => by
      rw [f42_l6, f42_l6_B, if_pos h1, if_pos h0, if_pos h1, hg]
      simp only [inS_eq, Option.bind_some, f42_c30, f42_c30_B, hw, hbb]
      by_cases c1 : inR b.1 E.length
      · by_cases c2 : inR b.2 E.length
        · have d1 := c1; have d2 := c2
          unfold inR at d1 d2
          simp only [c1, c2, and_self, decide_true, if_true, not_true_eq_false, if_false, decide_false, Bool.false_eq_true, if_pos d1.1, if_pos d1.2, if_pos d2.1, if_pos d2.2]
          by_cases c3 : toE E b.1 = fromE E b.2
          · have c3' : (E.getD b.1.toNat (0, (0, (0, 0)))).2.1 = (E.getD b.2.toNat (0, (0, (0, 0)))).1 := c3
            rw [if_neg (not_not_intro c3'), if_pos c3]
          · have c3' : ¬ (E.getD b.1.toNat (0, (0, (0, 0)))).2.1 = (E.getD b.2.toNat (0, (0, (0, 0)))).1 := c3
            rw [if_pos c3', if_neg c3]
        · simp only [c1, c2, and_false, decide_false, not_true_eq_false, if_false, decide_true, Bool.false_eq_true, not_false_eq_true, if_true]
      · simp only [c1, decide_false, false_and, not_false_eq_true, if_true, if_false, Bool.false_eq_true, decide_true]
    refine Ev2.step opn ?_
    simp only [banF]
    split
    · split
      · split
        · exact Ev2.pure _
        · exact ih
      · exact Ev2.pure _
    · exact Ev2.pure _
theorem flt_edges (N : List Pt) (E : List Ed) (B : List Pt) (hE : E.length ≤ 600) {res : Int × Unit} (hB : Ev (fun k => f42_l6 k k N E B [] (B.length : Int) 0) res) : ∀ (l pre : List Ed), pre ++ l = E →
    Ev2 (fun k n => f42_l3 k n N E B (E.length : Int) (pre.length : Int)) (if edF N.length l = 0 then res else (edF N.length l, ()))
  | [], pre, hpl => by
    subst hpl
    exact Ev2.step (fun k n => by rw [f42_l3, f42_l3_B, if_neg (by simp)]) (by simpa [edF] using hB.two)
  | e :: l, pre, hpl => by
    have ih := flt_edges N E B hE hB l (pre ++ [e]) (by simp [← hpl])
    have h0 : (0 : Int) ≤ (pre.length : Int) := by omega
    have h1 : (pre.length : Int) < (E.length : Int) := by rw [← hpl]; simp; omega
    have hg : E.getD ((pre.length : Int)).toNat (0, (0, (0, 0))) = e := by rw [← hpl]; exact getD_mid
    have hw : w64 ((pre.length : Int) + 1) = (((pre ++ [e]).length : Nat) : Int) := by
      rw [w64_id (by omega) (by omega)]; simp
    have opn : ∀ k n, f42_l3 k (n + 1) N E B (E.length : Int) (pre.length : Int) = if badE N.length e then some (1, ()) else if e.1 = e.2.1 then some (11, ()) else f42_l3 k n N E B (E.length : Int) (((pre ++ [e]).length : Nat) : Int) := fun k n => by
      rw [f42_l3, f42_l3_B, if_pos h1, if_pos h0, if_pos h1, hg]
      simp only [inS_eq, Option.bind_some, f42_c18, f42_c18_B, hw]
      unfold badE
      by_cases c1 : inR e.1 N.length <;> by_cases c2 : inR e.2.1 N.length <;> by_cases c3 : e.2.2.1 < 0 <;> by_cases c4 : 1099511627776 < e.2.2.1 <;> simp [c1, c2, c3, c4]
    refine Ev2.step opn ?_
    simp only [edF]
    by_cases c1 : badE N.length e
    · simp only [if_pos c1]; exact Ev2.pure _
    · simp only [if_neg c1]
      by_cases c2 : e.1 = e.2.1
      · simp only [if_pos c2]; exact Ev2.pure _
      · simp only [if_neg c2]; exact ih
theorem flt_nodes (N : List Pt) (E : List Ed) (B : List Pt) (hN : N.length ≤ 200) {res : Int × Unit} (hE : Ev (fun k => f42_l3 k k N E B (E.length : Int) 0) res) : ∀ (l pre : List Pt), pre ++ l = N →
    Ev2 (fun k n => f42_l0 k n N E B pre (N.length : Int) (pre.length : Int)) (if nodF pre l = 0 then res else (nodF pre l, ()))
  | [], pre, hpl => by
    subst hpl
    exact Ev2.step (fun k n => by rw [f42_l0, f42_l0_B, if_neg (by simp)]) (by simpa [nodF] using hE.two)
  | p :: l, pre, hpl => by
    have ih := flt_nodes N E B hN hE l (pre ++ [p]) (by simp [← hpl])
    have h0 : (0 : Int) ≤ (pre.length : Int) := by omega
    have h1 : (pre.length : Int) < (N.length : Int) := by rw [← hpl]; simp; omega
    have hg : N.getD ((pre.length : Int)).toNat (0, 0) = p := by rw [← hpl]; exact getD_mid
    have hpp : (p.1, p.2) = p := rfl
    have hw : w64 ((pre.length : Int) + 1) = (((pre ++ [p]).length : Nat) : Int) := by
      rw [w64_id (by omega) (by omega)]; simp
    have opn : ∀ k n, f42_l0 k (n + 1) N E B pre (N.length : Int) (pre.length : Int) = if okP p then (if p ∈ pre then some (5, ()) else f42_l0 k n N E B (pre ++ [p]) (N.length : Int) (((pre ++ [p]).length : Nat) : Int)) else some (1, ()) := fun k n => by
      rw [f42_l0, f42_l0_B, if_pos h1, if_pos h0, if_pos h1, hg]
      simp only [pointOK_eq, Option.bind_some, hw, hpp]
      by_cases c1 : okP p
      · simp only [decide_eq_true c1, not_true_eq_false, if_false, if_pos c1]
      · simp only [decide_eq_false c1, Bool.false_eq_true, not_false_eq_true, if_true, if_neg c1]
    refine Ev2.step opn ?_
    simp only [nodF]
    by_cases c1 : okP p
    · simp only [if_pos c1]
      by_cases c2 : p ∈ pre
      · simp only [if_pos c2]; exact Ev2.pure _
      · simp only [if_neg c2]; exact ih
    · simp only [if_neg c1]; exact Ev2.pure _
theorem flt_ev (n : Nt) : Ev (fun k => f42 k n) (netF n, ()) := by
  obtain ⟨N, E, B⟩ := n
  unfold netF
  simp only [f42, f42_entry_B, f42_r1, f42_r1_B]
  by_cases h1 : 200 < (N.length : Int)
  · rw [if_pos (.inl h1)]; exact Ev.of (fun k => by rw [if_pos h1]; rfl) (Ev.pure _)
  · by_cases h2 : 600 < (E.length : Int)
    · rw [if_pos (.inr (.inl h2))]; exact Ev.of (fun k => by rw [if_neg h1, if_pos h2]; rfl) (Ev.pure _)
    · by_cases h3 : 600 < (B.length : Int)
      · rw [if_pos (.inr (.inr h3))]; exact Ev.of (fun k => by rw [if_neg h1, if_neg h2, decide_eq_true h3]; rfl) (Ev.pure _)
      · rw [if_neg (by omega)]
        have kB := (flt_bans N E B (by omega) B [] rfl).diag
        have kE := (flt_edges N E B (by omega) kB E [] rfl).diag
        have kN := (flt_nodes N E B (by omega) kE N [] rfl).diag
        have e : (if nodF [] N = 0 then (if edF N.length E = 0 then (banF E [] B, ()) else (edF N.length E, ())) else (nodF [] N, ()) : Int × Unit) = (if nodF [] N = 0 then (if edF N.length E = 0 then banF E [] B else edF N.length E) else nodF [] N, ()) := by
          repeat' split
          all_goals rfl
        rw [e] at kN
        exact Ev.of (fun k => by rw [if_neg h1, if_neg h2, decide_eq_false h3]; rfl) kN
end Go.Proofs.Ytpbmlhlpfbcnbaa.Rw

namespace Go.Proofs.Ytpbmlhlpfbcnbaa.Rw
open Go.Rx
set_option linter.unusedVariables false
set_option linter.unusedSimpArgs false
theorem turnOK_loop (a b : Int) : ∀ (l pre : List Pt), ((pre ++ l).length : Int) ≤ 1000000 → Ev2 (fun k n => f111_l0 k n a b (pre ++ l) ((pre ++ l).length : Int) (pre.length : Int)) (decide ((a, b) ∉ l), ())
  | [], pre, hl => Ev2.step (g := fun _ _ => some (true, ())) (fun k n => by rw [f111_l0, f111_l0_B, if_neg (by simp)]) (by simpa using Ev2.pure _)
  | x :: l, pre, hl => by
    have h0 : (0 : Int) ≤ (pre.length : Int) := by omega
    have h1 : (pre.length : Int) < ((pre ++ x :: l).length : Int) := by simp; omega
    have hw : w64 ((pre.length : Int) + 1) = (((pre ++ [x]).length : Nat) : Int) := by
      rw [w64_id (by omega) (by simp at hl; omega)]; simp
    by_cases hx : x.1 = a ∧ x.2 = b
    · refine Ev2.step (g := fun _ _ => some (false, ())) (fun k n => ?_) ?_
      · rw [f111_l0, f111_l0_B, if_pos h1, if_pos h0, if_pos h1, getD_mid]
        simp only [hx.1, hx.2, if_true, decide_true, f111_r6, f111_r6_B]
      · rw [show decide ((a, b) ∉ x :: l) = false from decide_eq_false (fun z => z (by rw [show (a, b) = x by ext <;> simp [hx.1, hx.2]]; simp))]
        exact Ev2.pure _
    · have hne : (a, b) ≠ x := fun z => hx ⟨by rw [← z], by rw [← z]⟩
      have ih := turnOK_loop a b l (pre ++ [x]) (by simpa using hl)
      rw [show pre ++ [x] ++ l = pre ++ x :: l by simp] at ih
      rw [show decide ((a, b) ∉ x :: l) = decide ((a, b) ∉ l) from decide_eq_decide.2 (by simp [hne])]
      refine Ev2.step (fun k n => ?_) ih
      rw [f111_l0, f111_l0_B, if_pos h1, if_pos h0, if_pos h1, getD_mid]
      by_cases g : x.1 = a
      · have g2 : ¬ x.2 = b := fun z => hx ⟨g, z⟩
        simp only [g, g2, if_true, decide_false, f111_r6, f111_r6_B, Bool.false_eq_true, if_false, hw]
      · simp only [g, if_false, f111_r6, f111_r6_B, Bool.false_eq_true, hw]
theorem turnOK_ev (N : List Pt) (E : List Ed) (B : List Pt) (hB : B.length ≤ 1000000) (a b : Int) : Ev (fun k => f111 k (N, (E, B)) a b) (turnF E B a b, ()) := by
  have hloop := (turnOK_loop a b B [] (by simp; omega)).diag
  simp only [f111, f111_entry_B, f111_r1, f111_r1_B, turnF, inR]
  by_cases a0 : a < 0
  · have : ¬ 0 ≤ a := by omega
    simp only [a0, this, if_true, false_and, decide_false]; exact Ev.pure _
  · by_cases b0 : b < 0
    · have : ¬ 0 ≤ b := by omega
      simp only [a0, b0, this, if_false, if_true, false_and, and_false, decide_false]; exact Ev.pure _
    · by_cases a1 : (E.length : Int) ≤ a
      · have : ¬ a < (E.length : Int) := by omega
        simp only [a0, b0, a1, this, if_false, if_true, false_and, and_false, decide_false]; exact Ev.pure _
      · by_cases b1 : (E.length : Int) ≤ b
        · have : ¬ b < (E.length : Int) := by omega
          simp only [a0, b0, a1, b1, this, if_false, if_true, false_and, and_false, decide_false]; exact Ev.pure _
        · have q1 : 0 ≤ a := by omega
          have q2 : a < (E.length : Int) := by omega
          have q3 : 0 ≤ b := by omega
          have q4 : b < (E.length : Int) := by omega
          by_cases c3 : toE E a = fromE E b
          · have c3' : (E.getD a.toNat (0, (0, (0, 0)))).2.1 = (E.getD b.toNat (0, (0, (0, 0)))).1 := c3
            simp only [a0, b0, a1, b1, q1, q2, q3, q4, c3', c3, if_false, if_true, not_true_eq_false, decide_false, Bool.false_eq_true, true_and, and_self]
            exact hloop
          · have c3' : ¬ (E.getD a.toNat (0, (0, (0, 0)))).2.1 = (E.getD b.toNat (0, (0, (0, 0)))).1 := c3
            simp only [a0, b0, a1, b1, q1, q2, q3, q4, c3', c3, if_false, if_true, not_false_eq_true, decide_true, true_and, false_and, decide_false]
            exact Ev.pure _
end Go.Proofs.Ytpbmlhlpfbcnbaa.Rw

namespace Go.Proofs.Ytpbmlhlpfbcnbaa.Rw
open Go.Rx
set_option linter.unusedVariables false
set_option linter.unusedSimpArgs false
/-- Three kinds of rounds around, one within. -/
def Ev4 {α : Type} (f : Nat → Nat → Nat → Nat → Option α) (r : α) : Prop := ∃ K, ∀ k n m p, K ≤ k → K ≤ n → K ≤ m → K ≤ p → f k n m p = some r
theorem Ev4.stepE {α : Type} {f g : Nat → Nat → Nat → Nat → Option α} {r : α} (K : Nat) (h : ∀ k n m p, K ≤ k → f k n m (p + 1) = g k n m p) (hg : Ev4 g r) : Ev4 f r := by
  obtain ⟨K', hK⟩ := hg
  refine ⟨max K K' + 1, fun k n m p hk hn hm hp => ?_⟩
  cases p with
  | zero => omega
  | succ p => rw [h k n m p (by omega)]; exact hK k n m p (by omega) (by omega) (by omega) (by omega)
theorem Ev4.in_ {α : Type} {f : Nat → Nat → Nat → Nat → Option α} {r : α} (h : Ev4 f r) : Ev3 (fun k n m => f k n m k) r := by
  obtain ⟨K, hK⟩ := h; exact ⟨K, fun k n m hk hn hm => hK k n m k hk hn hm hk⟩
theorem _root_.Go.Rx.Ev3.four {α : Type} {f : Nat → Nat → Nat → Option α} {r : α} (h : Ev3 f r) : Ev4 (fun k n m _ => f k n m) r := by
  obtain ⟨K, hK⟩ := h; exact ⟨K, fun k n m p hk hn hm _ => hK k n m hk hn hm⟩
theorem refBefore_ev {E : List Ed} (a b : List Int) (ha : (a.length : Int) ≤ 1073741824) : Ev (fun k => f102 k (cW E a, a) (cW E b, b)) (!decide (wle E b a), ()) := by
  simp only [f102, f102_entry_B]
  by_cases c1 : cW E a = cW E b
  · by_cases c2 : (a.length : Int) = (b.length : Int)
    · refine Ev.of (fun k => by rw [if_neg (fun z => z c1), if_neg (fun z => z c2)]) ?_
      refine (cmp_ev a b ha).bind ?_
      have hf := cmpI_flip a b
      have e : (!decide (wle E b a)) = decide (cmpI a b < 0) := by
        rw [← decide_not]
        refine decide_eq_decide.2 ?_
        unfold wle
        omega
      rw [e]
      exact Ev.pure _
    · refine Ev.of (fun k => by rw [if_neg (fun z => z c1), if_pos c2]) ?_
      have e : (!decide (wle E b a)) = decide ((a.length : Int) < (b.length : Int)) := by
        rw [← decide_not]
        refine decide_eq_decide.2 ?_
        unfold wle
        omega
      rw [e]
      exact Ev.pure _
  · refine Ev.of (fun k => by rw [if_pos c1]) ?_
    have e : (!decide (wle E b a)) = decide (cW E a < cW E b) := by
      rw [← decide_not]
      refine decide_eq_decide.2 ?_
      unfold wle
      omega
    rw [e]
    exact Ev.pure _
/-- The row of the program. -/
abbrev rowE (E : List Ed) (W : List (List Int)) : List (Int × List Int) := W.map (fun w => (cW E w, w))
theorem rowE_at (E : List Ed) (W : List (List Int)) (i : Nat) : (rowE E W).getD i (0, []) = (cW E (W.getD i []), W.getD i []) := by
  unfold rowE
  rw [List.getD_eq_getElem?_getD, List.getD_eq_getElem?_getD, List.getElem?_map]
  cases W[i]? with
  | none => rfl
  | some w => rfl
theorem rowE_set (E : List Ed) (W : List (List Int)) (i : Nat) (w : List Int) : (rowE E W).set i (cW E w, w) = rowE E (W.set i w) := by
  unfold rowE
  rw [List.map_set]
/-- What is known within a pass over all pairs of edges. -/
def PI (E : List Ed) (B : List Pt) (W0 W : List (List Int)) (fl : Bool) (a b : Nat) : Prop :=
  (fl = true ∧ mu E W < mu E W0) ∨ (fl = false ∧ W = W0 ∧ ∀ a' b', a' < E.length → b' < E.length → a' < a ∨ (a' = a ∧ b' < b) → Cl E B W0 a' b')
theorem PI.skip {E : List Ed} {B : List Pt} {W0 W : List (List Int)} {fl : Bool} {a b : Nat} (h : PI E B W0 W fl a b) (hc : Cl E B W a b) : PI E B W0 W fl a (b + 1) := by
  rcases h with h | ⟨h1, h2, h3⟩
  · exact .inl h
  · refine .inr ⟨h1, h2, fun a' b' ha hb h => ?_⟩
    by_cases e : a' = a ∧ b' = b
    · rw [e.1, e.2, ← h2]; exact hc
    · exact h3 a' b' ha hb (by omega)
theorem PI.next {E : List Ed} {B : List Pt} {W0 W : List (List Int)} {fl : Bool} {a : Nat} (h : PI E B W0 W fl a E.length) : PI E B W0 W fl (a + 1) 0 := by
  rcases h with h | ⟨h1, h2, h3⟩
  · exact .inl h
  · exact .inr ⟨h1, h2, fun a' b' ha hb h => h3 a' b' ha hb (by omega)⟩
theorem PI.moved {E : List Ed} {B : List Pt} {W0 W W' : List (List Int)} {fl : Bool} {a b a' b' : Nat} (h : PI E B W0 W fl a b) (hm : mu E W' < mu E W) : PI E B W0 W' true a' b' := by
  rcases h with h | ⟨h1, h2, h3⟩
  · exact .inl ⟨rfl, by omega⟩
  · exact .inl ⟨rfl, by rw [← h2]; exact hm⟩
theorem dec_b (b : Bool) : decide (b = true) = b := by cases b <;> rfl
section
variable {N B : List Pt} {E : List Ed} {s : Int} {res : (List (Int × List Int)) × Unit}
theorem ways_b (hE : E.length ≤ 600) (hB : B.length ≤ 1000000) (hC : CostOK E) {W0 : List (List Int)} {a : Nat} (ha : a < E.length)
    (hc : ∀ W' fl', WI E B s W' → PI E B W0 W' fl' (a + 1) 0 → Ev3 (fun k n m => f48_l4 k (f48_l2 k n) m (rowE E W') N E B (E.length : Int) ((a + 1 : Nat) : Int) fl') res) :
    ∀ (d b : Nat) (W : List (List Int)) (fl : Bool), b + d = E.length → WI E B s W → PI E B W0 W fl a b →
    Ev4 (fun k n m p => f48_l6 k (f48_l4 k (f48_l2 k n) m) (f48_l2 k n) p (rowE E W) N E B (E.length : Int) (a : Int) (E.length : Int) (b : Int) fl) res
  | 0, b, W, fl, hd, hW, hP => by
    have e : b = E.length := by omega
    subst e
    refine Ev4.stepE 0 (fun k n m p _ => ?_) (hc W fl hW hP.next).four
    rw [f48_l6, f48_l6_B, if_neg (by omega), w64_id (by omega) (by omega), dec_b]
    rfl
  | d + 1, b, W, fl, hd, hW, hP => by
    have hb : b < E.length := by omega
    have b0 : (0 : Int) ≤ (b : Int) := by omega
    have b1 : (b : Int) < (E.length : Int) := by omega
    have a0 : (0 : Int) ≤ (a : Int) := by omega
    have hl : (rowE E W).length = E.length := by rw [List.length_map]; exact hW.len
    have a1 : (a : Int) < ((rowE E W).length : Int) := by omega
    have b2 : (b : Int) < ((rowE E W).length : Int) := by omega
    have hw : w64 ((b : Int) + 1) = ((b + 1 : Nat) : Int) := by rw [w64_id (by omega) (by omega)]; omega
    have hbW : b < W.length := by rw [hW.len]; exact hb
    have b7 : ∀ k r4 r2 r6 Y f, f48_b7 k r6 r4 r2 Y N E B (E.length : Int) (a : Int) (E.length : Int) (b : Int) f = r6 Y N E B (E.length : Int) (a : Int) (E.length : Int) ((b + 1 : Nat) : Int) f := fun k r4 r2 r6 Y f => by
      rw [f48_b7, f48_b7_B, hw, dec_b]
    have pre : ∀ k r4 r2 p, f48_l6 k r4 r2 (p + 1) (rowE E W) N E B (E.length : Int) (a : Int) (E.length : Int) (b : Int) fl = (if ((W.getD a []).length : Int) = 0 then f48_r17 k (f48_l6 k r4 r2 p) r4 r2 ((E.getD b zE).1) ((E.getD b zE).2.1) (costE E (b : Int)) ((E.getD b zE).2.2.2) (rowE E W) N E B (b : Int) (E.length : Int) (a : Int) (E.length : Int) true fl else (f111 k (N, (E, B)) (a : Int) (b : Int)).bind fun r1 => f48_r17 k (f48_l6 k r4 r2 p) r4 r2 ((E.getD b zE).1) ((E.getD b zE).2.1) (costE E (b : Int)) ((E.getD b zE).2.2.2) (rowE E W) N E B (b : Int) (E.length : Int) (a : Int) (E.length : Int) (decide (¬ (r1.1 = true))) fl) := fun k r4 r2 p => by
      rw [f48_l6, f48_l6_B, if_pos b1, if_pos b0, if_pos b1, if_pos a0, if_pos a1]
      simp only [Int.toNat_natCast, rowE_at, dec_b]
      rfl
    by_cases c1 : W.getD a [] = []
    · have ih := ways_b hE hB hC ha hc d (b + 1) W fl (by omega) hW (hP.skip (fun z => absurd c1 z))
      refine Ev4.stepE 0 (fun k n m p _ => ?_) ih
      rw [pre, if_pos (by rw [c1]; rfl), f48_r17, f48_r17_B, if_pos rfl, dec_b, b7]
    · have hne : ¬ ((W.getD a []).length : Int) = 0 := fun z => c1 (List.length_eq_zero_iff.1 (by omega))
      obtain ⟨K, hK⟩ := turnOK_ev N E B hB (a : Int) (b : Int)
      by_cases c2 : Goes E B (a : Int) (b : Int)
      · have ht : turnF E B (a : Int) (b : Int) = true := decide_eq_true ⟨⟨a0, by omega⟩, c2⟩
        rw [ht] at hK
        have hca := hW.sz a ha
        have hcm := hW.mem a ha
        have hc0 := cW_nn (fun k hk => (hC k hk).1) hcm
        have hc1 := cW_le (E := E) (M := 1099511627776) (by omega) (fun k hk => (hC k hk).2) _ hcm
        have hcb := hC (b : Int) ⟨b0, b1⟩
        have hsum : w64 (cW E (W.getD a []) + costE E (b : Int)) = cW E (W.getD a [] ++ [(b : Int)]) := by
          rw [w64_id (by omega) (by omega), cW_app, cW_one]
        -- the two ends
        have r19t : ∀ k r4 r2 r6, f48_r19 k r6 r4 r2 (cW E (W.getD a [] ++ [(b : Int)])) (rowE E W) N E B (W.getD a [] ++ [(b : Int)]) (b : Int) (E.length : Int) (a : Int) (E.length : Int) fl true = r6 (rowE E (W.set b (W.getD a [] ++ [(b : Int)]))) N E B (E.length : Int) (a : Int) (E.length : Int) ((b + 1 : Nat) : Int) true := fun k r4 r2 r6 => by
          rw [f48_r19, f48_r19_B, if_pos rfl, if_pos b0, if_pos b2, f48_c20, f48_c20_B, b7, Int.toNat_natCast, rowE_set]
          rfl
        have r19f : ∀ k r4 r2 r6, f48_r19 k r6 r4 r2 (cW E (W.getD a [] ++ [(b : Int)])) (rowE E W) N E B (W.getD a [] ++ [(b : Int)]) (b : Int) (E.length : Int) (a : Int) (E.length : Int) fl false = r6 (rowE E W) N E B (E.length : Int) (a : Int) (E.length : Int) ((b + 1 : Nat) : Int) fl := fun k r4 r2 r6 => by
          rw [f48_r19, f48_r19_B, if_neg (by simp), f48_c20, f48_c20_B, b7, dec_b, dec_b]
        have r17 : ∀ k r4 r2 r6, f48_r17 k r6 r4 r2 ((E.getD b zE).1) ((E.getD b zE).2.1) (costE E (b : Int)) ((E.getD b zE).2.2.2) (rowE E W) N E B (b : Int) (E.length : Int) (a : Int) (E.length : Int) false fl = (if ((W.getD b []).length : Int) = 0 then f48_r19 k r6 r4 r2 (cW E (W.getD a [] ++ [(b : Int)])) (rowE E W) N E B (W.getD a [] ++ [(b : Int)]) (b : Int) (E.length : Int) (a : Int) (E.length : Int) fl true else (f102 k (cW E (W.getD a [] ++ [(b : Int)]), W.getD a [] ++ [(b : Int)]) (cW E (W.getD b []), W.getD b [])).bind fun r2_ => f48_r19 k r6 r4 r2 (cW E (W.getD a [] ++ [(b : Int)])) (rowE E W) N E B (W.getD a [] ++ [(b : Int)]) (b : Int) (E.length : Int) (a : Int) (E.length : Int) fl r2_.1) := fun k r4 r2 r6 => by
          rw [f48_r17, f48_r17_B, if_neg (by simp), if_pos a0, if_pos a1, if_pos a0, if_pos a1]
          simp only [Int.toNat_natCast, rowE_at, dec_b, hsum]
          rw [clone_eq k (W.getD a []) (by omega), Option.bind_some, if_pos (show ((W.getD a []).length + 1) * 8 ≤ 140737488355328 by omega), if_pos b0, if_pos b2, if_pos b0, if_pos b2]
        by_cases c3 : W.getD b [] = []
        · have ih := ways_b hE hB hC ha hc d (b + 1) _ true (by omega) (hW.set (fun k hk => (hC k hk).1) ha hb c1 c2 (.inl c3)) (hP.moved (hW.less hC ha hb c1 c2 (.inl c3)))
          refine Ev4.stepE K (fun k n m p hk => ?_) ih
          have hk' := hK k hk
          simp only at hk'
          rw [pre, if_neg hne, hk', Option.bind_some, dec_not_f rfl, r17, if_pos (by rw [c3]; rfl), r19t]
        · have hne3 : ¬ ((W.getD b []).length : Int) = 0 := fun z => c3 (List.length_eq_zero_iff.1 (by omega))
          obtain ⟨K2, hK2⟩ := refBefore_ev (E := E) (W.getD a [] ++ [(b : Int)]) (W.getD b []) (by rw [List.length_append]; simp only [List.length_singleton]; omega)
          by_cases c4 : wle E (W.getD b []) (W.getD a [] ++ [(b : Int)])
          · have ih := ways_b hE hB hC ha hc d (b + 1) W fl (by omega) hW (hP.skip (fun _ _ => ⟨c3, c4⟩))
            refine Ev4.stepE (max K K2) (fun k n m p hk => ?_) ih
            have hk' := hK k (by omega)
            have hk2 := hK2 k (by omega)
            simp only at hk' hk2
            rw [pre, if_neg hne, hk', Option.bind_some, dec_not_f rfl, r17, if_neg hne3, hk2, Option.bind_some, decide_eq_true c4, Bool.not_true, r19f]
          · have ih := ways_b hE hB hC ha hc d (b + 1) _ true (by omega) (hW.set (fun k hk => (hC k hk).1) ha hb c1 c2 (.inr c4)) (hP.moved (hW.less hC ha hb c1 c2 (.inr c4)))
            refine Ev4.stepE (max K K2) (fun k n m p hk => ?_) ih
            have hk' := hK k (by omega)
            have hk2 := hK2 k (by omega)
            simp only at hk' hk2
            rw [pre, if_neg hne, hk', Option.bind_some, dec_not_f rfl, r17, if_neg hne3, hk2, Option.bind_some, decide_eq_false c4, Bool.not_false, r19t]
      · have ht : turnF E B (a : Int) (b : Int) = false := decide_eq_false (fun z => c2 z.2)
        rw [ht] at hK
        have ih := ways_b hE hB hC ha hc d (b + 1) W fl (by omega) hW (hP.skip (fun _ z => absurd z c2))
        refine Ev4.stepE K (fun k n m p hk => ?_) ih
        have hk' := hK k hk
        simp only at hk'
        rw [pre, if_neg hne, hk', Option.bind_some, dec_not_t (by simp), f48_r17, f48_r17_B, if_pos rfl, dec_b, b7]
theorem ways_a (hE : E.length ≤ 600) (hB : B.length ≤ 1000000) (hC : CostOK E) {W0 : List (List Int)}
    (hc : ∀ W' fl', WI E B s W' → PI E B W0 W' fl' E.length 0 → Ev2 (fun k n => f48_l2 k n (rowE E W') N E B fl') res) :
    ∀ (d a : Nat) (W : List (List Int)) (fl : Bool), a + d = E.length → WI E B s W → PI E B W0 W fl a 0 →
    Ev3 (fun k n m => f48_l4 k (f48_l2 k n) m (rowE E W) N E B (E.length : Int) (a : Int) fl) res
  | 0, a, W, fl, hd, hW, hP => by
    have e : a = E.length := by omega
    subst e
    refine Ev3.step (g := fun k n _ => f48_l2 k n (rowE E W) N E B fl) (fun k n m => ?_) (hc W fl hW hP).three
    rw [f48_l4, f48_l4_B, if_neg (by omega), dec_b]
  | d + 1, a, W, fl, hd, hW, hP => by
    have := (ways_b (N := N) (res := res) hE hB hC (W0 := W0) (a := a) (by omega) (fun W' fl' h1 h2 => ways_a hE hB hC hc d (a + 1) W' fl' (by omega) h1 h2) E.length 0 W fl (by omega) hW hP).in_
    refine Ev3.step (fun k n m => ?_) this
    rw [f48_l4, f48_l4_B, if_pos (by omega), dec_b]
    rfl
theorem ways_l2 (hE : E.length ≤ 600) (hB : B.length ≤ 1000000) (hC : CostOK E) {Wo : List (List Int)} (ho : Opt E B s Wo) : ∀ (d : Nat) (W : List (List Int)), mu E W < d → WI E B s W →
    Ev2 (fun k n => f48_l2 k n (rowE E W) N E B true) (rowE E Wo, ())
  | 0, W, hd, hW => by omega
  | d + 1, W, hd, hW => by
    have := (ways_a (N := N) (res := (rowE E Wo, ())) hE hB hC (W0 := W) (fun W' fl' h1 h2 => by
      rcases h2 with ⟨h2, h3⟩ | ⟨h2, h3, h4⟩
      · rw [h2]
        exact ways_l2 hE hB hC ho d W' (by omega) h1
      · rw [h2, h3]
        have e : W = Wo := (hW.opt (fun a b ha hb => h4 a b ha hb (.inl ha))).one ho
        rw [e]
        refine Ev2.step (g := fun _ _ => some (rowE E Wo, ())) (fun k n => ?_) (Ev2.pure _)
        rw [f48_l2, f48_l2_B, if_neg (by simp)]) E.length 0 W false (by omega) hW (.inr ⟨rfl, rfl, fun a' b' _ _ h => by omega⟩)).in_
    refine Ev2.step (fun k n => ?_) this
    rw [f48_l2, f48_l2_B, if_pos rfl]
    rfl
theorem ways_l0 (hE : E.length ≤ 600) (hB : B.length ≤ 1000000) (hC : CostOK E) {Wo : List (List Int)} (ho : Opt E B s Wo) : ∀ (d i : Nat) (W : List (List Int)), i + d = E.length → W.length = E.length → (∀ j, j < E.length → W.getD j [] = if j < i ∧ fromE E (j : Int) = s then [(j : Int)] else []) →
    Ev2 (fun k n => f48_l0 k n (rowE E W) N E B s (E.length : Int) (i : Int)) (rowE E Wo, ())
  | 0, i, W, hd, hl, hW => by
    have e : i = E.length := by omega
    subst e
    have hWI : WI E B s W := by
      refine ⟨hl, fun j hj hn => ?_, fun j hj p x q e => ?_, fun j hj hs => ?_⟩
      · have := hW j hj
        by_cases c : fromE E (j : Int) = s
        · rw [if_pos ⟨hj, c⟩] at this
          rw [this]
          exact ⟨.one _ ⟨by omega, by omega⟩ c, by simp⟩
        · rw [if_neg (fun z => c z.2)] at this
          exact absurd this hn
      · have h := hW j hj
        by_cases c : fromE E (j : Int) = s
        · rw [if_pos ⟨hj, c⟩] at h
          rw [h] at e
          obtain ⟨rfl, rfl, rfl⟩ : p = [] ∧ x = (j : Int) ∧ q = [] := by
            cases p with
            | nil => simp at e; exact ⟨rfl, e.1.symm, e.2⟩
            | cons y p => simp at e
          rw [Int.toNat_natCast, h]
          exact ⟨by simp, wle_refl _ _⟩
        · rw [if_neg (fun z => c z.2)] at h
          rw [h] at e
          simp at e
      · rw [hW j hj, if_pos ⟨hj, hs⟩]
        exact ⟨by simp, wle_refl _ _⟩
    refine Ev2.step (fun k n => ?_) (ways_l2 (N := N) hE hB hC ho (mu E W + 1) W (by omega) hWI).diag.two
    rw [f48_l0, f48_l0_B, if_neg (by omega)]
  | d + 1, i, W, hd, hl, hW => by
    have hi : i < E.length := by omega
    have i0 : (0 : Int) ≤ (i : Int) := by omega
    have i1 : (i : Int) < (E.length : Int) := by omega
    have i2 : (i : Int) < ((rowE E W).length : Int) := by rw [List.length_map]; omega
    have hw : w64 ((i : Int) + 1) = ((i + 1 : Nat) : Int) := by rw [w64_id (by omega) (by omega)]; omega
    have hf : (E.getD ((i : Int)).toNat (0, (0, (0, 0)))).1 = fromE E (i : Int) := rfl
    have hc : (E.getD ((i : Int)).toNat (0, (0, (0, 0)))).2.2.1 = cW E [(i : Int)] := by rw [cW_one]; rfl
    by_cases c : fromE E (i : Int) = s
    · have ih := ways_l0 hE hB hC ho d (i + 1) (W.set i [(i : Int)]) (by omega) (by simpa using hl) (fun j hj => by
        rw [gsetN]
        by_cases e : i = j
        · subst e; rw [if_pos ⟨rfl, by omega⟩, if_pos ⟨by omega, c⟩]
        · rw [if_neg (fun z => e z.1), hW j hj]
          by_cases e2 : j < i ∧ fromE E (j : Int) = s
          · rw [if_pos e2, if_pos ⟨by omega, e2.2⟩]
          · rw [if_neg e2, if_neg (fun z => e2 ⟨by omega, z.2⟩)])
      refine Ev2.step (fun k n => ?_) ih
      rw [f48_l0, f48_l0_B, if_pos i1, if_pos i0, if_pos i1, hf, if_pos c, if_pos i0, if_pos i2, hc, Int.toNat_natCast, rowE_set, f48_c6, f48_c6_B, hw]
    · have ih := ways_l0 hE hB hC ho d (i + 1) W (by omega) hl (fun j hj => by
        rw [hW j hj]
        by_cases e2 : j < i ∧ fromE E (j : Int) = s
        · rw [if_pos e2, if_pos ⟨by omega, e2.2⟩]
        · rw [if_neg e2, if_neg (fun z => e2 ⟨by
            by_cases e : j = i
            · subst e; exact absurd z.2 c
            · omega, z.2⟩)])
      refine Ev2.step (fun k n => ?_) ih
      rw [f48_l0, f48_l0_B, if_pos i1, if_pos i0, if_pos i1, hf, if_neg c, f48_c6, f48_c6_B, hw]
end
theorem ways_ev {N B : List Pt} {E : List Ed} {s : Int} (hv : netF (N, (E, B)) = 0) {Wo : List (List Int)} (ho : Opt E B s Wo) : Ev (fun k => f48 k (N, (E, B)) s) (rowE E Wo, ()) := by
  have hV := netV_of hv
  have hE := hV.n2
  have := (ways_l0 (N := N) hE (by have := hV.n3; omega) hV.cost ho E.length 0 (List.replicate E.length []) (by omega) (by simp) (fun j hj => by
    rw [if_neg (fun z => by omega), List.getD_eq_getElem?_getD, List.getElem?_replicate]; split <;> rfl)).diag
  refine Ev.of (fun k => ?_) this
  rw [f48, f48_entry_B, if_pos (show (0 : Int) ≤ (E.length : Int) by omega), if_pos (show (E.length : Int) ≤ 1073741824 by omega), Int.toNat_natCast]
  congr 1
  unfold rowE
  rw [List.map_replicate]
  rfl
end Go.Proofs.Ytpbmlhlpfbcnbaa.Rw

namespace Go.Proofs.Ytpbmlhlpfbcnbaa.Rw
open Go.Rx
set_option linter.unusedVariables false
set_option linter.unusedSimpArgs false
theorem equal_loop : ∀ (x p : List Int), (p ++ x).length ≤ 1073741824 → Ev2 (fun k n => f20_l0 k n (p ++ x) (p ++ x) ((p ++ x).length : Int) (p.length : Int)) (true, ())
  | [], p, hl => Ev2.step (g := fun _ _ => some (true, ())) (fun k n => by rw [f20_l0, f20_l0_B, if_neg (by simp)]) (Ev2.pure _)
  | a :: x, p, hl => by
    have h0 : (0 : Int) ≤ (p.length : Int) := by omega
    have h1 : (p.length : Int) < ((p ++ a :: x).length : Int) := by simp; omega
    have hw : w64 ((p.length : Int) + 1) = (((p ++ [a]).length : Nat) : Int) := by
      rw [w64_id (by omega) (by simp at hl; omega)]; simp
    have ih := equal_loop x (p ++ [a]) (by simpa using hl)
    rw [show p ++ [a] ++ x = p ++ a :: x by simp] at ih
    refine Ev2.step (fun k n => ?_) ih
    rw [f20_l0, f20_l0_B, if_pos h1, if_pos h0, if_pos h1, if_pos h0, if_pos h1, if_neg (by simp), hw]
theorem equal_ev (l : List Int) (hl : l.length ≤ 1073741824) : Ev (fun k => f20 k l l) (true, ()) := by
  have h := (equal_loop l [] (by simpa using hl)).diag
  refine Ev.of (fun k => ?_) h
  simp only [f20, f20_entry_B, not_true_eq_false, if_false]
  rfl
end Go.Proofs.Ytpbmlhlpfbcnbaa.Rw

namespace Go.Proofs.Ytpbmlhlpfbcnbaa.Rw
open Go.Rx
set_option linter.unusedVariables false
set_option linter.unusedSimpArgs false
/-- The first one of the first ways that end with some edges. -/
def FirstW (E : List Ed) (W : List (List Int)) (ks : List Int) (u : Int) : Prop :=
  (u = -1 ∧ ∀ k ∈ ks, W.getD k.toNat [] = []) ∨ (0 ≤ u ∧ u ∈ ks ∧ W.getD u.toNat [] ≠ [] ∧ ∀ k ∈ ks, W.getD k.toNat [] ≠ [] → wle E (W.getD u.toNat []) (W.getD k.toNat []))
theorem find_loop {N B : List Pt} {E : List Ed} {s : Int} {l : List Lb} {W nx : List (List Int)} (hE : E.length ≤ 600) (h : Lab E B s l W) {L : List Int} (hL : L.length ≤ 600) (hin : ∀ k ∈ L, inR k E.length) : ∀ (rest pre : List Int) (u : Int), pre ++ rest = L → FirstW E W pre u →
    ∃ v, FirstW E W L v ∧ Ev2 (fun k n => f33_l0 k n N E B nx L l u (L.length : Int) (pre.length : Int)) (if v < 0 then (([] : List Int), (0 : Int), (17 : Int), ()) else (W.getD v.toNat [], cW E (W.getD v.toNat []), 0, ()))
  | [], pre, u, hpl, hu => by
    have e : pre = L := by simpa using hpl
    subst e
    refine ⟨u, hu, ?_⟩
    have step : ∀ k n, f33_l0 k (n + 1) N E B nx pre l u (pre.length : Int) (pre.length : Int) = if u < 0 then some ([], 0, 17, ()) else ((f101 k ((N, (E, B)), (l, nx)) u).bind fun r2 => (if 0 ≤ u then (if u < (l.length : Int) then some (r2.1, (l.getD (u.toNat) (0, (0, (0, (false, false))))).1, 0, ()) else none) else none)) := fun k n => by
      rw [f33_l0, f33_l0_B, if_neg (by omega)]
    refine Ev2.step step ?_
    rcases hu with ⟨rfl, _⟩ | ⟨u0, um, uw, _⟩
    · simp only [show ((-1 : Int) < 0) from by decide, if_true]; exact Ev2.pure _
    · have hr := hin u um
      have hun : u.toNat < E.length := by have := hr.1; have := hr.2; omega
      have eu : ((u.toNat : Nat) : Int) = u := by omega
      have h0 : ¬ u < 0 := by omega
      simp only [if_neg h0]
      have hw := way_ev (N := N) (nx := nx) hE h hun uw
      rw [eu] at hw
      have h1 : u < (l.length : Int) := by rw [h.l1]; exact hr.2
      refine (hw.bind ?_).two
      simp only [if_pos u0, if_pos h1]
      have hc : (l.getD u.toNat (0, (0, (0, (false, false))))).1 = cW E (W.getD u.toNat []) := (h.kn u.toNat hun uw).2.1
      rw [hc]
      exact Ev.pure _
  | x :: rest, pre, u, hpl, hu => by
    have i0 : (0 : Int) ≤ (pre.length : Int) := by omega
    have hlt : pre.length < L.length := by rw [← hpl]; simp
    have i1 : (pre.length : Int) < (L.length : Int) := by omega
    have hg : L.getD ((pre.length : Int)).toNat 0 = x := by rw [← hpl]; exact getD_mid
    have hw : w64 ((pre.length : Int) + 1) = (((pre ++ [x]).length : Nat) : Int) := by
      rw [w64_id (by omega) (by omega)]; simp
    have hx := hin x (by rw [← hpl]; simp)
    have hxn : x.toNat < E.length := by have := hx.1; have := hx.2; omega
    have ex : ((x.toNat : Nat) : Int) = x := by have := hx.1; omega
    have hx1 : x < (l.length : Int) := by rw [h.l1]; exact hx.2
    have hkn : (l.getD x.toNat (0, (0, (0, (false, false))))).2.2.2.1 = knL l x.toNat := rfl
    have pre1 : ∀ k n, f33_l0 k (n + 1) N E B nx L l u (L.length : Int) (pre.length : Int) = if knL l x.toNat = true then (if u < 0 then f33_r12 k (f33_l0 k n) N E B nx L l u x (L.length : Int) (pre.length : Int) true else (f100 k ((N, (E, B)), (l, nx)) x u).bind fun r1 => f33_r12 k (f33_l0 k n) N E B nx L l u x (L.length : Int) (pre.length : Int) (decide (r1.1 = true))) else f33_r12 k (f33_l0 k n) N E B nx L l u x (L.length : Int) (pre.length : Int) false := fun k n => by
      rw [f33_l0, f33_l0_B, if_pos i1, if_pos i0, if_pos i1, hg, if_pos hx.1, if_pos hx1, hkn]
    have rt : ∀ k r, f33_r12 k r N E B nx L l u x (L.length : Int) (pre.length : Int) true = r N E B nx L l x (L.length : Int) (((pre ++ [x]).length : Nat) : Int) := fun k r => by
      rw [f33_r12, f33_r12_B, if_pos rfl, f33_c13, f33_c13_B, hw]
    have rf : ∀ k r, f33_r12 k r N E B nx L l u x (L.length : Int) (pre.length : Int) false = r N E B nx L l u (L.length : Int) (((pre ++ [x]).length : Nat) : Int) := fun k r => by
      rw [f33_r12, f33_r12_B, if_neg (by simp), f33_c13, f33_c13_B, hw]
    have mem : ∀ k, k ∈ pre ++ [x] ↔ k ∈ pre ∨ k = x := fun k => by simp
    by_cases c : W.getD x.toNat [] = []
    · obtain ⟨v, v1, v2⟩ := find_loop (N := N) (nx := nx) hE h hL hin rest (pre ++ [x]) u (by simp [← hpl]) (by
        rcases hu with ⟨e, hu⟩ | ⟨u0, um, uw, hu⟩
        · refine .inl ⟨e, fun k hk => ?_⟩
          rcases (mem k).1 hk with hk | rfl
          · exact hu k hk
          · exact c
        · refine .inr ⟨u0, (mem u).2 (.inl um), uw, fun k hk hkw => ?_⟩
          rcases (mem k).1 hk with hk | rfl
          · exact hu k hk hkw
          · exact (hkw c).elim)
      refine ⟨v, v1, Ev2.step (fun k n => ?_) v2⟩
      rw [pre1, (h.un _ hxn c).1, if_neg (by simp), rf]
    · have hk1 := (h.kn _ hxn c).1
      rcases hu with ⟨rfl, hu⟩ | ⟨u0, um, uw, hu⟩
      · obtain ⟨v, v1, v2⟩ := find_loop (N := N) (nx := nx) hE h hL hin rest (pre ++ [x]) x (by simp [← hpl]) (.inr ⟨hx.1, (mem x).2 (.inr rfl), c, fun k hk hkw => by
          rcases (mem k).1 hk with hk | rfl
          · exact (hkw (hu k hk)).elim
          · exact wle_refl E _⟩)
        refine ⟨v, v1, Ev2.step (fun k n => ?_) v2⟩
        rw [pre1, hk1, if_pos rfl, if_pos (by decide), rt]
      · have hur := hin u (by rw [← hpl]; exact List.mem_append_left _ um)
        have hun : u.toNat < E.length := by have := hur.1; have := hur.2; omega
        have eu : ((u.toNat : Nat) : Int) = u := by omega
        obtain ⟨K, hK⟩ := before_ev (N := N) (nx := nx) hE h (i := x.toNat) (j := u.toNat) hxn c hun uw
        rw [ex, eu] at hK
        by_cases g : wle E (W.getD u.toNat []) (W.getD x.toNat [])
        · obtain ⟨v, v1, v2⟩ := find_loop (N := N) (nx := nx) hE h hL hin rest (pre ++ [x]) u (by simp [← hpl]) (.inr ⟨u0, (mem u).2 (.inl um), uw, fun k hk hkw => by
            rcases (mem k).1 hk with hk | rfl
            · exact hu k hk hkw
            · exact g⟩)
          refine ⟨v, v1, Ev2.stepE K (fun k n hk => ?_) v2⟩
          have hk' := hK k hk
          simp only at hk'
          rw [pre1, hk1, if_pos rfl, if_neg (by omega), hk', Option.bind_some]
          simp only [g, not_true_eq_false, decide_false, Bool.false_eq_true]
          exact rf k _
        · obtain ⟨v, v1, v2⟩ := find_loop (N := N) (nx := nx) hE h hL hin rest (pre ++ [x]) x (by simp [← hpl]) (.inr ⟨hx.1, (mem x).2 (.inr rfl), c, fun k hk hkw => by
            rcases (mem k).1 hk with hk | rfl
            · exact wle_trans ((wle_total E _ _).resolve_left g) (hu k hk hkw)
            · exact wle_refl E _⟩)
          refine ⟨v, v1, Ev2.stepE K (fun k n hk => ?_) v2⟩
          have hk' := hK k hk
          simp only at hk'
          rw [pre1, hk1, if_pos rfl, if_neg (by omega), hk', Option.bind_some]
          simp only [g, not_false_eq_true, decide_true]
          exact rt k _
theorem find_ev {N : List Pt} {E : List Ed} {B : List Pt} (hv : netF (N, (E, B)) = 0) {s t : Int} (hs : inR s N.length) (ht : inR t N.length) (hst : s ≠ t) :
    ∃ W v, Opt E B s W ∧ FirstW E W (inL t 0 E) v ∧ (∀ i, i < E.length → W.getD i [] ≠ [] → (W.getD i []).length ≤ E.length) ∧ Ev (fun k => f33 k (N, (E, B)) s t) (if v < 0 then (([] : List Int), (0 : Int), (17 : Int), ()) else (W.getD v.toNat [], cW E (W.getD v.toNat []), 0, ())) := by
  have hV := netV_of hv
  have hE := hV.n2
  obtain ⟨nx, n1, n2⟩ := start_ev N (E := E) (B := B) hV.n2 (by have := hV.n3; omega)
  obtain ⟨lf, W, z1, z2, z3⟩ := run_ev (N := N) (B := B) s hV.n2 hV.cost n1
  have hlen := inL_len t E 0
  obtain ⟨v, v1, v2⟩ := find_loop (N := N) (nx := nx) hE z1 (L := inL t 0 E) (by omega) (fun k hk => (inE_mem.1 hk).1) (inL t 0 E) [] (-1) rfl (.inl ⟨rfl, fun k hk => by cases hk⟩)
  refine ⟨W, v, z2, v1, fun i hi hw => z1.size hi hw, ?_⟩
  simp only [f33, f33_entry_B]
  refine (valid_ev (N, (E, B)) [s, t] (by simp)).bind ?_
  have hvl : vldF (N, (E, B)) [s, t] = 0 := by unfold vldF; rw [if_pos hv, if_pos (by intro x hx; simp at hx; rcases hx with rfl | rfl <;> assumption)]
  simp only [hvl, not_true_eq_false, if_false, if_neg hst]
  exact n2.bind (z3.bind ((inX_ev N E B t hE).bind v2.diag))
theorem find_same {N : List Pt} {E : List Ed} {B : List Pt} (hv : netF (N, (E, B)) = 0) {s : Int} (hs : inR s N.length) :
    Ev (fun k => f33 k (N, (E, B)) s s) (([] : List Int), (0 : Int), (0 : Int), ()) := by
  simp only [f33, f33_entry_B]
  refine (valid_ev (N, (E, B)) [s, s] (by simp)).bind ?_
  have hvl : vldF (N, (E, B)) [s, s] = 0 := by unfold vldF; rw [if_pos hv, if_pos (by intro x hx; simp at hx; subst hx; exact hs)]
  simp only [hvl, not_true_eq_false, if_false, if_true]
  exact Ev.pure _
end Go.Proofs.Ytpbmlhlpfbcnbaa.Rw

namespace Go.Proofs.Ytpbmlhlpfbcnbaa.Rw
open Go.Rx
set_option linter.unusedVariables false
set_option linter.unusedSimpArgs false
theorem routedL_true (j : Nat) : f36 (j + 60) = some (true, ()) := by kernel_rfl
theorem nodes_loop4 {N B : List Pt} {E : List Ed} (hN : netF (N, (E, B)) = 0 → N.length ≤ 1000) : ∀ (rest pre L : List Int) (f : Int), pre ++ rest = L → L.length ≤ 1000 → f = (if netF (N, (E, B)) = 0 then (if ∀ x ∈ pre, inR x N.length then 0 else 1) else netF (N, (E, B))) →
    Ev2 (fun k n => f34_l0 k n N E B L (L.length : Int) (pre.length : Int) f) (vldF (N, (E, B)) L, ())
  | [], pre, L, f, hpl, hL, hf => by
    have e : pre = L := by simpa using hpl
    subst e
    refine Ev2.step (g := fun _ _ => some (f, ())) (fun k n => ?_) (by rw [hf]; exact Ev2.pure _)
    rw [f34_l0, f34_l0_B, if_neg (by omega)]
  | x :: rest, pre, L, f, hpl, hL, hf => by
    have i0 : (0 : Int) ≤ (pre.length : Int) := by omega
    have hlt : pre.length < L.length := by rw [← hpl]; simp
    have i1 : (pre.length : Int) < (L.length : Int) := by omega
    have hg : L.getD ((pre.length : Int)).toNat 0 = x := by rw [← hpl]; exact getD_mid
    have hw : w64 ((pre.length : Int) + 1) = (((pre ++ [x]).length : Nat) : Int) := by
      rw [w64_id (by omega) (by omega)]; simp
    have r5t : ∀ k r, f34_r5 k r N E B L (L.length : Int) (pre.length : Int) true f = r N E B L (L.length : Int) (((pre ++ [x]).length : Nat) : Int) 1 := fun k r => by
      rw [f34_r5, f34_r5_B, if_pos rfl, f34_c6, f34_c6_B, hw]
    have r5f : ∀ k r, f34_r5 k r N E B L (L.length : Int) (pre.length : Int) false f = r N E B L (L.length : Int) (((pre ++ [x]).length : Nat) : Int) f := fun k r => by
      rw [f34_r5, f34_r5_B, if_neg (by simp), f34_c6, f34_c6_B, hw]
    have hmm : (∀ y ∈ pre ++ [x], inR y N.length) ↔ (∀ y ∈ pre, inR y N.length) ∧ inR x N.length := by
      simp only [List.mem_append, List.mem_singleton]
      exact ⟨fun h => ⟨fun y hy => h y (.inl hy), h x (.inr rfl)⟩, fun h y hy => by
        rcases hy with hy | rfl
        · exact h.1 y hy
        · exact h.2⟩
    by_cases c0 : netF (N, (E, B)) = 0
    · rw [if_pos c0] at hf
      by_cases c1 : ∀ y ∈ pre, inR y N.length
      · rw [if_pos c1] at hf
        by_cases c2 : inR x N.length
        · have ih := nodes_loop4 hN rest (pre ++ [x]) L f (by simp [← hpl]) hL (by rw [if_pos c0, if_pos (hmm.2 ⟨c1, c2⟩)]; exact hf)
          refine Ev2.step (fun k n => ?_) ih
          have c2' := c2
          unfold inR at c2'
          rw [f34_l0, f34_l0_B, if_pos i1, if_pos i0, if_pos i1, hg, if_pos hf, if_neg (by omega), decide_eq_false (by omega), r5f]
        · have ih := nodes_loop4 hN rest (pre ++ [x]) L 1 (by simp [← hpl]) hL (by rw [if_pos c0, if_neg (fun z => c2 (hmm.1 z).2)])
          refine Ev2.step (fun k n => ?_) ih
          rw [f34_l0, f34_l0_B, if_pos i1, if_pos i0, if_pos i1, hg, if_pos hf]
          unfold inR at c2
          by_cases d : x < 0
          · rw [if_pos d, r5t]
          · rw [if_neg d, decide_eq_true (by omega), r5t]
      · rw [if_neg c1] at hf
        have ih := nodes_loop4 hN rest (pre ++ [x]) L f (by simp [← hpl]) hL (by rw [if_pos c0, if_neg (fun z => c1 (hmm.1 z).1)]; exact hf)
        refine Ev2.step (fun k n => ?_) ih
        rw [f34_l0, f34_l0_B, if_pos i1, if_pos i0, if_pos i1, hg, if_neg (by omega), r5f]
    · rw [if_neg c0] at hf
      have ih := nodes_loop4 hN rest (pre ++ [x]) L f (by simp [← hpl]) hL (by rw [if_neg c0]; exact hf)
      refine Ev2.step (fun k n => ?_) ih
      rw [f34_l0, f34_l0_B, if_pos i1, if_pos i0, if_pos i1, hg, if_neg (by rw [hf]; exact c0), r5f]
theorem nodes_ev (n : Nt) (L : List Int) (hL : L.length ≤ 1000) : Ev (fun k => f34 k n L) (vldF n L, ()) := by
  obtain ⟨N, E, B⟩ := n
  simp only [f34, f34_entry_B]
  refine (flt_ev (N, (E, B))).bind ?_
  refine (nodes_loop4 (fun h => by have := (netV_of h).n1; omega) L [] L (netF (N, (E, B))) rfl hL ?_).diag
  split
  · rename_i h; rw [if_pos (fun x hx => by cases hx)]; exact h
  · rfl
/-- The first way so far to a node. -/
def BestW (E : List Ed) (W : List (List Int)) (t : Int) (i : Nat) (w : List Int) : Prop :=
  (w = [] ∧ ∀ j : Nat, j < i → toE E (j : Int) = t → W.getD j [] = []) ∨ (w ≠ [] ∧ (∃ j : Nat, j < i ∧ toE E (j : Int) = t ∧ W.getD j [] = w) ∧ ∀ j : Nat, j < i → toE E (j : Int) = t → W.getD j [] ≠ [] → wle E w (W.getD j []))
theorem wayto_loop {N B : List Pt} {E : List Ed} {t : Int} {W : List (List Int)} (hE : E.length ≤ 600) (hW : W.length = E.length) (hs : ∀ i, i < E.length → (W.getD i []).length ≤ E.length) : ∀ (d i : Nat) (w : List Int), i + d = E.length → BestW E W t i w →
    ∃ w', BestW E W t E.length w' ∧ Ev2 (fun k n => f35_l0 k n (rowE E W) N E B (cW E w) w (E.length : Int) (i : Int) t) ((cW E w', w'), decide (0 < (w'.length : Int)), ())
  | 0, i, w, hd, hb => by
    have e : i = E.length := by omega
    subst e
    refine ⟨w, hb, Ev2.step (g := fun _ _ => some ((cW E w, w), decide (0 < (w.length : Int)), ())) (fun k n => ?_) (Ev2.pure _)⟩
    rw [f35_l0, f35_l0_B, if_neg (by omega)]
  | d + 1, i, w, hd, hb => by
    have hi : i < E.length := by omega
    have i0 : (0 : Int) ≤ (i : Int) := by omega
    have i1 : (i : Int) < (E.length : Int) := by omega
    have i2 : (i : Int) < ((rowE E W).length : Int) := by rw [List.length_map]; omega
    have hw : w64 ((i : Int) + 1) = ((i + 1 : Nat) : Int) := by rw [w64_id (by omega) (by omega)]; omega
    have hto : (E.getD i (0, (0, (0, 0)))).2.1 = toE E (i : Int) := rfl
    have skip : (toE E (i : Int) = t → W.getD i [] ≠ [] → w ≠ [] ∧ wle E w (W.getD i [])) → BestW E W t (i + 1) w := fun h => by
      rcases hb with ⟨h1, h2⟩ | ⟨h1, ⟨j, j1, j2, j3⟩, h2⟩
      · refine .inl ⟨h1, fun j hj ht => ?_⟩
        by_cases e : j = i
        · subst e
          exact Decidable.byContradiction fun z => (h ht z).1 h1
        · exact h2 j (by omega) ht
      · refine .inr ⟨h1, ⟨j, by omega, j2, j3⟩, fun j hj ht hn => ?_⟩
        by_cases e : j = i
        · subst e; exact (h ht hn).2
        · exact h2 j (by omega) ht hn
    have take : toE E (i : Int) = t → W.getD i [] ≠ [] → (w = [] ∨ ¬ wle E w (W.getD i [])) → BestW E W t (i + 1) (W.getD i []) := fun ht hn h => by
      refine .inr ⟨hn, ⟨i, by omega, ht, rfl⟩, fun j hj ht' hn' => ?_⟩
      by_cases e : j = i
      · subst e; exact wle_refl _ _
      · rcases hb with ⟨h1, h2⟩ | ⟨h1, _, h2⟩
        · exact absurd (h2 j (by omega) ht') hn'
        · rcases h with h | h
          · exact absurd h h1
          · rcases wle_total E w (W.getD i []) with g | g
            · exact absurd g h
            · exact wle_trans g (h2 j (by omega) ht' hn')
    have rf : ∀ k r, f35_r7 k r (cW E (W.getD i [])) (W.getD i []) (rowE E W) N E B (cW E w) w (E.length : Int) (i : Int) t false = r (rowE E W) N E B (cW E w) w (E.length : Int) ((i + 1 : Nat) : Int) t := fun k r => by
      rw [f35_r7, f35_r7_B, if_neg (by simp), f35_c8, f35_c8_B, hw]
    have rt : ∀ k r, f35_r7 k r (cW E (W.getD i [])) (W.getD i []) (rowE E W) N E B (cW E w) w (E.length : Int) (i : Int) t true = r (rowE E W) N E B (cW E (W.getD i [])) (W.getD i []) (E.length : Int) ((i + 1 : Nat) : Int) t := fun k r => by
      rw [f35_r7, f35_r7_B, if_pos rfl, f35_c8, f35_c8_B, hw]
    have pre : ∀ k n, f35_l0 k (n + 1) (rowE E W) N E B (cW E w) w (E.length : Int) (i : Int) t = (if toE E (i : Int) = t then (if 0 < ((W.getD i []).length : Int) then (if (w.length : Int) = 0 then f35_r7 k (f35_l0 k n) (cW E (W.getD i [])) (W.getD i []) (rowE E W) N E B (cW E w) w (E.length : Int) (i : Int) t true else (f102 k (cW E (W.getD i []), W.getD i []) (cW E w, w)).bind fun r1 => f35_r7 k (f35_l0 k n) (cW E (W.getD i [])) (W.getD i []) (rowE E W) N E B (cW E w) w (E.length : Int) (i : Int) t r1.1) else f35_r7 k (f35_l0 k n) (cW E (W.getD i [])) (W.getD i []) (rowE E W) N E B (cW E w) w (E.length : Int) (i : Int) t false) else f35_r7 k (f35_l0 k n) (cW E (W.getD i [])) (W.getD i []) (rowE E W) N E B (cW E w) w (E.length : Int) (i : Int) t false) := fun k n => by
      rw [f35_l0, f35_l0_B, if_pos i1, if_pos i0, if_pos i2, if_pos i0, if_pos i1]
      simp only [Int.toNat_natCast, rowE_at, dec_b, hto]
    by_cases c1 : toE E (i : Int) = t
    · by_cases c2 : W.getD i [] = []
      · obtain ⟨w', w1, w2⟩ := wayto_loop hE hW hs d (i + 1) w (by omega) (skip (fun _ z => absurd c2 z))
        refine ⟨w', w1, Ev2.step (fun k n => ?_) w2⟩
        rw [pre, if_pos c1, if_neg (by rw [c2]; simp), rf]
      · have hp : 0 < ((W.getD i []).length : Int) := by have := List.length_pos_iff.2 c2; omega
        have hsz := hs i hi
        by_cases c3 : w = []
        · obtain ⟨w', w1, w2⟩ := wayto_loop (N := N) (B := B) hE hW hs d (i + 1) (W.getD i []) (by omega) (take c1 c2 (.inl c3))
          refine ⟨w', w1, Ev2.step (fun k n => ?_) w2⟩
          rw [pre, if_pos c1, if_pos hp, if_pos (by rw [c3]; rfl), rt]
        · have hn3 : ¬ (w.length : Int) = 0 := fun z => c3 (List.length_eq_zero_iff.1 (by omega))
          obtain ⟨K, hK⟩ := refBefore_ev (E := E) (W.getD i []) w (by omega)
          by_cases c4 : wle E w (W.getD i [])
          · obtain ⟨w', w1, w2⟩ := wayto_loop (N := N) (B := B) hE hW hs d (i + 1) w (by omega) (skip (fun _ _ => ⟨c3, c4⟩))
            refine ⟨w', w1, Ev2.stepE K (fun k n hk => ?_) w2⟩
            have hk' := hK k hk
            simp only at hk'
            rw [pre, if_pos c1, if_pos hp, if_neg hn3, hk', Option.bind_some, decide_eq_true c4, Bool.not_true, rf]
          · obtain ⟨w', w1, w2⟩ := wayto_loop (N := N) (B := B) hE hW hs d (i + 1) (W.getD i []) (by omega) (take c1 c2 (.inr c4))
            refine ⟨w', w1, Ev2.stepE K (fun k n hk => ?_) w2⟩
            have hk' := hK k hk
            simp only at hk'
            rw [pre, if_pos c1, if_pos hp, if_neg hn3, hk', Option.bind_some, decide_eq_false c4, Bool.not_false, rt]
    · obtain ⟨w', w1, w2⟩ := wayto_loop (N := N) (B := B) hE hW hs d (i + 1) w (by omega) (skip (fun z => absurd z c1))
      refine ⟨w', w1, Ev2.step (fun k n => ?_) w2⟩
      rw [pre, if_neg c1, rf]
theorem wayto_ev {N B : List Pt} {E : List Ed} {s t : Int} (hv : netF (N, (E, B)) = 0) (hst : s ≠ t) {W : List (List Int)} (ho : Opt E B s W) :
    ∃ w, BestW E W t E.length w ∧ Ev (fun k => f35 k (N, (E, B)) s t) ((cW E w, w), decide (0 < (w.length : Int)), ()) := by
  have hE := (netV_of hv).n2
  obtain ⟨w, w1, w2⟩ := wayto_loop (N := N) (B := B) (t := t) hE ho.len (fun i hi => by
    by_cases c : W.getD i [] = []
    · rw [c]; simp
    · exact ho.sz i hi c) E.length 0 [] (by omega) (.inl ⟨rfl, fun j hj => by omega⟩)
  refine ⟨w, w1, ?_⟩
  simp only [f35, f35_entry_B, if_neg hst]
  refine (ways_ev hv ho).bind ?_
  rw [show (((rowE E W).length : Nat) : Int) = (E.length : Int) by rw [List.length_map, ho.len]]
  exact w2.diag
/-- The way that Find names is the first one. -/
theorem first_best {E : List Ed} {W : List (List Int)} {t v : Int} {w : List Int} (hv : FirstW E W (inL t 0 E) v) (hw : BestW E W t E.length w) : (v < 0 ∧ w = []) ∨ (0 ≤ v ∧ w ≠ [] ∧ w = W.getD v.toNat []) := by
  have hj : ∀ j : Nat, j < E.length → toE E (j : Int) = t → (j : Int) ∈ inL t 0 E := fun j hj ht => inE_mem.2 ⟨⟨by omega, by omega⟩, ht⟩
  rcases hv with ⟨h1, h2⟩ | ⟨h1, h2, h3, h4⟩
  · refine .inl ⟨by omega, ?_⟩
    rcases hw with ⟨w1, _⟩ | ⟨w1, ⟨j, j1, j2, j3⟩, _⟩
    · exact w1
    · have := h2 _ (hj j j1 j2)
      rw [Int.toNat_natCast, j3] at this
      exact this
  · obtain ⟨g1, g2⟩ := inE_mem.1 h2
    have e : ((v.toNat : Nat) : Int) = v := by omega
    have hn : v.toNat < E.length := by have := g1.2; omega
    refine .inr ⟨h1, ?_⟩
    rcases hw with ⟨w1, w2⟩ | ⟨w1, ⟨j, j1, j2, j3⟩, w2⟩
    · exact absurd (w2 v.toNat hn (by rw [e]; exact g2)) h3
    · refine ⟨w1, wle_anti (w2 v.toNat hn (by rw [e]; exact g2) h3) ?_⟩
      have := h4 _ (hj j j1 j2) (by rw [Int.toNat_natCast, j3]; exact w1)
      rwa [Int.toNat_natCast, j3] at this
theorem find_bad {n : Nt} {s t : Int} (h : vldF n [s, t] ≠ 0) : Ev (fun k => f33 k n s t) (([] : List Int), (0 : Int), vldF n [s, t], ()) := by
  obtain ⟨N, E, B⟩ := n
  simp only [f33, f33_entry_B]
  refine (valid_ev (N, (E, B)) [s, t] (by simp)).bind ?_
  simp only [h, not_false_eq_true, if_true]
  exact Ev.pure _
theorem finds_end (l : List Int) (c e : Int) (hl : l.length ≤ 1073741824) : Ev (fun k => f6_c5 k c l l e c e) (true, ()) := by
  refine Ev.of (fun k => by rw [f6_c5, f6_c5_B]) ?_
  refine Ev.bind (Ev.off 60 routedL_true) ?_
  simp only [if_true]
  refine (equal_ev l hl).bind ?_
  refine Ev.of (fun k => ?_) (Ev.pure _)
  rw [f6_r9, f6_r9_B]
  rfl
theorem finds_law (n : Nt) (s t : Int) : Ev (fun k => f6 k n s t) (true, ()) := by
  obtain ⟨N, E, B⟩ := n
  simp only [f6, f6_entry_B]
  by_cases c : vldF (N, (E, B)) [s, t] = 0
  · have hn := c
    unfold vldF at hn
    by_cases hv : netF (N, (E, B)) = 0
    · rw [if_pos hv] at hn
      by_cases hin : ∀ x ∈ [s, t], inR x N.length
      · have hs := hin s (by simp)
        have ht := hin t (by simp)
        by_cases hst : s = t
        · subst hst
          refine (find_same hv hs).bind ((nodes_ev (N, (E, B)) [s, s] (by simp)).bind ?_)
          simp only [c, if_true]
          have hw : Ev (fun k => f35 k (N, (E, B)) s s) ((0, []), true, ()) := by
            simp only [f35, f35_entry_B, if_true]
            exact Ev.pure _
          refine hw.bind ?_
          simp only [not_true_eq_false, if_false]
          exact finds_end [] 0 0 (by simp)
        · obtain ⟨W, v, w1, w2, w3, w4⟩ := find_ev hv hs ht hst
          obtain ⟨w, b1, b2⟩ := wayto_ev hv hst w1
          refine w4.bind ((nodes_ev (N, (E, B)) [s, t] (by simp)).bind ?_)
          simp only [c, if_true]
          refine b2.bind ?_
          rcases first_best w2 b1 with ⟨g1, g2⟩ | ⟨g1, g2, g3⟩
          · subst g2
            rw [if_pos g1]
            simp only [List.length_nil, Int.natCast_zero, Int.lt_irrefl, decide_false, Bool.false_eq_true, not_false_eq_true, if_true]
            exact finds_end [] 0 17 (by simp)
          · rw [if_neg (by omega), ← g3, show decide (0 < (w.length : Int)) = true from decide_eq_true (by have := List.length_pos_iff.2 g2; omega)]
            simp only [not_true_eq_false, if_false]
            refine finds_end w (cW E w) 0 ?_
            have hE := (netV_of hv).n2
            by_cases hvn : v.toNat < E.length
            · have := w3 v.toNat hvn (by rw [← g3]; exact g2)
              rw [← g3] at this
              omega
            · rw [g3, List.getD_eq_getElem?_getD, List.getElem?_eq_none (by rw [w1.len]; omega)]
              simp
      · rw [if_neg hin] at hn; omega
    · rw [if_neg hv] at hn; exact absurd hn hv
  · refine (find_bad c).bind ((nodes_ev (N, (E, B)) [s, t] (by simp)).bind ?_)
    simp only [c, if_false]
    exact finds_end [] 0 _ (by simp)
/-- **Find returns what the reference says for all networks and nodes.** -/
theorem pure_RouteFinds : Pure_RouteFinds := by
  rintro ⟨n, s, t, u⟩ hwf
  exact (finds_law n s t).get
end Go.Proofs.Ytpbmlhlpfbcnbaa.Rw
