/- Plain laws for TimedEven. No condition. -/
import Derived.Test.YtoebjlimpnmaoaaPlTimedEvena
namespace Go.Proofs.Ytoebjlimpnmaoaa.Rw
open Go.Rx
set_option linter.unusedVariables false
set_option linter.unusedSimpArgs false
theorem edF_all {n : Nat} : ∀ {E : List Ed}, edF n E = 0 → ∀ i, i < E.length → ¬ badE n (E.getD i zE)
  | [], _, i, hi => by simp at hi
  | e :: l, h, i, hi => by
    unfold edF at h
    split at h
    · cases h
    · rename_i h1
      split at h
      · cases h
      · cases i with
        | zero => exact h1
        | succ i => simpa using edF_all h i (by simpa using hi)
/-- A valid network. -/
structure NetV (N : List Pt) (E : List Ed) (B : List Pt) : Prop where
  n1 : N.length ≤ 200
  n2 : E.length ≤ 600
  n3 : B.length ≤ 600
  ends : ∀ k, inR k E.length → inR (fromE E k) N.length ∧ inR (toE E k) N.length
  cost : CostOK E
theorem netV_of {N : List Pt} {E : List Ed} {B : List Pt} (h : netF (N, (E, B)) = 0) : NetV N E B := by
  unfold netF at h
  split at h
  · cases h
  · rename_i h0
    split at h
    · split at h
      · rename_i h2
        have hb : ∀ k, inR k E.length → ¬ badE N.length (E.getD k.toNat zE) := fun k hk => edF_all (show edF N.length E = 0 from h2) k.toNat (by have := hk.1; have := hk.2; omega)
        have h0' : ¬ (200 < (N.length : Int) ∨ 600 < (E.length : Int) ∨ 600 < (B.length : Int)) := h0
        refine ⟨by omega, by omega, by omega, fun k hk => ?_, fun k hk => ?_⟩
        · have := hb k hk
          unfold badE at this
          refine ⟨?_, ?_⟩
          · exact Decidable.byContradiction fun z => this (.inl z)
          · exact Decidable.byContradiction fun z => this (.inr (.inl z))
        · have := hb k hk
          unfold badE at this
          unfold costE
          constructor <;> omega
      · rename_i h2; exact absurd h h2
    · rename_i h1; exact absurd h h1
def vldF (n : Nt) (L : List Int) : Int := if netF n = 0 then (if ∀ x ∈ L, inR x n.1.length then 0 else 1) else netF n
theorem valid_loop {N B : List Pt} {E : List Ed} (hN : N.length ≤ 1000) : ∀ (rest pre L : List Int), pre ++ rest = L → L.length ≤ 1000 → (∀ x ∈ pre, inR x N.length) →
    Ev2 (fun k n => f57_l0 k n N E B L (L.length : Int) (pre.length : Int)) (if ∀ x ∈ L, inR x N.length then 0 else 1, ())
  | [], pre, L, hpl, hL, hp => by
    have e : pre = L := by simpa using hpl
    subst e
    rw [if_pos hp]
    refine Ev2.step (g := fun _ _ => some (0, ())) (fun k n => ?_) (Ev2.pure _)
    rw [f57_l0, f57_l0_B, if_neg (by omega)]
  | x :: rest, pre, L, hpl, hL, hp => by
    have i0 : (0 : Int) ≤ (pre.length : Int) := by omega
    have hlt : pre.length < L.length := by rw [← hpl]; simp
    have i1 : (pre.length : Int) < (L.length : Int) := by omega
    have hg : L.getD ((pre.length : Int)).toNat 0 = x := by rw [← hpl]; exact getD_mid
    have hw : w64 ((pre.length : Int) + 1) = (((pre ++ [x]).length : Nat) : Int) := by
      rw [w64_id (by omega) (by omega)]; simp
    have hxL : x ∈ L := by rw [← hpl]; simp
    by_cases c : inR x N.length
    · have := valid_loop (E := E) (B := B) hN rest (pre ++ [x]) L (by simp [← hpl]) hL (fun y hy => by
        rcases List.mem_append.1 hy with hy | hy
        · exact hp y hy
        · simp only [List.mem_singleton] at hy; subst hy; exact c)
      refine Ev2.step (fun k n => ?_) this
      have c' := c
      unfold inR at c'
      rw [f57_l0, f57_l0_B, if_pos i1, if_pos i0, if_pos i1, hg, if_neg (by omega), decide_eq_false (by omega), f57_r7, f57_r7_B, if_neg (by simp), hw]
    · rw [if_neg (fun z => c (z x hxL))]
      refine Ev2.step (g := fun _ _ => some (1, ())) (fun k n => ?_) (Ev2.pure _)
      rw [f57_l0, f57_l0_B, if_pos i1, if_pos i0, if_pos i1, hg]
      unfold inR at c
      by_cases d : x < 0
      · rw [if_pos d, f57_r7, f57_r7_B, if_pos rfl]
      · rw [if_neg d, decide_eq_true (by omega), f57_r7, f57_r7_B, if_pos rfl]
theorem valid_ev (n : Nt) (L : List Int) (hL : L.length ≤ 1000) : Ev (fun k => f57 k n L) (vldF n L, ()) := by
  obtain ⟨N, E, B⟩ := n
  simp only [f57, f57_entry_B]
  refine (chk_ev (N, (E, B))).bind ?_
  unfold vldF
  by_cases c : netF (N, (E, B)) = 0
  · simp only [c, not_true_eq_false, if_false, if_true]
    exact (valid_loop (E := E) (B := B) (by have := (netV_of c).n1; omega) L [] L rfl hL (fun x hx => by cases hx)).diag
  · simp only [c, not_false_eq_true, if_true, if_false]
    exact Ev.pure _
theorem row_ext2 {l m : List Int} (hl : l.length = m.length) (h : ∀ i, i < l.length → l.getD i 0 = m.getD i 0) : l = m := by
  refine List.ext_getElem hl fun i h1 h2 => ?_
  have := h i h1
  rw [List.getD_eq_getElem?_getD, List.getD_eq_getElem?_getD, List.getElem?_eq_getElem h1, List.getElem?_eq_getElem h2] at this
  exact this
/-- What Ends says of a way. -/
def endC (E : List Ed) (w : List Int) : Int := if w = [] then -1 else cW E w
theorem ends_at {E : List Ed} {W : List (List Int)} {i : Nat} (hi : i < W.length) : (W.map (endC E)).getD i 0 = endC E (W.getD i []) := by
  rw [List.getD_eq_getElem?_getD, List.getElem?_map, List.getD_eq_getElem?_getD, List.getElem?_eq_getElem hi]; rfl
theorem ends_loop {E : List Ed} {B : List Pt} {s : Int} {l : List Lb} {W : List (List Int)} (hE : E.length ≤ 600) (h : Lab E B s l W) : ∀ (d i : Nat) (R : List Int), i + d = E.length → R.length = E.length → (∀ j, j < i → R.getD j 0 = endC E (W.getD j [])) →
    Ev2 (fun k n => f29_l0 k n R l (l.length : Int) (i : Int)) (W.map (endC E), ())
  | 0, i, R, hi, hR, hj => by
    have e : i = E.length := by omega
    subst e
    rw [show W.map (endC E) = R from (row_ext2 (by rw [hR, List.length_map, h.l2]) (fun j hj' => by rw [ends_at (by rw [h.l2]; omega)]; exact hj j (by omega))).symm]
    refine Ev2.step (g := fun _ _ => some (R, ())) (fun k n => ?_) (Ev2.pure _)
    rw [f29_l0, f29_l0_B, if_neg (by rw [h.l1]; omega)]
  | d + 1, i, R, hi, hR, hj => by
    have hiE : i < E.length := by omega
    have a0 : (0 : Int) ≤ (i : Int) := by omega
    have a1 : (i : Int) < (l.length : Int) := by rw [h.l1]; omega
    have a2 : (i : Int) < (R.length : Int) := by omega
    have hiR : i < R.length := by omega
    have hw : w64 ((i : Int) + 1) = ((i + 1 : Nat) : Int) := by rw [w64_id (by omega) (by omega)]; omega
    have hkn : (l.getD ((i : Int)).toNat (0, (0, (0, (false, false))))).2.2.2.1 = knL l i := by rw [Int.toNat_natCast]; rfl
    by_cases c : W.getD i [] = []
    · have hk := (h.un i hiE c).1
      have := ends_loop hE h d (i + 1) (R.set i (-1)) (by omega) (by simpa using hR) (fun j hj' => by
        rw [gsetN]
        by_cases e : i = j
        · subst e; rw [if_pos ⟨rfl, hiR⟩]; unfold endC; rw [if_pos c]
        · rw [if_neg (fun z => e z.1)]; exact hj j (by omega))
      refine Ev2.step (fun k n => ?_) this
      rw [f29_l0, f29_l0_B, if_pos a1, if_pos a0, if_pos a1, if_pos a0, if_pos a2, hkn, hk, if_neg (by simp), f29_c11, f29_c11_B, hw, Int.toNat_natCast]
    · obtain ⟨hk, c1, _⟩ := h.kn i hiE c
      have c1 : (l.getD ((i : Int)).toNat (0, (0, (0, (false, false))))).1 = cW E (W.getD i []) := by rw [Int.toNat_natCast]; exact c1
      have := ends_loop hE h d (i + 1) ((R.set i (-1)).set i (cW E (W.getD i []))) (by omega) (by simpa using hR) (fun j hj' => by
        rw [gsetN]
        by_cases e : i = j
        · subst e; rw [if_pos ⟨rfl, by simpa using hiR⟩]; unfold endC; rw [if_neg c]
        · rw [if_neg (fun z => e z.1), gsetN, if_neg (fun z => e z.1)]; exact hj j (by omega))
      refine Ev2.step (fun k n => ?_) this
      rw [f29_l0, f29_l0_B, if_pos a1, if_pos a0, if_pos a1, if_pos a0, if_pos a2, hkn, hk, if_pos rfl, if_pos a0, if_pos (by simpa using a2), c1, f29_c11, f29_c11_B, hw, Int.toNat_natCast]
theorem ends_ev {N : List Pt} {E : List Ed} {B : List Pt} (hv : netF (N, (E, B)) = 0) {s : Int} (hs : inR s N.length) : ∃ W, Opt E B s W ∧ Ev (fun k => f29 k (N, (E, B)) s) (W.map (endC E), ()) := by
  have hV := netV_of hv
  have hE := hV.n2
  obtain ⟨nx, n1, n2⟩ := start_ev N (E := E) (B := B) hV.n2 (by have := hV.n3; omega)
  obtain ⟨lf, W, z1, z2, z3⟩ := run_ev (N := N) (B := B) s hV.n2 hV.cost n1
  refine ⟨W, z2, ?_⟩
  simp only [f29, f29_entry_B]
  refine (valid_ev (N, (E, B)) [s] (by simp)).bind ?_
  have hvl : vldF (N, (E, B)) [s] = 0 := by unfold vldF; rw [if_pos hv, if_pos (by simpa using hs)]
  simp only [hvl, not_true_eq_false, if_false]
  have a0 : (0 : Int) ≤ (E.length : Int) := by omega
  have a1 : (E.length : Int) ≤ 1073741824 := by omega
  refine n2.bind (z3.bind ?_)
  simp only [if_pos a0, if_pos a1, Int.toNat_natCast]
  exact (ends_loop hE z1 E.length 0 (List.replicate E.length 0) (by omega) (by simp) (fun j hj => by omega)).diag
/-- A node can be reached at a cost. -/
def Rch (E : List Ed) (B : List Pt) (s v c : Int) : Prop := (v = s ∧ c = 0) ∨ ∃ w k, Wy E B s w k ∧ toE E k = v ∧ cW E w = c
/-- The least costs of all nodes, or -1. -/
structure LeastC (n : Nat) (E : List Ed) (B : List Pt) (s : Int) (C : List Int) : Prop where
  len : C.length = n
  at_ : ∀ v, v < n → (C.getD v 0 = -1 ∧ ∀ c, ¬ Rch E B s (v : Int) c) ∨ (0 ≤ C.getD v 0 ∧ Rch E B s (v : Int) (C.getD v 0) ∧ ∀ c, Rch E B s (v : Int) c → C.getD v 0 ≤ c)
  hi : ∀ v, v < n → C.getD v 0 ≤ 659706976665600
theorem LeastC.one {n : Nat} {E : List Ed} {B : List Pt} {s : Int} {C D : List Int} (h : LeastC n E B s C) (k : LeastC n E B s D) : C = D :=
  row_ext2 (by rw [h.len, k.len]) fun v hv => by
    have hv : v < n := by rw [← h.len]; exact hv
    rcases h.at_ v hv with ⟨h1, h2⟩ | ⟨h1, h2, h3⟩
    · rcases k.at_ v hv with ⟨k1, k2⟩ | ⟨k1, k2, k3⟩
      · omega
      · exact (h2 _ k2).elim
    · rcases k.at_ v hv with ⟨k1, k2⟩ | ⟨k1, k2, k3⟩
      · exact (k2 _ h2).elim
      · have := h3 _ k2; have := k3 _ h2; omega
/-- What the row says after some edges. -/
def CostI (n : Nat) (E : List Ed) (W : List (List Int)) (i : Nat) (R : List Int) : Prop := R.length = n ∧ ∀ v, v < n →
  (R.getD v 0 = -1 ∧ ∀ j : Nat, j < i → toE E (j : Int) = (v : Int) → W.getD j [] = []) ∨
  (0 ≤ R.getD v 0 ∧ (∃ j : Nat, j < i ∧ toE E (j : Int) = (v : Int) ∧ W.getD j [] ≠ [] ∧ R.getD v 0 = cW E (W.getD j [])) ∧ ∀ j : Nat, j < i → toE E (j : Int) = (v : Int) → W.getD j [] ≠ [] → R.getD v 0 ≤ cW E (W.getD j []))
theorem CostI.skip {n : Nat} {E : List Ed} {W : List (List Int)} {i : Nat} {R : List Int} (h : CostI n E W i R) (hn : ∀ v : Nat, v < n → toE E (i : Int) = (v : Int) → W.getD i [] ≠ [] → 0 ≤ R.getD v 0 ∧ R.getD v 0 ≤ cW E (W.getD i [])) : CostI n E W (i + 1) R := by
  refine ⟨h.1, fun v hv => ?_⟩
  rcases h.2 v hv with ⟨h1, h2⟩ | ⟨h1, ⟨j, j1, j2⟩, h3⟩
  · refine .inl ⟨h1, fun j hj ht => ?_⟩
    by_cases e : j = i
    · subst e
      by_cases g : W.getD j [] = []
      · exact g
      · have := hn v hv ht g; omega
    · exact h2 j (by omega) ht
  · refine .inr ⟨h1, ⟨j, by omega, j2⟩, fun j hj ht hw => ?_⟩
    by_cases e : j = i
    · subst e; exact (hn v hv ht hw).2
    · exact h3 j (by omega) ht hw
theorem CostI.set {n : Nat} {E : List Ed} {W : List (List Int)} {i v : Nat} {R : List Int} (h : CostI n E W i R) (hv : v < n) (ht : toE E (i : Int) = (v : Int)) (hw : W.getD i [] ≠ []) (h0 : 0 ≤ cW E (W.getD i [])) (hc : R.getD v 0 < 0 ∨ cW E (W.getD i []) < R.getD v 0) : CostI n E W (i + 1) (R.set v (cW E (W.getD i []))) := by
  have hvR : v < R.length := by rw [h.1]; exact hv
  refine ⟨by simpa using h.1, fun u hu => ?_⟩
  rw [gsetN]
  by_cases e : v = u
  · subst e
    rw [if_pos ⟨rfl, hvR⟩]
    refine .inr ⟨h0, ⟨i, by omega, ht, hw, rfl⟩, fun j hj htj hwj => ?_⟩
    by_cases e : j = i
    · subst e; exact Int.le_refl _
    · rcases h.2 v hv with ⟨h1, h2⟩ | ⟨h1, _, h3⟩
      · exact (hwj (h2 j (by omega) htj)).elim
      · have := h3 j (by omega) htj hwj; omega
  · rw [if_neg (fun z => e z.1)]
    rcases h.2 u hu with ⟨h1, h2⟩ | ⟨h1, ⟨j, j1, j2⟩, h3⟩
    · refine .inl ⟨h1, fun j hj htj => ?_⟩
      by_cases e' : j = i
      · subst e'; omega
      · exact h2 j (by omega) htj
    · refine .inr ⟨h1, ⟨j, by omega, j2⟩, fun j hj htj hwj => ?_⟩
      by_cases e' : j = i
      · subst e'; omega
      · exact h3 j (by omega) htj hwj
theorem costs_loop {N : List Pt} {E : List Ed} {B : List Pt} (hV : NetV N E B) {s : Int} (hs : inR s N.length) {W : List (List Int)} (hW : Opt E B s W) : ∀ (d i : Nat) (R : List Int), i + d = E.length → CostI N.length E W i R →
    ∃ R', CostI N.length E W E.length R' ∧ Ev2 (fun k n => f28_l0 k n R N E B (W.map (endC E)) s ((W.map (endC E)).length : Int) (i : Int)) (R'.set s.toNat 0, ())
  | 0, i, R, hi, hR => by
    have e : i = E.length := by omega
    subst e
    refine ⟨R, hR, Ev2.step (g := fun _ _ => some (R.set s.toNat 0, ())) (fun k n => ?_) (Ev2.pure _)⟩
    rw [f28_l0, f28_l0_B, if_neg (by rw [List.length_map, hW.len]; omega), if_pos hs.1, if_pos (by rw [hR.1]; exact hs.2)]
  | d + 1, i, R, hi, hR => by
    have hiE : i < E.length := by omega
    have hn2 := hV.n2
    have hlm : (W.map (endC E)).length = E.length := by rw [List.length_map, hW.len]
    have a0 : (0 : Int) ≤ (i : Int) := by omega
    have a1 : (i : Int) < ((W.map (endC E)).length : Int) := by omega
    have a2 : (i : Int) < (E.length : Int) := by omega
    have hw : w64 ((i : Int) + 1) = ((i + 1 : Nat) : Int) := by rw [w64_id (by omega) (by omega)]; omega
    have he : (W.map (endC E)).getD ((i : Int)).toNat 0 = endC E (W.getD i []) := by rw [Int.toNat_natCast]; exact ends_at (by rw [hW.len]; exact hiE)
    have ht : (E.getD ((i : Int)).toNat (0, (0, (0, 0)))).2.1 = toE E (i : Int) := rfl
    obtain ⟨_, t0, t1⟩ := hV.ends (i : Int) ⟨a0, a2⟩
    have tn : (toE E (i : Int)).toNat < N.length := by omega
    have et : (((toE E (i : Int)).toNat : Nat) : Int) = toE E (i : Int) := by omega
    have hRl : (R.length : Int) = (N.length : Int) := by rw [hR.1]
    by_cases c : W.getD i [] = []
    · obtain ⟨R', r1, r2⟩ := costs_loop hV hs hW d (i + 1) R (by omega) (hR.skip (fun v _ _ hw => (hw c).elim))
      refine ⟨R', r1, Ev2.step (fun k n => ?_) r2⟩
      rw [f28_l0, f28_l0_B, if_pos a1, if_pos a0, if_pos a1, if_pos a0, if_pos a2, he]
      have : endC E (W.getD i []) = -1 := by unfold endC; rw [if_pos c]
      rw [this, if_neg (by decide), f28_r8, f28_r8_B, if_neg (by simp), f28_c9, f28_c9_B, hw]
    · obtain ⟨y1, y2⟩ := hW.yes i hiE c
      have h0 := y1.cost (fun k hk => (hV.cost k hk).1)
      have hec : endC E (W.getD i []) = cW E (W.getD i []) := by unfold endC; rw [if_neg c]
      have pre : ∀ k n, f28_l0 k (n + 1) R N E B (W.map (endC E)) s ((W.map (endC E)).length : Int) (i : Int) = f28_r8 k (f28_l0 k n) R N E B (W.map (endC E)) s ((W.map (endC E)).length : Int) (i : Int) (decide (R.getD (toE E (i : Int)).toNat 0 < 0 ∨ cW E (W.getD i []) < R.getD (toE E (i : Int)).toNat 0)) (cW E (W.getD i [])) (toE E (i : Int)) := fun k n => by
        rw [f28_l0, f28_l0_B, if_pos a1, if_pos a0, if_pos a1, if_pos a0, if_pos a2, he, hec, if_pos h0, ht, if_pos t0, if_pos (by omega)]
        by_cases g : R.getD (toE E (i : Int)).toNat 0 < 0
        · rw [if_pos g, decide_eq_true (Or.inl g)]
        · rw [if_neg g, if_pos t0, if_pos (by omega)]
          rw [show decide (cW E (W.getD i []) < R.getD (toE E (i : Int)).toNat 0) = decide (R.getD (toE E (i : Int)).toNat 0 < 0 ∨ cW E (W.getD i []) < R.getD (toE E (i : Int)).toNat 0) from decide_eq_decide.2 ⟨.inr, fun z => z.resolve_left g⟩]
      by_cases g : R.getD (toE E (i : Int)).toNat 0 < 0 ∨ cW E (W.getD i []) < R.getD (toE E (i : Int)).toNat 0
      · obtain ⟨R', r1, r2⟩ := costs_loop hV hs hW d (i + 1) _ (by omega) (hR.set tn et.symm c h0 g)
        refine ⟨R', r1, Ev2.step (fun k n => ?_) r2⟩
        rw [pre, decide_eq_true g, f28_r8, f28_r8_B, if_pos rfl, if_pos t0, if_pos (by omega), f28_c9, f28_c9_B, hw]
      · obtain ⟨R', r1, r2⟩ := costs_loop hV hs hW d (i + 1) R (by omega) (hR.skip (fun v hv htv _ => by
          have : v = (toE E (i : Int)).toNat := by omega
          subst this
          omega))
        refine ⟨R', r1, Ev2.step (fun k n => ?_) r2⟩
        rw [pre, decide_eq_false g, f28_r8, f28_r8_B, if_neg (by simp), f28_c9, f28_c9_B, hw]
theorem least_of {N : List Pt} {E : List Ed} {B : List Pt} (hV : NetV N E B) {s : Int} (hs : inR s N.length) {W : List (List Int)} (hW : Opt E B s W) {R : List Int} (hR : CostI N.length E W E.length R) : LeastC N.length E B s (R.set s.toNat 0) := by
  have hsR : s.toNat < R.length := by rw [hR.1]; have := hs.1; have := hs.2; omega
  refine ⟨by simpa using hR.1, fun v hv => ?_, fun v hv => ?_⟩
  rotate_left
  · rw [gsetN]
    split
    · decide
    · rcases hR.2 v hv with ⟨h1, _⟩ | ⟨_, ⟨j, j1, _, j3, j4⟩, _⟩
      · omega
      · have h1 := hW.sz j j1 j3
        have h2 := hV.n2
        have h3 := cW_le (E := E) (M := 1099511627776) (by decide) (fun k hk => (hV.cost k hk).2) (W.getD j []) (hW.yes j j1 j3).1.mem
        have h4 : (1099511627776 : Int) * ((W.getD j []).length : Int) ≤ 1099511627776 * 600 := Int.mul_le_mul_of_nonneg_left (by omega) (by decide)
        omega
  rw [gsetN]
  have hcost : ∀ w k, Wy E B s w k → 0 ≤ cW E w := fun w k h => h.cost (fun k hk => (hV.cost k hk).1)
  by_cases e : s.toNat = v
  · subst e
    rw [if_pos ⟨rfl, hsR⟩]
    have es : ((s.toNat : Nat) : Int) = s := by have := hs.1; omega
    refine .inr ⟨by decide, .inl ⟨es, rfl⟩, fun c hc => ?_⟩
    rcases hc with ⟨_, rfl⟩ | ⟨w, k, h1, _, rfl⟩
    · decide
    · exact hcost w k h1
  · rw [if_neg (fun z => e z.1)]
    have hvs : ¬ (v : Int) = s := fun z => by omega
    have hk : ∀ w k, Wy E B s w k → k.toNat < E.length ∧ ((k.toNat : Nat) : Int) = k := fun w k h => by
      have := h.inR.1; have := h.inR.2; omega
    rcases hR.2 v hv with ⟨h1, h2⟩ | ⟨h1, ⟨j, j1, j2, j3, j4⟩, h3⟩
    · refine .inl ⟨h1, fun c hc => ?_⟩
      rcases hc with ⟨z, _⟩ | ⟨w, k, g1, g2, _⟩
      · exact hvs z
      · obtain ⟨q1, q2⟩ := hk w k g1
        exact hW.no k.toNat q1 (h2 k.toNat q1 (by rw [q2]; exact g2)) w (by rw [q2]; exact g1)
    · refine .inr ⟨h1, .inr ⟨_, _, (hW.yes j j1 j3).1, j2, j4.symm⟩, fun c hc => ?_⟩
      rcases hc with ⟨z, _⟩ | ⟨w, k, g1, g2, rfl⟩
      · exact (hvs z).elim
      · obtain ⟨q1, q2⟩ := hk w k g1
        have hne : W.getD k.toNat [] ≠ [] := fun z => hW.no k.toNat q1 z w (by rw [q2]; exact g1)
        have := h3 k.toNat q1 (by rw [q2]; exact g2) hne
        have := wle_cost ((hW.yes k.toNat q1 hne).2 w (by rw [q2]; exact g1))
        omega
theorem costs_ev {N : List Pt} {E : List Ed} {B : List Pt} (hv : netF (N, (E, B)) = 0) {s : Int} (hs : inR s N.length) : ∃ C, LeastC N.length E B s C ∧ Ev (fun k => f28 k (N, (E, B)) s) (C, ()) := by
  have hV := netV_of hv
  have hn1 := hV.n1
  obtain ⟨W, w1, w2⟩ := ends_ev hv hs
  have hI : CostI N.length E W 0 (List.replicate N.length (-1)) := ⟨by simp, fun v hv => .inl ⟨by rw [List.getD_eq_getElem?_getD, List.getElem?_replicate, if_pos hv]; rfl, fun j hj => by omega⟩⟩
  obtain ⟨R', r1, r2⟩ := costs_loop hV hs w1 E.length 0 _ (by omega) hI
  refine ⟨_, least_of hV hs w1 r1, ?_⟩
  simp only [f28, f28_entry_B]
  refine (valid_ev (N, (E, B)) [s] (by simp)).bind ?_
  have hvl : vldF (N, (E, B)) [s] = 0 := by unfold vldF; rw [if_pos hv, if_pos (by simpa using hs)]
  simp only [hvl, not_true_eq_false, if_false]
  exact (repeat_ev (-1) N.length (by omega)).bind (w2.bind r2.diag)
end Go.Proofs.Ytoebjlimpnmaoaa.Rw

namespace Go.Proofs.Ytoebjlimpnmaoaa.Rw
open Go.Rx
set_option linter.unusedVariables false
set_option linter.unusedSimpArgs false
def belowF (x n : Int) : Int := if x.tmod n < 0 then x.tmod n + n else x.tmod n
theorem below_lt {x n : Int} (h : 1 ≤ n) : 0 ≤ belowF x n ∧ belowF x n < n := by
  have h1 := Int.lt_tmod_of_pos x (show 0 < n by omega)
  have h2 := Int.tmod_lt_of_pos x (show 0 < n by omega)
  unfold belowF
  split <;> omega
theorem below_eq (k : Nat) (x n : Int) (h : 1 ≤ n) (h2 : n ≤ 1000000000000) : f15 k x n = some (belowF x n, ()) := by
  have g1 := Int.lt_tmod_of_pos x (show 0 < n by omega)
  have g2 := Int.tmod_lt_of_pos x (show 0 < n by omega)
  simp only [f15, f15_entry_B, f15_c3, f15_c3_B, belowF]
  rw [if_pos (by omega)]
  split
  · rw [w64_id (by omega) (by omega)]
  · rfl
def nextF (a : List Int) (n : Int) : List Int × Int := if a.length = 0 then (a, 0) else (a.drop 1, belowF (a.getD 0 0) n)
theorem next_lt {a : List Int} {n : Int} (h : 1 ≤ n) : 0 ≤ (nextF a n).2 ∧ (nextF a n).2 < n := by
  unfold nextF
  split
  · exact ⟨by simp, by simp; omega⟩
  · exact below_lt h
theorem next_eq (k : Nat) (a : List Int) (n : Int) (h : 1 ≤ n) (h2 : n ≤ 1000000000000) : f43 k a n = some ((((nextF a n).1, ()), ()), ((nextF a n).2, ())) := by
  have h3 : ¬ n < 1 := by omega
  simp only [f43, f43_entry_B, f43_r1, f43_r1_B, nextF]
  by_cases h0 : a.length = 0
  · simp [h0]
  · rw [if_neg (by omega), decide_eq_false h3, if_neg (by simp), if_pos (by omega), if_pos (by omega), below_eq k _ n h h2, if_neg h0]
    rfl
end Go.Proofs.Ytoebjlimpnmaoaa.Rw

namespace Go.Proofs.Ytoebjlimpnmaoaa.Rw
open Go.Rx
set_option linter.unusedVariables false
set_option linter.unusedSimpArgs false
def cmpB (p q : Pt) : Int := if p.1 = q.1 then w64 (p.2 - q.2) else w64 (p.1 - q.1)
theorem cmpB_eq (k : Nat) (p q : Pt) : f48 k p q = some (cmpB p q, ()) := by
  simp only [f48, f48_entry_B, cmpB]
  by_cases h : p.1 = q.1 <;> simp [h]
theorem swap_perm (y : List Pt) {i j : Nat} (hi : i < y.length) (hj : j < y.length) (z : Pt) : ((y.set i (y.getD j z)).set j (y.getD i z)).Perm y := by
  rw [List.getD_eq_getElem?_getD, List.getElem?_eq_getElem hj, List.getD_eq_getElem?_getD, List.getElem?_eq_getElem hi]
  exact List.set_set_perm hi hj
theorem ins_in {b i : Nat} (hi : (i : Int) ≤ 1000000) : ∀ (j : Nat) (y : List Pt), j ≤ i → j < y.length →
    ∃ y', y'.Perm y ∧ ∀ res, Ev2 (fun k n => f96_l0 k n y' 0 (b : Int) ((i + 1 : Nat) : Int)) res → Ev3 (fun k n m => f96_l2 k (f96_l0 k n) m y 0 (b : Int) (i : Int) (j : Int)) res
  | 0, y, hji, hj => by
    have hw : w64 ((i : Int) + 1) = ((i + 1 : Nat) : Int) := by rw [w64_id (by omega) (by omega)]; omega
    refine ⟨y, List.Perm.refl _, fun res h => Ev3.step (fun k n m => ?_) h.three⟩
    rw [f96_l2, f96_l2_B, if_neg (by omega), f96_r4, f96_r4_B, if_neg (by simp), hw]
  | j + 1, y, hji, hj => by
    have hw : w64 ((i : Int) + 1) = ((i + 1 : Nat) : Int) := by rw [w64_id (by omega) (by omega)]; omega
    have hw1 : w64 (((j + 1 : Nat) : Int) - 1) = (j : Int) := by rw [w64_id (by omega) (by omega)]; omega
    have c0 : (0 : Int) < ((j + 1 : Nat) : Int) := by omega
    have c1 : (0 : Int) ≤ ((j + 1 : Nat) : Int) := by omega
    have c2 : ((j + 1 : Nat) : Int) < (y.length : Int) := by omega
    have c3 : (0 : Int) ≤ (j : Int) := by omega
    have c4 : (j : Int) < (y.length : Int) := by omega
    by_cases hc : cmpB (y.getD (j + 1) (0, 0)) (y.getD j (0, 0)) < 0
    · obtain ⟨y', p1, p2⟩ := ins_in hi j ((y.set (j + 1) (y.getD j (0, 0))).set j (y.getD (j + 1) (0, 0))) (by omega) (by simp; omega)
      refine ⟨y', p1.trans (swap_perm y hj (by omega) (0, 0)), fun res h => Ev3.step (fun k n m => ?_) (p2 res h)⟩
      rw [f96_l2, f96_l2_B, if_pos c0, if_pos c1, if_pos c2, hw1, if_pos c3, if_pos c4]
      simp only [Int.toNat_natCast, cmpB_eq, Option.bind_some]
      rw [show decide (cmpB (y.getD (j + 1) (0, 0)) (y.getD j (0, 0)) < 0) = true from decide_eq_true hc, f96_r4, f96_r4_B, if_pos rfl, hw1, if_pos c3, if_pos c4, if_pos c1, if_pos c2, if_pos c1, if_pos c2, if_pos c3, if_pos (by simp only [List.length_set]; exact c4)]
      simp only [Int.toNat_natCast]
    · refine ⟨y, List.Perm.refl _, fun res h => Ev3.step (fun k n m => ?_) h.three⟩
      rw [f96_l2, f96_l2_B, if_pos c0, if_pos c1, if_pos c2, hw1, if_pos c3, if_pos c4]
      simp only [Int.toNat_natCast, cmpB_eq, Option.bind_some]
      rw [show decide (cmpB (y.getD (j + 1) (0, 0)) (y.getD j (0, 0)) < 0) = false from decide_eq_false hc, f96_r4, f96_r4_B, if_neg (by simp), hw]
theorem ins_out {b : Nat} (hb : b ≤ 1000) : ∀ (d i : Nat) (y : List Pt), b ≤ i + d → y.length = b → i ≤ 1000 →
    ∃ y', y'.Perm y ∧ Ev2 (fun k n => f96_l0 k n y 0 (b : Int) (i : Int)) ((y', ()), ())
  | 0, i, y, hd, hl, hi => ⟨y, List.Perm.refl _, Ev2.step (g := fun _ _ => some ((y, ()), ())) (fun k n => by rw [f96_l0, f96_l0_B, if_neg (by omega)]) (Ev2.pure _)⟩
  | d + 1, i, y, hd, hl, hi => by
    by_cases h : i < b
    · obtain ⟨y1, p1, p2⟩ := ins_in (b := b) (i := i) (by omega) i y (Nat.le_refl _) (by omega)
      obtain ⟨y2, q1, q2⟩ := ins_out hb d (i + 1) y1 (by omega) (p1.length_eq.trans hl) (by omega)
      refine ⟨y2, q1.trans p1, Ev2.step (fun k n => ?_) (p2 _ q2).in_⟩
      rw [f96_l0, f96_l0_B, if_pos (by omega)]
    · exact ⟨y, List.Perm.refl _, Ev2.step (g := fun _ _ => some ((y, ()), ())) (fun k n => by rw [f96_l0, f96_l0_B, if_neg (by omega)]) (Ev2.pure _)⟩
theorem len3 (n : Nat) (h : n ≤ 3) : ∃ r, ∀ k, f68 k (IntKind.u64.wrap (n : Int)) = some (r, ()) := by
  match n, h with
  | 0, _ => exact ⟨0, fun k => by kernel_rfl⟩
  | 1, _ => exact ⟨1, fun k => by kernel_rfl⟩
  | 2, _ => exact ⟨2, fun k => by kernel_rfl⟩
  | 3, _ => exact ⟨2, fun k => by kernel_rfl⟩
theorem sortB_ev (y : List Pt) (h : y.length ≤ 3) : ∃ y', y'.Perm y ∧ Ev (fun k => f47 k y ()) ((y', ()), ()) := by
  obtain ⟨r, hr⟩ := len3 y.length h
  obtain ⟨y', p1, p2⟩ := ins_out (b := y.length) (by omega) y.length 1 y (by omega) rfl (by omega)
  refine ⟨y', p1, ?_⟩
  simp only [f47, f47_entry_B, hr, Option.bind_some]
  have hw : w64 ((y.length : Int) - 0) = (y.length : Int) := by rw [w64_id (by omega) (by omega)]; omega
  have hp : Ev (fun k => f71 k y 0 (y.length : Int) r ()) ((y', ()), ()) := by
    simp only [f71, f71_entry_B]
    refine Ev2.diag (f := fun k n => f71_l0 k n y 0 (y.length : Int) r) ?_
    have hi : Ev (fun k => f96 k y 0 (y.length : Int) ()) ((y', ()), ()) := by
      simp only [f96, f96_entry_B]
      exact p2.diag
    refine Ev2.step (g := fun k _ => (f96 k y 0 (y.length : Int) ()).bind fun r1 => some ((r1.1.1, ()), ())) (fun k n => ?_) (Ev.two (hi.bind (Ev.pure _)))
    rw [f71_l0, f71_l0_B, hw, if_pos (by omega)]
  exact hp.bind (Ev.pure _)
end Go.Proofs.Ytoebjlimpnmaoaa.Rw

namespace Go.Proofs.Ytoebjlimpnmaoaa.Rw
open Go.Rx
set_option linter.unusedVariables false
set_option linter.unusedSimpArgs false
def GoodN (N : List Pt) : Prop := N.Nodup ∧ ∀ q ∈ N, -100 ≤ q.1 ∧ q.1 ≤ 100 ∧ -100 ≤ q.2 ∧ q.2 ≤ 100
def GoodE (n : Nat) (E : List Ed) : Prop := ∀ e ∈ E, inR e.1 n ∧ inR e.2.1 n ∧ e.1 ≠ e.2.1 ∧ 1 ≤ e.2.2.1 ∧ e.2.2.1 ≤ 20
def GoodB (E : List Ed) (B : List Pt) : Prop := B.Nodup ∧ ∀ b ∈ B, inR b.1 E.length ∧ inR b.2 E.length ∧ toE E b.1 = fromE E b.2
theorem point_eq (a : List Int) : ∃ (a' : List Int) (p : Pt), (∀ k, f44 k a = some (((a', ()), ()), (p, ()))) ∧ -40 ≤ p.1 ∧ p.1 ≤ 40 ∧ -40 ≤ p.2 ∧ p.2 ≤ 40 := by
  have h1 := next_lt (a := a) (n := 81) (by omega)
  have h2 := next_lt (a := (nextF a 81).1) (n := 81) (by omega)
  refine ⟨(nextF (nextF a 81).1 81).1, ((nextF a 81).2 - 40, (nextF (nextF a 81).1 81).2 - 40), fun k => ?_, by simp only; omega, by simp only; omega, by simp only; omega, by simp only; omega⟩
  simp only [f44, f44_entry_B, next_eq k _ 81 (by omega) (by omega), Option.bind_some]
  rw [w64_id (by omega) (by omega), w64_id (by omega) (by omega)]
theorem shift_loop (N : List Pt) (a : List Int) (y : Int) (hN : N.length ≤ 8) : ∀ (d : Nat) (x : Int), (N.filter (fun q => decide (x ≤ q.1))).length ≤ d → -40 ≤ x → x + d ≤ 60 →
    ∃ x', x ≤ x' ∧ x' ≤ x + d ∧ (x', y) ∉ N ∧ ∀ res, Ev2 (fun k n => f13_l0 k n a (N ++ [(x', y)])) res → Ev3 (fun k n m => f13_l2 k (f13_l0 k n) m a N x y) res
  | 0, x, hd, h0, h1 => by
    have hm : (x, y) ∉ N := fun h => by
      have : (x, y) ∈ N.filter (fun q => decide (x ≤ q.1)) := List.mem_filter.2 ⟨h, by simp⟩
      have := List.length_pos_of_mem this
      omega
    refine ⟨x, by omega, by omega, hm, fun res h => ?_⟩
    obtain ⟨K, hK⟩ := conP_ev N (x, y) (by omega)
    refine Ev3.stepE K (fun k n m hk => ?_) h.three
    have hk' := hK k hk; simp only at hk'
    rw [f13_l2, f13_l2_B, hk', Option.bind_some, if_neg (by simp [hm]), if_pos (by omega)]
  | d + 1, x, hd, h0, h1 => by
    obtain ⟨K, hK⟩ := conP_ev N (x, y) (by omega)
    by_cases hm : (x, y) ∈ N
    · have hlt : (N.filter (fun q => decide (x + 1 ≤ q.1))).length < (N.filter (fun q => decide (x ≤ q.1))).length := by
        have hsub : N.filter (fun q => decide (x + 1 ≤ q.1)) = (N.filter (fun q => decide (x ≤ q.1))).filter (fun q => decide (x + 1 ≤ q.1)) := by
          rw [List.filter_filter]
          refine List.filter_congr fun q _ => ?_
          by_cases g : x + 1 ≤ q.1
          · simp [g]; omega
          · simp [g]
        rw [hsub]
        refine List.length_filter_lt_length_iff_exists.2 ⟨(x, y), List.mem_filter.2 ⟨hm, by simp⟩, by simp; omega⟩
      obtain ⟨x', k1, k2, k3, k4⟩ := shift_loop N a y hN d (x + 1) (by omega) (by omega) (by omega)
      refine ⟨x', by omega, by omega, k3, fun res h => Ev3.stepE K (fun k n m hk => ?_) (k4 res h)⟩
      have hk' := hK k hk; simp only at hk'
      rw [f13_l2, f13_l2_B, hk', Option.bind_some, if_pos (by simp [hm]), w64_id (by omega) (by omega)]
    · refine ⟨x, by omega, by omega, hm, fun res h => Ev3.stepE K (fun k n m hk => ?_) h.three⟩
      have hk' := hK k hk; simp only at hk'
      rw [f13_l2, f13_l2_B, hk', Option.bind_some, if_neg (by simp [hm]), if_pos (by omega)]
theorem nodes_loop : ∀ (d : Nat) (a : List Int) (N : List Pt), N.length + d = 8 → GoodN N →
    ∃ (a' : List Int) (N' : List Pt), GoodN N' ∧ 2 ≤ N'.length ∧ N'.length ≤ 8 ∧ ∀ res, Ev (fun k => (f43 k a' 17).bind fun r2 => f13_l4 k k r2.1.1.1 N' ([] : List Ed) r2.2.1 0) res → Ev2 (fun k n => f13_l0 k n a N) res
  | 0, a, N, hl, hN => by
    have h1 := next_lt (a := a) (n := 7) (by omega)
    have hw : w64 (2 + (nextF a 7).2) = 2 + (nextF a 7).2 := w64_id (by omega) (by omega)
    refine ⟨(nextF a 7).1, N, hN, by omega, by omega, fun res h => Ev2.step (fun k n => ?_) h.two⟩
    rw [f13_l0, f13_l0_B]
    simp only [next_eq k a 7 (by omega) (by omega), Option.bind_some]
    rw [hw, if_neg (by omega), decide_eq_false (by omega), f13_r3, f13_r3_B, if_neg (by simp)]
  | d + 1, a, N, hl, hN => by
    have h1 := next_lt (a := a) (n := 7) (by omega)
    have hw : w64 (2 + (nextF a 7).2) = 2 + (nextF a 7).2 := w64_id (by omega) (by omega)
    by_cases c : (N.length : Int) < 2 + (nextF a 7).2 ∨ (N.length : Int) < 2
    · obtain ⟨b, p, hp, p1, p2, p3, p4⟩ := point_eq (nextF a 7).1
      have hf : (N.filter (fun q => decide (p.1 ≤ q.1))).length ≤ 8 := by
        have := List.length_filter_le (fun q => decide (p.1 ≤ q.1)) N
        omega
      obtain ⟨x', k1, k2, k3, k4⟩ := shift_loop N b p.2 (by omega) 8 p.1 hf p1 (by omega)
      have hN' : GoodN (N ++ [(x', p.2)]) := by
        refine ⟨List.nodup_append.2 ⟨hN.1, by simp, fun q hq r hr e => ?_⟩, fun q hq => ?_⟩
        · simp only [List.mem_singleton] at hr
          subst hr; subst e; exact k3 hq
        · rcases List.mem_append.1 hq with hq | hq
          · exact hN.2 q hq
          · simp only [List.mem_singleton] at hq
            subst hq; simp only; omega
      obtain ⟨a', N', g1, g2, g3, g4⟩ := nodes_loop d b (N ++ [(x', p.2)]) (by simp; omega) hN'
      refine ⟨a', N', g1, g2, g3, fun res h => Ev2.step (fun k n => ?_) (k4 res (g4 res h)).in_⟩
      rw [f13_l0, f13_l0_B]
      simp only [next_eq k a 7 (by omega) (by omega), Option.bind_some]
      rw [hw]
      have fin : f13_r3 k (f13_l0 k n) (nextF a 7).1 N true = f13_l2 k (f13_l0 k n) k b N p.1 p.2 := by
        rw [f13_r3, f13_r3_B, if_pos rfl, hp k, Option.bind_some]
      by_cases c1 : (N.length : Int) < 2 + (nextF a 7).2
      · rw [if_pos c1, fin]
      · rw [if_neg c1, decide_eq_true (by omega), fin]
    · refine ⟨(nextF a 7).1, N, hN, by omega, by omega, fun res h => Ev2.step (fun k n => ?_) h.two⟩
      rw [f13_l0, f13_l0_B]
      simp only [next_eq k a 7 (by omega) (by omega), Option.bind_some]
      rw [hw, if_neg (by omega), decide_eq_false (by omega), f13_r3, f13_r3_B, if_neg (by simp)]
theorem edges_loop (N : List Pt) (h2 : 2 ≤ N.length) (h8 : N.length ≤ 8) (cnt : Nat) (hc : cnt ≤ 100) : ∀ (d i : Nat) (a : List Int) (E : List Ed), i + d = cnt → E.length ≤ i → GoodE N.length E →
    ∃ (a' : List Int) (E' : List Ed), GoodE N.length E' ∧ E'.length ≤ cnt ∧ ∀ res, Ev (fun k => (f43 k a' 4).bind fun r5 => f13_l6 k k r5.1.1.1 ([] : List Pt) N E' r5.2.1 0) res → Ev2 (fun k n => f13_l4 k n a N E (cnt : Int) (i : Int)) res
  | 0, i, a, E, hi, hE, hG => by
    refine ⟨a, E, hG, by omega, fun res h => Ev2.step (fun k n => ?_) h.two⟩
    rw [f13_l4, f13_l4_B, if_neg (by omega)]
  | d + 1, i, a, E, hi, hE, hG => by
    have hw : w64 ((i : Int) + 1) = ((i + 1 : Nat) : Int) := by rw [w64_id (by omega) (by omega)]; omega
    have c1 : (i : Int) < (cnt : Int) := by omega
    have l1 := next_lt (a := a) (n := (N.length : Int)) (by omega)
    have l2 := next_lt (a := (nextF a (N.length : Int)).1) (n := (N.length : Int)) (by omega)
    generalize hr1 : nextF a (N.length : Int) = r1 at l1 l2
    generalize hr2 : nextF r1.1 (N.length : Int) = r2 at l2
    by_cases c2 : r1.2 = r2.2
    · obtain ⟨a', E', g1, g2, g3⟩ := edges_loop N h2 h8 cnt hc d (i + 1) r2.1 E (by omega) (by omega) hG
      refine ⟨a', E', g1, g2, fun res h => Ev2.step (fun k n => ?_) (g3 res h)⟩
      rw [f13_l4, f13_l4_B, if_pos c1]
      simp only [next_eq k _ (N.length : Int) (by omega) (by omega), Option.bind_some, hr1, hr2]
      rw [if_neg (by simpa using c2), f13_c12, f13_c12_B, hw]
    · have l3 := next_lt (a := r2.1) (n := 20) (by omega)
      generalize hr3 : nextF r2.1 20 = r3 at l3
      generalize hr4 : nextF r3.1 5 = r4
      have hw1 : w64 (1 + r3.2) = 1 + r3.2 := w64_id (by omega) (by omega)
      have hG' : GoodE N.length (E ++ [(r1.2, (r2.2, (1 + r3.2, r4.2)))]) := fun e he => by
        rcases List.mem_append.1 he with he | he
        · exact hG e he
        · simp only [List.mem_singleton] at he
          subst he
          unfold inR
          simp only
          omega
      obtain ⟨a', E', g1, g2, g3⟩ := edges_loop N h2 h8 cnt hc d (i + 1) r4.1 _ (by omega) (by simp; omega) hG'
      refine ⟨a', E', g1, g2, fun res h => Ev2.step (fun k n => ?_) (g3 res h)⟩
      rw [f13_l4, f13_l4_B, if_pos c1]
      simp only [next_eq k _ (N.length : Int) (by omega) (by omega), Option.bind_some, hr1, hr2]
      rw [if_pos (by simpa using c2)]
      simp only [next_eq k _ 20 (by omega) (by omega), next_eq k _ 5 (by omega) (by omega), Option.bind_some, hr3, hr4, hw1]
      rw [if_pos (by omega), f13_c12, f13_c12_B, hw]
theorem bans_loop (N : List Pt) (E : List Ed) (hE : E.length ≤ 1000) (cnt : Nat) (hc : cnt ≤ 3) : ∀ (d i : Nat) (a : List Int) (B : List Pt), i + d = cnt → B.length ≤ i → GoodB E B →
    ∃ (B' : List Pt), GoodB E B' ∧ B'.length ≤ cnt ∧ ∀ res, Ev (fun k => f13_b6 k B' N E) res → Ev2 (fun k n => f13_l6 k n a B N E (cnt : Int) (i : Int)) res
  | 0, i, a, B, hi, hB, hG => by
    refine ⟨B, hG, by omega, fun res h => Ev2.step (fun k n => ?_) h.two⟩
    rw [f13_l6, f13_l6_B, if_neg (by omega)]
  | d + 1, i, a, B, hi, hB, hG => by
    have hw : w64 ((i : Int) + 1) = ((i + 1 : Nat) : Int) := by rw [w64_id (by omega) (by omega)]; omega
    have c1 : (i : Int) < (cnt : Int) := by omega
    by_cases c0 : (E.length : Int) = 0
    · refine ⟨B, hG, by omega, fun res h => Ev2.step (fun k n => ?_) h.two⟩
      rw [f13_l6, f13_l6_B, if_pos c1, if_pos c0]
    · have l1 := next_lt (a := a) (n := (E.length : Int)) (by omega)
      have l2 := next_lt (a := (nextF a (E.length : Int)).1) (n := (E.length : Int)) (by omega)
      generalize hr1 : nextF a (E.length : Int) = r1 at l1 l2
      generalize hr2 : nextF r1.1 (E.length : Int) = r2 at l2
      have start : ∀ k n, f13_l6 k (n + 1) a B N E (cnt : Int) (i : Int) = if (((E.getD ((r1.2).toNat) zE).2).1) = ((E.getD ((r2.2).toNat) zE).1) then ((f46 k B (r1.2, r2.2)).bind fun r3 => f13_r18 k (f13_l6 k n) r2.1 B N E r1.2 r2.2 (decide (¬ (r3.1 = true))) (cnt : Int) (i : Int)) else f13_r18 k (f13_l6 k n) r2.1 B N E r1.2 r2.2 false (cnt : Int) (i : Int) := fun k n => by
        rw [f13_l6, f13_l6_B, if_pos c1, if_neg c0]
        simp only [next_eq k _ (E.length : Int) (by omega) (by omega), Option.bind_some, hr1, hr2]
        rw [if_pos l1.1, if_pos l1.2, if_pos l2.1, if_pos l2.2]
        rfl
      have no : ∀ k n, f13_r18 k (f13_l6 k n) r2.1 B N E r1.2 r2.2 false (cnt : Int) (i : Int) = f13_l6 k n r2.1 B N E (cnt : Int) ((i + 1 : Nat) : Int) := fun k n => by
        rw [f13_r18, f13_r18_B, if_neg (by simp), f13_c19, f13_c19_B, hw]
      have skip : ∃ (B' : List Pt), GoodB E B' ∧ B'.length ≤ cnt ∧ ∀ res, Ev (fun k => f13_b6 k B' N E) res → Ev2 (fun k n => f13_l6 k n r2.1 B N E (cnt : Int) ((i + 1 : Nat) : Int)) res := bans_loop N E hE cnt hc d (i + 1) r2.1 B (by omega) (by omega) hG
      by_cases c2 : (((E.getD ((r1.2).toNat) zE).2).1) = ((E.getD ((r2.2).toNat) zE).1)
      · obtain ⟨K, hK⟩ := conB_ev B (r1.2, r2.2) (by omega)
        by_cases c3 : (r1.2, r2.2) ∈ B
        · obtain ⟨B', g1, g2, g3⟩ := skip
          refine ⟨B', g1, g2, fun res h => Ev2.stepE K (fun k n hk => ?_) (g3 res h)⟩
          have hk' := hK k hk; simp only at hk'
          rw [start, if_pos c2, hk', Option.bind_some]
          simp only [c3, decide_true, not_true_eq_false, decide_false]
          exact no k n
        · have hG' : GoodB E (B ++ [(r1.2, r2.2)]) := by
            refine ⟨List.nodup_append.2 ⟨hG.1, by simp, fun q hq r hr e => ?_⟩, fun q hq => ?_⟩
            · simp only [List.mem_singleton] at hr
              subst hr; subst e; exact c3 hq
            · rcases List.mem_append.1 hq with hq | hq
              · exact hG.2 q hq
              · simp only [List.mem_singleton] at hq
                subst hq
                exact ⟨⟨l1.1, l1.2⟩, ⟨l2.1, l2.2⟩, c2⟩
          obtain ⟨B', g1, g2, g3⟩ := bans_loop N E hE cnt hc d (i + 1) r2.1 _ (by omega) (by simp; omega) hG'
          refine ⟨B', g1, g2, fun res h => Ev2.stepE K (fun k n hk => ?_) (g3 res h)⟩
          have hk' := hK k hk; simp only at hk'
          rw [start, if_pos c2, hk', Option.bind_some]
          simp only [c3, decide_false, Bool.false_eq_true, not_false_eq_true, decide_true]
          rw [f13_r18, f13_r18_B, if_pos rfl, if_pos (by omega), f13_c19, f13_c19_B, hw]
      · obtain ⟨B', g1, g2, g3⟩ := skip
        refine ⟨B', g1, g2, fun res h => Ev2.step (fun k n => ?_) (g3 res h)⟩
        rw [start, if_neg c2]
        exact no k n
theorem net_ev (a : List Int) : ∃ (N : List Pt) (E : List Ed) (B : List Pt), GoodN N ∧ 2 ≤ N.length ∧ N.length ≤ 8 ∧ GoodE N.length E ∧ E.length ≤ 16 ∧ GoodB E B ∧ B.length ≤ 3 ∧ Ev (fun k => f13 k a) ((N, (E, B)), ()) := by
  obtain ⟨a1, N, n1, n2, n3, n4⟩ := nodes_loop 8 a [] rfl ⟨List.nodup_nil, fun q hq => by cases hq⟩
  have l1 := next_lt (a := a1) (n := 17) (by omega)
  obtain ⟨c1, hc1⟩ : ∃ c : Nat, (nextF a1 17).2 = (c : Int) := ⟨(nextF a1 17).2.toNat, by omega⟩
  obtain ⟨a2, E, e1, e2, e3⟩ := edges_loop N n2 n3 c1 (by omega) c1 0 (nextF a1 17).1 [] (by omega) (by simp) (fun e he => by cases he)
  have l2 := next_lt (a := a2) (n := 4) (by omega)
  obtain ⟨c2, hc2⟩ : ∃ c : Nat, (nextF a2 4).2 = (c : Int) := ⟨(nextF a2 4).2.toNat, by omega⟩
  obtain ⟨B, b1, b2, b3⟩ := bans_loop N E (by omega) c2 (by omega) c2 0 (nextF a2 4).1 [] (by omega) (by simp) ⟨List.nodup_nil, fun b hb => by cases hb⟩
  obtain ⟨B', p1, p2⟩ := sortB_ev B (by omega)
  refine ⟨N, E, B', n1, n2, n3, e1, by omega, ⟨p1.nodup_iff.2 b1.1, fun b hb => b1.2 b (p1.mem_iff.1 hb)⟩, by have := p1.length_eq; omega, ?_⟩
  simp only [f13, f13_entry_B]
  refine (n4 _ ?_).diag
  simp only [next_eq _ a1 17 (show (1 : Int) ≤ 17 by omega) (show (17 : Int) ≤ 1000000000000 by omega), Option.bind_some, hc1]
  refine (e3 _ ?_).diag
  simp only [next_eq _ a2 4 (show (1 : Int) ≤ 4 by omega) (show (4 : Int) ≤ 1000000000000 by omega), Option.bind_some, hc2]
  refine (b3 _ ?_).diag
  simp only [f13_b6, f13_b6_B]
  exact p2.bind (Ev.pure _)
/-! ### They are valid -/
theorem nodF_zero : ∀ (l pre : List Pt), (∀ p ∈ l, okP p) → (pre ++ l).Nodup → nodF pre l = 0
  | [], _, _, _ => rfl
  | p :: l, pre, h, hn => by
    simp only [nodF]
    rw [if_pos (h p (List.mem_cons_self ..)), if_neg, nodF_zero l (pre ++ [p]) (fun q hq => h q (List.mem_cons_of_mem _ hq)) (by simpa using hn)]
    intro hp
    exact (List.nodup_append.1 hn).2.2 p hp p (List.mem_cons_self ..) rfl
theorem edF_zero {n : Nat} : ∀ {E : List Ed}, (∀ e ∈ E, ¬ badE n e ∧ e.1 ≠ e.2.1) → edF n E = 0
  | [], _ => rfl
  | e :: l, h => by
    simp only [edF]
    rw [if_neg (h e (List.mem_cons_self ..)).1, if_neg (h e (List.mem_cons_self ..)).2]
    exact edF_zero fun e' he => h e' (List.mem_cons_of_mem _ he)
theorem banF_zero {E : List Ed} : ∀ (l pre : List Pt), (∀ b ∈ l, inR b.1 E.length ∧ inR b.2 E.length ∧ toE E b.1 = fromE E b.2) → (pre ++ l).Nodup → banF E pre l = 0
  | [], _, _, _ => rfl
  | b :: l, pre, h, hn => by
    have hb := h b (List.mem_cons_self ..)
    simp only [banF]
    rw [if_pos ⟨hb.1, hb.2.1⟩, if_pos hb.2.2, if_neg, banF_zero l (pre ++ [b]) (fun q hq => h q (List.mem_cons_of_mem _ hq)) (by simpa using hn)]
    intro hp
    exact (List.nodup_append.1 hn).2.2 b hp b (List.mem_cons_self ..) rfl
theorem made_valid {N : List Pt} {E : List Ed} {B : List Pt} (h1 : GoodN N) (h2 : N.length ≤ 8) (h3 : GoodE N.length E) (h4 : E.length ≤ 16) (h5 : GoodB E B) (h6 : B.length ≤ 3) : netF (N, (E, B)) = 0 := by
  unfold netF
  simp only
  have k1 := nodF_zero N [] (fun p hp => by
    have := h1.2 p hp
    unfold okP
    rw [cut_in (by omega) (by omega), cut_in (by omega) (by omega)]
    exact ⟨rfl, rfl⟩) (by simpa using h1.1)
  have k2 : edF N.length E = 0 := edF_zero fun e he => by
    have := h3 e he
    exact ⟨fun hb => by unfold badE at hb; rcases hb with hb | hb | hb | hb <;> first | exact hb this.1 | exact hb this.2.1 | omega, this.2.2.1⟩
  have k3 := banF_zero (E := E) B [] h5.2 (by simpa using h5.1)
  rw [if_neg (by omega), if_pos k1, if_pos k2, k3]
end Go.Proofs.Ytoebjlimpnmaoaa.Rw

namespace Go.Proofs.Ytoebjlimpnmaoaa.Rw
open Go.Rx
set_option linter.unusedVariables false
set_option linter.unusedSimpArgs false
theorem goodE_cost {n : Nat} {E : List Ed} (h : GoodE n E) : ∀ k, inR k E.length → 0 ≤ costE E k ∧ costE E k ≤ 20 := fun k hk => by
  have hi : k.toNat < E.length := by have := hk.1; have := hk.2; omega
  have hm : E.getD k.toNat zE ∈ E := by
    rw [List.getD_eq_getElem?_getD, List.getElem?_eq_getElem hi]; exact List.getElem_mem hi
  have := h _ hm
  unfold costE; omega
end Go.Proofs.Ytoebjlimpnmaoaa.Rw

namespace Go.Proofs.Ytoebjlimpnmaoaa.Rw
open Go.Rx
set_option linter.unusedVariables false
set_option linter.unusedSimpArgs false
abbrev St := Int × Int
/-- A step within the bounds. -/
abbrev goodS (s : St) : Prop := 0 ≤ s.1 ∧ s.1 ≤ 1073741824 ∧ 0 ≤ s.2 ∧ s.2 ≤ 1073741824
def crvFrom : Option St → List St → Int
  | _, [] => 0
  | none, s :: r => if goodS s then crvFrom (some s) r else 1
  | some q, s :: r => if goodS s then (if q.1 ≥ s.1 then 9 else if q.1 + q.2 > s.1 + s.2 then 19 else crvFrom (some s) r) else 1
def crvF (l : List St) : Int := if l.length > 24 then 2 else if l.length = 0 then 14 else crvFrom none l
/-- A valid curve: from a step on. -/
def ChainC : St → List St → Prop
  | a, [] => goodS a
  | a, b :: r => goodS a ∧ a.1 < b.1 ∧ a.1 + a.2 ≤ b.1 + b.2 ∧ ChainC b r
def ValidC : List St → Prop
  | [] => False
  | a :: r => (a :: r).length ≤ 24 ∧ ChainC a r
theorem chain_good {a : St} {r : List St} (h : ChainC a r) : goodS a := by
  cases r with
  | nil => exact h
  | cons b r => exact h.1
theorem crvFrom_zero : ∀ (r : List St) (q : St), goodS q → (crvFrom (some q) r = 0 ↔ ChainC q r)
  | [], q, hq => ⟨fun _ => hq, fun _ => rfl⟩
  | s :: r, q, hq => by
    have ih := crvFrom_zero r s
    simp only [crvFrom, ChainC]
    by_cases h1 : goodS s
    · rw [if_pos h1]
      by_cases h2 : q.1 ≥ s.1
      · rw [if_pos h2]
        exact ⟨fun h => by omega, fun h => by omega⟩
      · rw [if_neg h2]
        by_cases h3 : q.1 + q.2 > s.1 + s.2
        · rw [if_pos h3]
          exact ⟨fun h => by omega, fun h => by omega⟩
        · rw [if_neg h3]
          exact ⟨fun h => ⟨hq, by omega, by omega, (ih h1).1 h⟩, fun h => (ih h1).2 h.2.2.2⟩
    · rw [if_neg h1]
      exact ⟨fun h => by omega, fun h => absurd (chain_good h.2.2.2) h1⟩
theorem crvF_zero (l : List St) : crvF l = 0 ↔ ValidC l := by
  unfold crvF
  cases l with
  | nil => simp [ValidC]
  | cons a r =>
    simp only [ValidC]
    by_cases h : (a :: r).length > 24
    · rw [if_pos h]
      exact ⟨fun h => by omega, fun h => by omega⟩
    rw [if_neg h, if_neg (by simp)]
    simp only [crvFrom]
    by_cases h1 : goodS a
    · rw [if_pos h1]
      exact ⟨fun hh => ⟨by omega, (crvFrom_zero r a h1).1 hh⟩, fun hh => (crvFrom_zero r a h1).2 hh.2⟩
    · rw [if_neg h1]
      exact ⟨fun h => by omega, fun h => absurd (chain_good h.2) h1⟩
/-- The cost between two steps. -/
def segC (a b : St) (t : Int) : Int := a.2 + (b.2 - a.2) * (t - a.1) / (b.1 - a.1)
def atFrom : St → List St → Int → Int
  | a, [], _ => a.2
  | a, b :: r, t => if t ≤ b.1 then segC a b t else atFrom b r t
def atC : List St → Int → Int
  | [], _ => 0
  | a :: r, t => if t ≤ a.1 then a.2 else atFrom a r t
theorem mul_bound {x y : Int} (h1 : -1073741824 ≤ x) (h2 : x ≤ 1073741824) (h3 : 0 ≤ y) (h4 : y ≤ 1073741824) : -1152921504606846976 ≤ x * y ∧ x * y ≤ 1152921504606846976 := by
  have a1 : x * y ≤ 1073741824 * y := Int.mul_le_mul_of_nonneg_right h2 h3
  have a2 : -1073741824 * y ≤ x * y := Int.mul_le_mul_of_nonneg_right h1 h3
  omega
/-- Between two steps the cost lies between theirs. -/
theorem segC_range {a b : St} {t : Int} (hd : a.1 < b.1) (h0 : a.1 ≤ t) (h1 : t ≤ b.1) :
    (a.2 ≤ b.2 → a.2 ≤ segC a b t ∧ segC a b t ≤ b.2) ∧ (b.2 ≤ a.2 → b.2 ≤ segC a b t ∧ segC a b t ≤ a.2) := by
  unfold segC
  have hp : 0 < b.1 - a.1 := by omega
  refine ⟨fun h => ?_, fun h => ?_⟩
  · have l1 : 0 ≤ (b.2 - a.2) * (t - a.1) := Int.mul_nonneg (by omega) (by omega)
    have l2 : (b.2 - a.2) * (t - a.1) ≤ (b.2 - a.2) * (b.1 - a.1) := Int.mul_le_mul_of_nonneg_left (by omega) (by omega)
    have l3 : 0 ≤ (b.2 - a.2) * (t - a.1) / (b.1 - a.1) := Int.ediv_nonneg l1 (by omega)
    have l4 : (b.2 - a.2) * (t - a.1) / (b.1 - a.1) ≤ b.2 - a.2 := Int.ediv_le_of_le_mul hp (by omega)
    omega
  · have l1 : (b.2 - a.2) * (t - a.1) ≤ 0 := Int.mul_nonpos_of_nonpos_of_nonneg (by omega) (by omega)
    have l2 : (b.2 - a.2) * (b.1 - a.1) ≤ (b.2 - a.2) * (t - a.1) := Int.mul_le_mul_of_nonpos_left (by omega) (by omega)
    have l3 : (b.2 - a.2) * (t - a.1) / (b.1 - a.1) ≤ 0 := by
      have := Int.ediv_le_ediv hp l1
      simpa using this
    have l4 : b.2 - a.2 ≤ (b.2 - a.2) * (t - a.1) / (b.1 - a.1) := Int.le_ediv_of_mul_le hp l2
    omega
theorem segC_good {a b : St} {t : Int} (ha : goodS a) (hb : goodS b) (hd : a.1 < b.1) (h0 : a.1 ≤ t) (h1 : t ≤ b.1) : 0 ≤ segC a b t ∧ segC a b t ≤ 1073741824 := by
  obtain ⟨r1, r2⟩ := segC_range hd h0 h1
  unfold goodS at ha hb
  rcases Int.le_total a.2 b.2 with h | h
  · have := r1 h; omega
  · have := r2 h; omega
theorem atFrom_good : ∀ (r : List St) (a : St) (t : Int), ChainC a r → a.1 ≤ t → 0 ≤ atFrom a r t ∧ atFrom a r t ≤ 1073741824
  | [], a, t, h, _ => by have := chain_good h; unfold goodS at this; simp only [atFrom]; omega
  | b :: r, a, t, h, h0 => by
    obtain ⟨ha, hd, hs, hc⟩ := h
    simp only [atFrom]
    by_cases h1 : t ≤ b.1
    · rw [if_pos h1]
      exact segC_good ha (chain_good hc) hd h0 h1
    · rw [if_neg h1]
      exact atFrom_good r b t hc (by omega)
theorem atC_good {l : List St} {t : Int} (h : ValidC l) : 0 ≤ atC l t ∧ atC l t ≤ 1073741824 := by
  cases l with
  | nil => exact h.elim
  | cons a r =>
    simp only [atC]
    by_cases h1 : t ≤ a.1
    · rw [if_pos h1]
      have := chain_good h.2
      unfold goodS at this
      omega
    · rw [if_neg h1]
      exact atFrom_good r a t h.2 (by omega)
theorem segC_mono {a b : St} {t t' : Int} (hd : a.1 < b.1) (hs : a.1 + a.2 ≤ b.1 + b.2) (h : t ≤ t') : t + segC a b t ≤ t' + segC a b t' := by
  unfold segC
  have hp : 0 < b.1 - a.1 := by omega
  have e : (b.2 - a.2) * (t' - a.1) = (b.2 - a.2) * (t - a.1) + (b.2 - a.2) * (t' - t) := by rw [← Int.mul_add]; congr 1; omega
  have l1 : -(b.1 - a.1) * (t' - t) ≤ (b.2 - a.2) * (t' - t) := Int.mul_le_mul_of_nonneg_right (by omega) (by omega)
  have l2 : (b.2 - a.2) * (t - a.1) + -(t' - t) * (b.1 - a.1) ≤ (b.2 - a.2) * (t' - a.1) := by
    have : -(t' - t) * (b.1 - a.1) = -(b.1 - a.1) * (t' - t) := by rw [Int.neg_mul, Int.neg_mul, Int.mul_comm]
    omega
  have l3 := Int.ediv_le_ediv hp l2
  rw [Int.add_mul_ediv_right _ _ (by omega)] at l3
  omega
theorem segC_end {a b : St} (hd : a.1 < b.1) : segC a b b.1 = b.2 := by
  unfold segC
  rw [Int.mul_ediv_cancel _ (by omega)]
  omega
theorem atFrom_start : ∀ (r : List St) (a : St), ChainC a r → atFrom a r a.1 = a.2
  | [], a, _ => rfl
  | b :: r, a, h => by
    simp only [atFrom]
    rw [if_pos (by have := h.2.1; omega)]
    unfold segC
    simp
theorem atFrom_mono : ∀ (r : List St) (a : St) (t t' : Int), ChainC a r → a.1 ≤ t → t ≤ t' → t + atFrom a r t ≤ t' + atFrom a r t'
  | [], a, t, t', _, _, h => by simp only [atFrom]; omega
  | b :: r, a, t, t', hc, h0, h => by
    obtain ⟨ha, hd, hs, hc2⟩ := hc
    simp only [atFrom]
    by_cases h1 : t' ≤ b.1
    · rw [if_pos h1, if_pos (by omega)]
      exact segC_mono hd hs h
    · rw [if_neg h1]
      by_cases h2 : t ≤ b.1
      · rw [if_pos h2]
        have m1 := segC_mono (t := t) (t' := b.1) hd hs h2
        rw [segC_end hd] at m1
        have m2 := atFrom_mono r b b.1 t' hc2 (Int.le_refl _) (by omega)
        rw [atFrom_start r b hc2] at m2
        omega
      · rw [if_neg h2]
        exact atFrom_mono r b t t' hc2 (by omega) h
theorem atC_mono {l : List St} {t t' : Int} (hv : ValidC l) (h : t ≤ t') : t + atC l t ≤ t' + atC l t' := by
  cases l with
  | nil => exact hv.elim
  | cons a r =>
    simp only [atC]
    by_cases h1 : t' ≤ a.1
    · rw [if_pos h1, if_pos (by omega)]
      omega
    · rw [if_neg h1]
      by_cases h2 : t ≤ a.1
      · rw [if_pos h2]
        have m := atFrom_mono r a a.1 t' hv.2 (Int.le_refl _) (by omega)
        rw [atFrom_start r a hv.2] at m
        omega
      · rw [if_neg h2]
        exact atFrom_mono r a t t' hv.2 (by omega) h
end Go.Proofs.Ytoebjlimpnmaoaa.Rw

namespace Go.Proofs.Ytoebjlimpnmaoaa.Rw
open Go.Rx
set_option linter.unusedVariables false
set_option linter.unusedSimpArgs false
def PrevC (pre : List St) : Option St → Prop
  | none => pre = []
  | some q => goodS q ∧ ∃ p0, pre = p0 ++ [q]
theorem pred_nat (n : Nat) (h : (n : Int) ≤ 1000000) : w64 (((n + 1 : Nat) : Int) - 1) = (n : Int) := by rw [w64_id (by omega) (by omega)]; omega
theorem crv_loop (c : List St) (hc : c.length ≤ 24) : ∀ (l pre : List St) (p : Option St), pre ++ l = c → PrevC pre p →
    Ev2 (fun k n => f53_l0 k n c (c.length : Int) (pre.length : Int)) (crvFrom p l, ())
  | [], pre, p, hpl, hp => by
    subst hpl
    refine Ev2.step (g := fun _ _ => some (0, ())) (fun k n => by rw [f53_l0, f53_l0_B, if_neg (by simp)]) ?_
    cases p <;> exact Ev2.pure _
  | s :: l, pre, p, hpl, hp => by
    have h0 : (0 : Int) ≤ (pre.length : Int) := by omega
    have h1 : (pre.length : Int) < (c.length : Int) := by rw [← hpl]; simp; omega
    have hg : c.getD ((pre.length : Int)).toNat (0, 0) = s := by rw [← hpl]; exact getD_mid
    have hpre : pre.length ≤ 24 := by rw [← hpl] at hc; simp at hc; omega
    have hw : w64 ((pre.length : Int) + 1) = (((pre ++ [s]).length : Nat) : Int) := by
      rw [w64_id (by omega) (by omega)]; simp
    have bad : ¬ goodS s → crvFrom p (s :: l) = 1 := fun h => by cases p <;> simp only [crvFrom, if_neg h]
    by_cases g1 : s.1 < 0
    · rw [bad (by unfold goodS; omega)]
      refine Ev2.step (g := fun _ _ => some (1, ())) (fun k n => ?_) (Ev2.pure _)
      rw [f53_l0, f53_l0_B, if_pos h1, if_pos h0, if_pos h1, hg, if_pos g1]; rfl
    by_cases g2 : 1073741824 < s.1
    · rw [bad (by unfold goodS; omega)]
      refine Ev2.step (g := fun _ _ => some (1, ())) (fun k n => ?_) (Ev2.pure _)
      rw [f53_l0, f53_l0_B, if_pos h1, if_pos h0, if_pos h1, hg, if_neg g1, if_pos g2]; rfl
    by_cases g3 : s.2 < 0
    · rw [bad (by unfold goodS; omega)]
      refine Ev2.step (g := fun _ _ => some (1, ())) (fun k n => ?_) (Ev2.pure _)
      rw [f53_l0, f53_l0_B, if_pos h1, if_pos h0, if_pos h1, hg, if_neg g1, if_neg g2, if_pos g3]; rfl
    by_cases g4 : 1073741824 < s.2
    · rw [bad (by unfold goodS; omega)]
      refine Ev2.step (g := fun _ _ => some (1, ())) (fun k n => ?_) (Ev2.pure _)
      rw [f53_l0, f53_l0_B, if_pos h1, if_pos h0, if_pos h1, hg, if_neg g1, if_neg g2, if_neg g3, decide_eq_true g4]; rfl
    have hgs : goodS s := by unfold goodS; omega
    have ih := crv_loop c hc l (pre ++ [s]) (some s) (by simp [← hpl]) ⟨hgs, pre, rfl⟩
    rw [← hw] at ih
    cases p with
    | none =>
      have hp0 : pre = [] := hp
      subst hp0
      simp only [crvFrom, if_pos hgs]
      refine Ev2.step (fun k n => ?_) ih
      rw [f53_l0, f53_l0_B, if_pos h1, if_pos h0, if_pos h1, hg, if_neg g1, if_neg g2, if_neg g3, decide_eq_false g4, f53_r8, f53_r8_B, if_neg (by simp), if_neg (by simp), f53_r10, f53_r10_B, if_neg (by simp), if_neg (by simp), f53_r12, f53_r12_B, if_neg (by simp)]
    | some q =>
      obtain ⟨hgq, p0, rfl⟩ := hp
      have h2 : (0 : Int) < ((p0 ++ [q]).length : Int) := by simp
      have hz : w64 (((p0 ++ [q]).length : Int) - 1) = (p0.length : Int) := by
        rw [List.length_append]; exact pred_nat _ (by simp at hpre; omega)
      have h3 : (0 : Int) ≤ (p0.length : Int) := by omega
      have h4 : (p0.length : Int) < (c.length : Int) := by rw [← hpl]; simp; omega
      have hq : c.getD ((p0.length : Int)).toNat (0, 0) = q := by rw [← hpl, List.append_assoc]; exact getD_mid
      have e1 : w64 (s.1 + s.2) = s.1 + s.2 := w64_id (by omega) (by omega)
      have e2 : w64 (q.1 + q.2) = q.1 + q.2 := w64_id (by unfold goodS at hgq; omega) (by unfold goodS at hgq; omega)
      by_cases g5 : s.1 ≤ q.1
      · simp only [crvFrom]
        rw [if_pos hgs, if_pos g5]
        refine Ev2.step (g := fun _ _ => some (9, ())) (fun k n => ?_) (Ev2.pure _)
        rw [f53_l0, f53_l0_B, if_pos h1, if_pos h0, if_pos h1, hg, if_neg g1, if_neg g2, if_neg g3, decide_eq_false g4, f53_r8, f53_r8_B, if_neg (by simp), if_pos h2, hz, if_pos h3, if_pos h4, hq, decide_eq_true g5]; rfl
      by_cases g6 : s.1 + s.2 < q.1 + q.2
      · simp only [crvFrom]
        rw [if_pos hgs, if_neg g5, if_pos g6]
        refine Ev2.step (g := fun _ _ => some (19, ())) (fun k n => ?_) (Ev2.pure _)
        rw [f53_l0, f53_l0_B, if_pos h1, if_pos h0, if_pos h1, hg, if_neg g1, if_neg g2, if_neg g3, decide_eq_false g4, f53_r8, f53_r8_B, if_neg (by simp), if_pos h2, hz, if_pos h3, if_pos h4, hq, decide_eq_false g5, f53_r10, f53_r10_B, if_neg (by simp), if_pos h2, hz, if_pos h3, if_pos h4, if_pos h3, if_pos h4, hq, e1, e2, decide_eq_true g6]; rfl
      · simp only [crvFrom]
        rw [if_pos hgs, if_neg g5, if_neg g6]
        refine Ev2.step (fun k n => ?_) ih
        rw [f53_l0, f53_l0_B, if_pos h1, if_pos h0, if_pos h1, hg, if_neg g1, if_neg g2, if_neg g3, decide_eq_false g4, f53_r8, f53_r8_B, if_neg (by simp), if_pos h2, hz, if_pos h3, if_pos h4, hq, decide_eq_false g5, f53_r10, f53_r10_B, if_neg (by simp), if_pos h2, hz, if_pos h3, if_pos h4, if_pos h3, if_pos h4, hq, e1, e2, decide_eq_false g6, f53_r12, f53_r12_B, if_neg (by simp)]
theorem crv_ev (c : List St) : Ev (fun k => f53 k c) (crvF c, ()) := by
  simp only [f53, f53_entry_B]
  unfold crvF
  by_cases h1 : c.length > 24
  · rw [if_pos h1]
    exact Ev.of (fun k => by rw [if_pos (by omega)]) (Ev.pure _)
  by_cases h2 : c.length = 0
  · rw [if_neg h1, if_pos h2]
    exact Ev.of (fun k => by rw [if_neg (by omega), if_pos (by omega)]) (Ev.pure _)
  rw [if_neg h1, if_neg h2]
  exact Ev.of (fun k => by rw [if_neg (by omega), if_neg (by omega)]; rfl) (crv_loop c (by omega) c [] none rfl rfl).diag
theorem down_eq (k : Nat) (a b : Int) (hb : 0 < b) (h1 : -9223372036854775807 ≤ a) (h2 : a ≤ 9223372036854775807) : f123 k a b = some (a / b, ()) := by
  have e := Int.mul_tdiv_add_tmod a b
  have l1 := Int.tmod_lt_of_pos a hb
  have l2 := Int.lt_tmod_of_pos a hb
  have q1 : -9223372036854775807 ≤ a.tdiv b ∧ a.tdiv b ≤ 9223372036854775807 := by
    have hn := Int.natAbs_tdiv a b
    have hle : (a.tdiv b).natAbs ≤ a.natAbs := by rw [hn]; exact Nat.div_le_self _ _
    omega
  have hb' : ¬ b = 0 := by omega
  simp only [f123, f123_entry_B, f123_c3, f123_c3_B, if_pos hb']
  rw [w64_id (n := a.tdiv b) (by omega) (by omega)]
  by_cases hm : a.tmod b < 0
  · rw [if_pos hm, w64_id (n := a.tdiv b - 1) (by omega) (by omega)]
    congr 2
    have e2 : a = (a.tmod b + b) + b * (a.tdiv b - 1) := by rw [Int.mul_sub]; omega
    conv => rhs; rw [e2]
    rw [Int.add_mul_ediv_left _ _ (by omega), Int.ediv_eq_zero_of_lt (by omega) (by omega)]
    omega
  · rw [if_neg hm]
    congr 2
    have e2 : a = a.tmod b + b * a.tdiv b := by omega
    conv => rhs; rw [e2]
    rw [Int.add_mul_ediv_left _ _ (by omega), Int.ediv_eq_zero_of_lt (by omega) (by omega)]
    omega
theorem at_loop (c : List St) (t : Int) (hc : c.length ≤ 24) (ht : t ≤ 1073741824) : ∀ (l p0 : List St) (a : St), p0 ++ a :: l = c → ChainC a l → a.1 < t →
    Ev2 (fun k n => f108_l0 k n c t ((p0.length + 1 : Nat) : Int)) (atFrom a l t, ())
  | [], p0, a, hpl, hch, hat => by
    have hq : c.getD ((p0.length : Int)).toNat (0, 0) = a := by rw [← hpl]; exact getD_mid
    have hcl : c.length = p0.length + 1 := by rw [← hpl]; simp
    have hz : w64 ((c.length : Int) - 1) = (p0.length : Int) := by rw [hcl]; exact pred_nat _ (by omega)
    refine Ev2.step (g := fun _ _ => some (a.2, ())) (fun k n => ?_) (Ev2.pure _)
    rw [f108_l0, f108_l0_B, if_neg (by omega), hz, if_pos (by omega), if_pos (by omega), hq]
  | s :: l, p0, a, hpl, hch, hat => by
    obtain ⟨hga, hds, hss, hcs⟩ := hch
    have hgs := chain_good hcs
    have ga := hga
    have gs := hgs
    unfold goodS at ga gs
    have hq : c.getD ((p0.length : Int)).toNat (0, 0) = a := by rw [← hpl]; exact getD_mid
    have hs : c.getD (((p0.length + 1 : Nat) : Int)).toNat (0, 0) = s := by
      have e : c = (p0 ++ [a]) ++ s :: l := by simp [← hpl]
      rw [e]; simp
    have hcl : c.length = p0.length + 1 + 1 + l.length := by rw [← hpl]; simp; omega
    have hz : w64 (((p0.length + 1 : Nat) : Int) - 1) = (p0.length : Int) := pred_nat _ (by omega)
    have hw : w64 (((p0.length + 1 : Nat) : Int) + 1) = ((((p0 ++ [a]).length + 1 : Nat)) : Int) := by
      rw [w64_id (by omega) (by omega)]; simp
    have c1 : (((p0.length + 1 : Nat) : Int)) < (c.length : Int) := by omega
    have c2 : (0 : Int) ≤ (p0.length : Int) := by omega
    have c3 : (p0.length : Int) < (c.length : Int) := by omega
    have c4 : (0 : Int) ≤ (((p0.length + 1 : Nat) : Int)) := by omega
    simp only [atFrom]
    by_cases h : t ≤ s.1
    · rw [if_pos h]
      have hb := mul_bound (x := s.2 - a.2) (y := t - a.1) (by omega) (by omega) (by omega) (by omega)
      have hsg := segC_good hga hgs hds (by omega) h
      unfold segC at hsg
      refine Ev2.step (g := fun _ _ => some (segC a s t, ())) (fun k n => ?_) (Ev2.pure _)
      rw [f108_l0, f108_l0_B, if_pos c1, hz, if_pos c2, if_pos c3, if_pos c4, if_pos c1, hs, hq, if_pos h]
      rw [w64_id (n := s.2 - a.2) (by omega) (by omega), w64_id (n := t - a.1) (by omega) (by omega), w64_id (n := (s.2 - a.2) * (t - a.1)) (by omega) (by omega), w64_id (n := s.1 - a.1) (by omega) (by omega), down_eq _ _ _ (by omega) (by omega) (by omega)]
      simp only [Option.bind_some]
      rw [w64_id (by omega) (by omega)]
      rfl
    · rw [if_neg h]
      have ih := at_loop c t hc ht l (p0 ++ [a]) s (by simp [← hpl]) hcs (by omega)
      refine Ev2.step (fun k n => ?_) ih
      rw [f108_l0, f108_l0_B, if_pos c1, hz, if_pos c2, if_pos c3, if_pos c4, if_pos c1, hs, if_neg h, hw]
theorem at_ev {c : List St} {t : Int} (h : ValidC c) (ht : t ≤ 1073741824) : Ev (fun k => f108 k c t) (atC c t, ()) := by
  cases c with
  | nil => exact h.elim
  | cons a r =>
    have hp : (0 : Int) < ((a :: r).length : Int) := by simp
    simp only [f108, f108_entry_B, if_pos hp, atC]
    by_cases h1 : t ≤ a.1
    · rw [if_pos h1]
      exact Ev.of (fun k => by rw [if_pos (by exact h1)]; rfl) (Ev.pure _)
    · rw [if_neg h1]
      exact Ev.of (fun k => by rw [if_neg (by exact h1)]; rfl) (at_loop (a :: r) t h.1 ht r [] a rfl h.2 (by omega)).diag
/-- Arrive of a valid curve. -/
theorem arrive_ev {c : List St} {t : Int} (h : ValidC c) (h0 : 0 ≤ t) : Ev (fun k => f55 k c t) (if t ≤ 1073741824 then (t + atC c t, 0, ()) else (0, 1, ())) := by
  have hb := atC_good (t := t) h
  simp only [f55, f55_entry_B]
  have hA : Ev (fun k => f78 k c t) (if t ≤ 1073741824 then (atC c t, 0, ()) else (0, 1, ())) := by
    simp only [f78, f78_entry_B]
    refine (crv_ev c).bind ?_
    simp only [(crvF_zero c).2 h, not_true_eq_false, if_false, if_neg (show ¬ t < 0 by omega), f78_r4, f78_r4_B]
    by_cases h1 : t ≤ 1073741824
    · rw [if_pos h1]
      refine Ev.of (fun k => by rw [if_neg (by simp; omega)]) ?_
      exact (at_ev h h1).bind (Ev.pure _)
    · rw [if_neg h1]
      exact Ev.of (fun k => by rw [if_pos (by simp; omega)]) (Ev.pure _)
  by_cases h1 : t ≤ 1073741824
  · rw [if_pos h1] at hA ⊢
    refine hA.bind ?_
    simp only [not_true_eq_false, if_false]
    rw [w64_id (by omega) (by omega)]
    exact Ev.pure _
  · rw [if_neg h1] at hA ⊢
    refine hA.bind ?_
    exact Ev.of (fun k => by rw [if_pos (by decide)]) (Ev.pure _)
end Go.Proofs.Ytoebjlimpnmaoaa.Rw

namespace Go.Proofs.Ytoebjlimpnmaoaa.Rw
open Go.Rx
set_option linter.unusedVariables false
set_option linter.unusedSimpArgs false
theorem gset {α : Type} (l : List α) (i j : Nat) (x z : α) : (l.set i x).getD j z = if i = j ∧ i < l.length then x else l.getD j z := by
  simp only [List.getD_eq_getElem?_getD, List.getElem?_set]
  by_cases h : i = j
  · subst h
    by_cases h2 : i < l.length
    · simp [h2]
    · simp [h2, List.getElem?_eq_none (show l.length ≤ i by omega)]
  · simp [h]
def frN (E : List Ed) (i : Nat) : Nat := (E.getD i zE).1.toNat
def toN (E : List Ed) (i : Nat) : Nat := (E.getD i zE).2.1.toNat
def arrC (C : List (List St)) (i : Nat) (t : Int) : Int := t + atC (C.getD i []) t
/-- One can be at a node at a time. -/
inductive Tr (E : List Ed) (C : List (List St)) (s : Nat) (a : Int) : Nat → Int → Prop
  | start : Tr E C s a s a
  | step {i : Nat} {t : Int} : Tr E C s a (frN E i) t → t ≤ 1073741824 → i < E.length → Tr E C s a (toN E i) (arrC C i t)
structure NetC (n : Nat) (E : List Ed) (C : List (List St)) : Prop where
  ends : ∀ i, i < E.length → inR (E.getD i zE).1 n ∧ inR (E.getD i zE).2.1 n
  curves : ∀ i, i < E.length → ValidC (C.getD i [])
  len : C.length = E.length
  few : E.length ≤ 600
theorem NetC.fr {n : Nat} {E : List Ed} {C : List (List St)} (h : NetC n E C) {i : Nat} (hi : i < E.length) : frN E i < n ∧ (E.getD i zE).1 = (frN E i : Int) := by
  have := (h.ends i hi).1
  unfold inR at this; unfold frN; omega
theorem NetC.to {n : Nat} {E : List Ed} {C : List (List St)} (h : NetC n E C) {i : Nat} (hi : i < E.length) : toN E i < n ∧ (E.getD i zE).2.1 = (toN E i : Int) := by
  have := (h.ends i hi).2
  unfold inR at this; unfold toN; omega
theorem NetC.up {n : Nat} {E : List Ed} {C : List (List St)} (h : NetC n E C) {i : Nat} (hi : i < E.length) (t : Int) : t ≤ arrC C i t ∧ arrC C i t ≤ t + 1073741824 := by
  have := atC_good (t := t) (h.curves i hi)
  unfold arrC; omega
theorem NetC.mono {n : Nat} {E : List Ed} {C : List (List St)} (h : NetC n E C) {i : Nat} (hi : i < E.length) {t t' : Int} (ht : t ≤ t') : arrC C i t ≤ arrC C i t' := atC_mono (h.curves i hi) ht
theorem Tr.bound {n : Nat} {E : List Ed} {C : List (List St)} {s : Nat} {a : Int} (h : NetC n E C) (hs : s < n) (h0 : 0 ≤ a) (h1 : a ≤ 1073741824) {v : Nat} {t : Int} (ht : Tr E C s a v t) : v < n ∧ 0 ≤ t ∧ t ≤ 2147483648 := by
  induction ht with
  | start => exact ⟨hs, h0, by omega⟩
  | @step i t h2 h3 hi ih =>
    have := h.up hi t
    exact ⟨(h.to hi).1, by omega, by omega⟩
/-- A row of times at which one can be there, or -1. -/
structure OkL (n : Nat) (E : List Ed) (C : List (List St)) (s : Nat) (a : Int) (L : List Int) : Prop where
  len : L.length = n
  true_ : ∀ v, v < n → 0 ≤ L.getD v 0 → Tr E C s a v (L.getD v 0)
  neg : ∀ v, v < n → L.getD v 0 < 0 → L.getD v 0 = -1
  st : 0 ≤ L.getD s 0 ∧ L.getD s 0 ≤ a
/-- No edge leads somewhere earlier. -/
def Shut (E : List Ed) (C : List (List St)) (L : List Int) (i : Nat) : Prop :=
  0 ≤ L.getD (frN E i) 0 → L.getD (frN E i) 0 ≤ 1073741824 → 0 ≤ L.getD (toN E i) 0 ∧ L.getD (toN E i) 0 ≤ arrC C i (L.getD (frN E i) 0)
def relL (L : List Int) (v : Nat) (t : Int) : List Int := if L.getD v 0 < 0 ∨ t < L.getD v 0 then L.set v t else L
theorem OkL.first {n : Nat} {E : List Ed} {C : List (List St)} {s : Nat} {a : Int} (hs : s < n) (h0 : 0 ≤ a) : OkL n E C s a ((List.replicate n (-1)).set s a) := by
  have hg : ∀ v, v < n → ((List.replicate n (-1 : Int)).set s a).getD v 0 = if s = v then a else -1 := fun v hv => by
    rw [gset]
    simp only [List.length_replicate, hs, and_true]
    split
    · rfl
    · simp [List.getD_eq_getElem?_getD, List.getElem?_replicate, hv]
  refine ⟨by simp, fun v hv h => ?_, fun v hv h => ?_, ?_⟩
  · rw [hg v hv] at h ⊢
    by_cases e : s = v
    · subst e; rw [if_pos rfl]; exact .start
    · rw [if_neg e] at h; omega
  · rw [hg v hv] at h ⊢
    by_cases e : s = v
    · rw [if_pos e] at h; omega
    · rw [if_neg e]
  · rw [hg s hs, if_pos rfl]; omega
theorem rel_len (L : List Int) (v : Nat) (t : Int) : (relL L v t).length = L.length := by unfold relL; split <;> simp
theorem rel_at {L : List Int} {v : Nat} {t : Int} (hv : v < L.length) (w : Nat) : (relL L v t).getD w 0 = if v = w ∧ (L.getD v 0 < 0 ∨ t < L.getD v 0) then t else L.getD w 0 := by
  unfold relL
  by_cases c : L.getD v 0 < 0 ∨ t < L.getD v 0
  · rw [if_pos c, gset]
    by_cases e : v = w
    · rw [if_pos ⟨e, hv⟩, if_pos ⟨e, c⟩]
    · rw [if_neg (fun h => e h.1), if_neg (fun h => e h.1)]
  · rw [if_neg c, if_neg (fun h => c h.2)]
/-- Every place is at most what it was, or was empty. -/
def Below (L' L : List Int) : Prop := ∀ v, 0 ≤ L.getD v 0 → 0 ≤ L'.getD v 0 ∧ L'.getD v 0 ≤ L.getD v 0
theorem rel_below {L : List Int} {v : Nat} {t : Int} (hv : v < L.length) (ht : 0 ≤ t) : Below (relL L v t) L := fun w hw => by
  rw [rel_at hv]
  split
  · rename_i h; obtain ⟨rfl, h⟩ := h; omega
  · omega
theorem OkL.rel {n : Nat} {E : List Ed} {C : List (List St)} {s : Nat} {a : Int} {L : List Int} (h : OkL n E C s a L) {v : Nat} {t : Int} (hv : v < n) (ht : 0 ≤ t) (htr : Tr E C s a v t) : OkL n E C s a (relL L v t) := by
  have hl := h.len
  refine ⟨by rw [rel_len]; exact hl, fun w hw hp => ?_, fun w hw hp => ?_, ?_⟩
  · rw [rel_at (by omega)] at hp ⊢
    split
    · rename_i g; obtain ⟨rfl, _⟩ := g; exact htr
    · rename_i g; rw [if_neg g] at hp; exact h.true_ w hw hp
  · rw [rel_at (by omega)] at hp ⊢
    split
    · rename_i g; rw [if_pos g] at hp; omega
    · rename_i g; rw [if_neg g] at hp; exact h.neg w hw hp
  · have := rel_below (L := L) (v := v) (t := t) (by omega) ht s h.st.1
    have := h.st; omega
/-- A shut row is at most every time at which one can be there. -/
theorem shut_least {n : Nat} {E : List Ed} {C : List (List St)} {s : Nat} {a : Int} (hN : NetC n E C) {L : List Int} (h : OkL n E C s a L) (hS : ∀ i, i < E.length → Shut E C L i) {v : Nat} {t : Int} (ht : Tr E C s a v t) : 0 ≤ L.getD v 0 ∧ L.getD v 0 ≤ t := by
  induction ht with
  | start => exact h.st
  | step h2 h3 hi ih =>
    have k := hS _ hi ih.1 (by omega)
    have := hN.mono hi ih.2
    omega
end Go.Proofs.Ytoebjlimpnmaoaa.Rw

namespace Go.Proofs.Ytoebjlimpnmaoaa.Rw
open Go.Rx
set_option linter.unusedVariables false
set_option linter.unusedSimpArgs false
theorem out_loop (E : List Ed) (u : Int) (hE : E.length ≤ 600) : ∀ (l pre : List Ed) (ks : List Int), pre ++ l = E → ks.length ≤ pre.length → (∀ k : Int, k ∈ ks ↔ 0 ≤ k ∧ k < (pre.length : Int) ∧ fromE E k = u) →
    ∃ ks' : List Int, ks'.length ≤ E.length ∧ (∀ k : Int, k ∈ ks' ↔ 0 ≤ k ∧ k < (E.length : Int) ∧ fromE E k = u) ∧ Ev2 (fun k n => f21_l0 k n ks u (E.length : Int) (pre.length : Int) E) (ks', ())
  | [], pre, ks, hpl, hk, hm => by
    have e : pre = E := by simpa using hpl
    subst e
    exact ⟨ks, hk, hm, Ev2.step (g := fun _ _ => some (ks, ())) (fun k n => by rw [f21_l0, f21_l0_B, if_neg (by simp)]) (Ev2.pure _)⟩
  | e :: l, pre, ks, hpl, hk, hm => by
    have i0 : (0 : Int) ≤ (pre.length : Int) := by omega
    have i1 : (pre.length : Int) < (E.length : Int) := by rw [← hpl]; simp; omega
    have hg : E.getD ((pre.length : Int)).toNat (0, (0, (0, 0))) = e := by rw [← hpl]; exact getD_mid
    have hw : w64 ((pre.length : Int) + 1) = (((pre ++ [e]).length : Nat) : Int) := by
      rw [w64_id (by omega) (by omega)]; simp
    have hpl' : (pre ++ [e]) ++ l = E := by simp [← hpl]
    have hf : fromE E (pre.length : Int) = e.1 := by unfold fromE; exact congrArg Prod.fst hg
    by_cases c : e.1 = u
    · obtain ⟨ks', k1, k2, k3⟩ := out_loop E u hE l (pre ++ [e]) (ks ++ [(pre.length : Int)]) hpl' (by simp; exact hk) (fun k => by
        simp only [List.mem_append, List.mem_singleton, hm, List.length_append, List.length_singleton]
        constructor
        · rintro (h | h)
          · omega
          · subst h; omega
        · intro h
          by_cases g : k = (pre.length : Int)
          · exact .inr g
          · exact .inl (by omega))
      refine ⟨ks', k1, k2, Ev2.step (fun k n => ?_) k3⟩
      rw [f21_l0, f21_l0_B, if_pos i1, if_pos i0, if_pos i1, hg, if_pos c, if_pos (by omega), f21_c6, f21_c6_B, hw]
    · obtain ⟨ks', k1, k2, k3⟩ := out_loop E u hE l (pre ++ [e]) ks hpl' (by simp; omega) (fun k => by
        rw [hm]; simp only [List.length_append, List.length_singleton]
        constructor
        · intro h; omega
        · intro h
          by_cases g : k = (pre.length : Int)
          · subst g; omega
          · omega)
      refine ⟨ks', k1, k2, Ev2.step (fun k n => ?_) k3⟩
      rw [f21_l0, f21_l0_B, if_pos i1, if_pos i0, if_pos i1, hg, if_neg c, f21_c6, f21_c6_B, hw]
theorem out_ev (N : List Pt) (E : List Ed) (B : List Pt) (u : Int) (hE : E.length ≤ 600) :
    ∃ ks' : List Int, ks'.length ≤ E.length ∧ (∀ k : Int, k ∈ ks' ↔ 0 ≤ k ∧ k < (E.length : Int) ∧ fromE E k = u) ∧ Ev (fun k => f21 k (N, (E, B)) u) (ks', ()) := by
  obtain ⟨ks', k1, k2, k3⟩ := out_loop E u hE E [] [] rfl (by simp) (fun k => by simp; omega)
  refine ⟨ks', k1, k2, ?_⟩
  simp only [f21, f21_entry_B]
  exact k3.diag
end Go.Proofs.Ytoebjlimpnmaoaa.Rw

namespace Go.Proofs.Ytoebjlimpnmaoaa.Rw
open Go.Rx
set_option linter.unusedVariables false
set_option linter.unusedSimpArgs false
/-- A node that waits. -/
def Wait (L : List Int) (D : List Bool) (i : Nat) : Prop := 0 ≤ L.getD i 0 ∧ D.getD i false = false
def Pick (L : List Int) (D : List Bool) (m : Nat) (u : Int) : Prop :=
  (u = -1 ∧ ∀ i, i < m → ¬ Wait L D i) ∨ ∃ j : Nat, u = (j : Int) ∧ j < m ∧ Wait L D j ∧ ∀ i, i < m → Wait L D i → L.getD j 0 ≤ L.getD i 0
theorem pick_loop {N B : List Pt} {E : List Ed} {C : List (List St)} {L : List Int} {D : List Bool} (hL : L.length ≤ 200) (hD : D.length = L.length) : ∀ (d i : Nat) (u : Int), i + d = L.length → Pick L D i u →
    ∃ v, Pick L D L.length v ∧ ∀ res, Ev3 (fun k n m => f25_l4 k (fun y4_0 y4_1 y4_2 y72 y76 x1 => f25_l2 k n y4_0 y4_1 y4_2 y72 y76 x1) m N E B L D C v (L.length : Int) (L.length : Int)) res → Ev3 (fun k n m => f25_l4 k (fun y4_0 y4_1 y4_2 y72 y76 x1 => f25_l2 k n y4_0 y4_1 y4_2 y72 y76 x1) m N E B L D C u (L.length : Int) (i : Int)) res
  | 0, i, u, hid, hp => by
    have : i = L.length := by omega
    subst this
    exact ⟨u, hp, fun res h => h⟩
  | d + 1, i, u, hid, hp => by
    have i0 : (0 : Int) ≤ (i : Int) := by omega
    have i1 : (i : Int) < (L.length : Int) := by omega
    have i2 : (i : Int) < (D.length : Int) := by omega
    have hw : w64 ((i : Int) + 1) = ((i + 1 : Nat) : Int) := by rw [w64_id (by omega) (by omega)]; omega
    have skip : ¬ Wait L D i → Pick L D (i + 1) u := fun hn => by
      rcases hp with ⟨h1, h2⟩ | ⟨j, h1, h2, h3, h4⟩
      · exact .inl ⟨h1, fun q hq => by
          by_cases e : q = i
          · rw [e]; exact hn
          · exact h2 q (by omega)⟩
      · exact .inr ⟨j, h1, by omega, h3, fun q hq hw => by
          by_cases e : q = i
          · rw [e] at hw; exact absurd hw hn
          · exact h4 q (by omega) hw⟩
    by_cases c1 : 0 ≤ L.getD i 0
    · by_cases c2 : D.getD i false = true
      · obtain ⟨v, k1, k2⟩ := pick_loop hL hD d (i + 1) u (by omega) (skip (fun h => by have := h.2; rw [c2] at this; cases this))
        refine ⟨v, k1, fun res h => ?_⟩
        refine Ev3.step (fun k n m => ?_) (k2 res h)
        rw [f25_l4, f25_l4_B, if_pos i1, if_pos i0, if_pos i1, Int.toNat_natCast, if_pos c1, if_pos i0, if_pos i2, if_neg (fun h => h c2), f25_r24, f25_r24_B, if_neg (by simp), f25_c25, f25_c25_B, hw]
      · have c2' : D.getD i false = false := by simpa using c2
        have hwi : Wait L D i := ⟨c1, c2'⟩
        rcases hp with ⟨h1, h2⟩ | ⟨j, h1, h2, h3, h4⟩
        · obtain ⟨v, k1, k2⟩ := pick_loop hL hD d (i + 1) (i : Int) (by omega) (.inr ⟨i, rfl, by omega, hwi, fun q hq hw => by
            by_cases e : q = i
            · rw [e]; omega
            · exact absurd hw (h2 q (by omega))⟩)
          refine ⟨v, k1, fun res h => ?_⟩
          refine Ev3.step (fun k n m => ?_) (k2 res h)
          subst h1
          rw [f25_l4, f25_l4_B, if_pos i1, if_pos i0, if_pos i1, Int.toNat_natCast, if_pos c1, if_pos i0, if_pos i2, if_pos c2, if_pos (by omega), f25_r24, f25_r24_B, if_pos rfl, f25_c25, f25_c25_B, hw]
        · have j0 : ¬ u < 0 := by omega
          have j1 : 0 ≤ u := by omega
          have j2 : u < (L.length : Int) := by omega
          by_cases c3 : L.getD i 0 < L.getD j 0
          · obtain ⟨v, k1, k2⟩ := pick_loop hL hD d (i + 1) (i : Int) (by omega) (.inr ⟨i, rfl, by omega, hwi, fun q hq hw => by
              by_cases e : q = i
              · rw [e]; omega
              · have := h4 q (by omega) hw; omega⟩)
            refine ⟨v, k1, fun res h => ?_⟩
            refine Ev3.step (fun k n m => ?_) (k2 res h)
            have c3' : L.getD i 0 < L.getD u.toNat 0 := by rw [h1]; exact c3
            rw [f25_l4, f25_l4_B, if_pos i1, if_pos i0, if_pos i1, Int.toNat_natCast, if_pos c1, if_pos i0, if_pos i2, if_pos c2, if_neg j0, if_pos j1, if_pos j2, decide_eq_true c3', f25_r24, f25_r24_B, if_pos rfl, f25_c25, f25_c25_B, hw]
          · obtain ⟨v, k1, k2⟩ := pick_loop hL hD d (i + 1) u (by omega) (.inr ⟨j, h1, by omega, h3, fun q hq hw => by
              by_cases e : q = i
              · rw [e]; omega
              · exact h4 q (by omega) hw⟩)
            refine ⟨v, k1, fun res h => ?_⟩
            refine Ev3.step (fun k n m => ?_) (k2 res h)
            have c3' : ¬ L.getD i 0 < L.getD u.toNat 0 := by rw [h1]; exact c3
            rw [f25_l4, f25_l4_B, if_pos i1, if_pos i0, if_pos i1, Int.toNat_natCast, if_pos c1, if_pos i0, if_pos i2, if_pos c2, if_neg j0, if_pos j1, if_pos j2, decide_eq_false c3', f25_r24, f25_r24_B, if_neg (by simp), f25_c25, f25_c25_B, hw]
    · obtain ⟨v, k1, k2⟩ := pick_loop hL hD d (i + 1) u (by omega) (skip (fun h => c1 h.1))
      refine ⟨v, k1, fun res h => ?_⟩
      refine Ev3.step (fun k n m => ?_) (k2 res h)
      rw [f25_l4, f25_l4_B, if_pos i1, if_pos i0, if_pos i1, Int.toNat_natCast, if_neg c1, f25_r24, f25_r24_B, if_neg (by simp), f25_c25, f25_c25_B, hw]
/-- What holds between two rounds. -/
structure Front (n : Nat) (E : List Ed) (C : List (List St)) (L : List Int) (D : List Bool) : Prop where
  len : D.length = n
  cut : ∀ u v, u < n → v < n → D.getD u false = true → Wait L D v → L.getD u 0 ≤ L.getD v 0
  done : ∀ u, u < n → D.getD u false = true → 0 ≤ L.getD u 0
  shut : ∀ i, i < E.length → D.getD (frN E i) false = true → Shut E C L i
/-- What holds while the edges that begin at the node u are looked at. -/
structure Mid (n : Nat) (E : List Ed) (C : List (List St)) (u : Nat) (ks : List Int) (L : List Int) (D : List Bool) : Prop where
  len : D.length = n
  at_ : D.getD u false = true
  top : ∀ v, v < n → D.getD v false = true → 0 ≤ L.getD v 0 ∧ L.getD v 0 ≤ L.getD u 0
  low : ∀ v, v < n → Wait L D v → L.getD u 0 ≤ L.getD v 0
  shut : ∀ i, i < E.length → D.getD (frN E i) false = true → (frN E i ≠ u ∨ (i : Int) ∈ ks) → Shut E C L i
theorem Front.mid {n : Nat} {E : List Ed} {C : List (List St)} {L : List Int} {D : List Bool} (h : Front n E C L D) {u : Nat} (hu : u < n) (hw : Wait L D u) (hl : ∀ i, i < n → Wait L D i → L.getD u 0 ≤ L.getD i 0) : Mid n E C u [] L (D.set u true) := by
  have hd := h.len
  have hg : ∀ v, (D.set u true).getD v false = if u = v then true else D.getD v false := fun v => by
    rw [gset]
    by_cases e : u = v
    · rw [if_pos ⟨e, by omega⟩, if_pos e]
    · rw [if_neg (fun z => e z.1), if_neg e]
  refine ⟨by simpa using hd, by rw [hg, if_pos rfl], fun v hv hD => ?_, fun v hv hW => ?_, fun i hi hD hk => ?_⟩
  · rw [hg] at hD
    by_cases e : u = v
    · subst e; exact ⟨hw.1, by omega⟩
    · rw [if_neg e] at hD
      exact ⟨h.done v hv hD, h.cut v u hv hu hD hw⟩
  · obtain ⟨h1, h2⟩ := hW
    rw [hg] at h2
    by_cases e : u = v
    · subst e; omega
    · rw [if_neg e] at h2
      exact hl v hv ⟨h1, h2⟩
  · rw [hg] at hD
    have hne : frN E i ≠ u := hk.resolve_right (by simp)
    rw [if_neg (fun z => hne z.symm)] at hD
    exact h.shut i hi hD
theorem Mid.front {n : Nat} {E : List Ed} {C : List (List St)} {L : List Int} {D : List Bool} {u : Nat} {ks : List Int} (h : Mid n E C u ks L D) (hk : ∀ i, i < E.length → frN E i = u → (i : Int) ∈ ks) : Front n E C L D :=
  ⟨h.len, fun v w hv hw hD hW => by have := (h.top v hv hD).2; have := h.low w hw hW; omega, fun v hv hD => (h.top v hv hD).1, fun i hi hD => h.shut i hi hD (by
    by_cases c : frN E i = u
    · exact .inr (hk i hi c)
    · exact .inl c)⟩
theorem Mid.rel {n : Nat} {E : List Ed} {C : List (List St)} (hN : NetC n E C) {L : List Int} {D : List Bool} {u : Nat} {ks : List Int} (h : Mid n E C u ks L D) (hl : L.length = n) (hu : u < n) {i : Nat} (hi : i < E.length) (hf : frN E i = u) :
    Mid n E C u (ks ++ [(i : Int)]) (relL L (toN E i) (arrC C i (L.getD u 0))) D := by
  obtain ⟨ht, _⟩ := hN.to hi
  have hup := hN.up hi (L.getD u 0)
  have hu0 := (h.top u hu h.at_).1
  have same : ∀ v, v < n → D.getD v false = true → (relL L (toN E i) (arrC C i (L.getD u 0))).getD v 0 = L.getD v 0 := fun v hv hD => by
    rw [rel_at (by omega), if_neg]
    rintro ⟨rfl, g⟩
    have := h.top _ hv hD
    omega
  have eu := same u hu h.at_
  have hb := rel_below (L := L) (v := toN E i) (t := arrC C i (L.getD u 0)) (by omega) (by omega)
  refine ⟨h.len, h.at_, fun v hv hD => ?_, fun v hv hW => ?_, fun j hj hD hk => ?_⟩
  · rw [same v hv hD, eu]; exact h.top v hv hD
  · rw [eu]
    obtain ⟨h1, h2⟩ := hW
    rw [rel_at (by omega)] at h1 ⊢
    split
    · omega
    · rename_i g; rw [if_neg g] at h1; exact h.low v hv ⟨h1, h2⟩
  · have hfj := (hN.fr hj).1
    unfold Shut
    rw [same _ hfj hD]
    intro g0 g1
    by_cases e : j = i
    · subst e
      rw [rel_at (by omega), hf]
      split
      · omega
      · rename_i g
        have : ¬ (L.getD (toN E j) 0 < 0 ∨ arrC C j (L.getD u 0) < L.getD (toN E j) 0) := fun z => g ⟨rfl, z⟩
        omega
    · have hk' : frN E j ≠ u ∨ (j : Int) ∈ ks := by
        rcases hk with hk | hk
        · exact .inl hk
        · rw [List.mem_append, List.mem_singleton] at hk
          exact .inr (hk.resolve_right (by omega))
      have k := h.shut j hj hD hk' g0 g1
      have := hb _ k.1
      omega
theorem Mid.skip {n : Nat} {E : List Ed} {C : List (List St)} {L : List Int} {D : List Bool} {u : Nat} {ks : List Int} (h : Mid n E C u ks L D) {i : Nat} (hi : i < E.length) (hf : frN E i = u) (hb : 1073741824 < L.getD u 0) : Mid n E C u (ks ++ [(i : Int)]) L D := by
  refine ⟨h.len, h.at_, h.top, h.low, fun j hj hD hk => ?_⟩
  by_cases e : j = i
  · subst e
    unfold Shut; rw [hf]; intro g0 g1; omega
  · refine h.shut j hj hD ?_
    rcases hk with hk | hk
    · exact .inl hk
    · rw [List.mem_append, List.mem_singleton] at hk
      exact .inr (hk.resolve_right (by omega))
end Go.Proofs.Ytoebjlimpnmaoaa.Rw

namespace Go.Proofs.Ytoebjlimpnmaoaa.Rw
open Go.Rx
set_option linter.unusedVariables false
set_option linter.unusedSimpArgs false
theorem rlx_loop {n : Nat} {N B : List Pt} {E : List Ed} {C : List (List St)} {s : Nat} {a : Int} (hN : NetC n E C) (hs : s < n) (h0 : 0 ≤ a) (h1 : a ≤ 1073741824) {u : Nat} (hu : u < n) {D : List Bool} {ks : List Int} (hkl : ks.length ≤ 600) (hks : ∀ k ∈ ks, 0 ≤ k ∧ k < (E.length : Int) ∧ fromE E k = (u : Int)) :
    ∀ (l pre : List Int), pre ++ l = ks → ∀ L, OkL n E C s a L → Mid n E C u pre L D →
    ∃ L', OkL n E C s a L' ∧ Mid n E C u ks L' D ∧ ∀ res, Ev2 (fun k n => f25_l2 k n N E B L' D C) res →
      Ev3 (fun k n m => f25_l6 k (fun y4_0 y4_1 y4_2 y72 y76 x1 => f25_l2 k n y4_0 y4_1 y4_2 y72 y76 x1) m ks N E B L D C (ks.length : Int) (pre.length : Int) (u : Int)) res
  | [], pre, hpl, L, hL, hM => by
    have e : pre = ks := by simpa using hpl
    subst e
    exact ⟨L, hL, hM, fun res h => Ev3.step (fun k n m => by rw [f25_l6, f25_l6_B, if_neg (by simp)]) h.three⟩
  | q :: l, pre, hpl, L, hL, hM => by
    have i0 : (0 : Int) ≤ (pre.length : Int) := by omega
    have i1 : (pre.length : Int) < (ks.length : Int) := by rw [← hpl]; simp; omega
    have hg : ks.getD ((pre.length : Int)).toNat 0 = q := by rw [← hpl]; exact getD_mid
    have hw : w64 ((pre.length : Int) + 1) = (((pre ++ [q]).length : Nat) : Int) := by
      rw [w64_id (by omega) (by omega)]; simp
    have hpl' : (pre ++ [q]) ++ l = ks := by simp [← hpl]
    obtain ⟨q0, q1, q2⟩ := hks q (by rw [← hpl]; simp)
    obtain ⟨i, rfl⟩ : ∃ i : Nat, q = (i : Int) := ⟨q.toNat, by omega⟩
    have hi : i < E.length := by omega
    obtain ⟨hfn, hfe⟩ := hN.fr hi
    obtain ⟨htn, hte⟩ := hN.to hi
    have hf : frN E i = u := by unfold fromE at q2; rw [Int.toNat_natCast] at q2; unfold frN; omega
    have hl := hL.len
    have hcl := hN.len
    have q1' : (i : Int) < (C.length : Int) := by omega
    have u0 : (0 : Int) ≤ (u : Int) := by omega
    have u1 : (u : Int) < (L.length : Int) := by omega
    have hLu := (hM.top u hu hM.at_).1
    have hup := hN.up hi (L.getD u 0)
    have hex : (E.getD i (0, (0, (0, 0)))).2.1 = (toN E i : Int) := hte
    have t0 : (0 : Int) ≤ (toN E i : Int) := by omega
    have t1 : (toN E i : Int) < (L.length : Int) := by omega
    have har := arrive_ev (t := L.getD u 0) (hN.curves i hi) hLu
    by_cases c1 : L.getD u 0 ≤ 1073741824
    · rw [if_pos c1] at har
      have htr : Tr E C s a (toN E i) (arrC C i (L.getD u 0)) := by
        have := hL.true_ u hu hLu
        rw [← hf] at this ⊢
        exact .step this (by rw [hf]; exact c1) hi
      obtain ⟨L', k1, k2, k3⟩ := rlx_loop hN hs h0 h1 hu hkl hks l (pre ++ [(i : Int)]) hpl' _ (hL.rel htn (by omega) htr) (hM.rel hN hl hu hi hf)
      refine ⟨L', k1, k2, fun res h => ?_⟩
      have h5 := k3 res h
      obtain ⟨K, hK⟩ := har
      refine Ev3.stepE K (fun k n m hk => ?_) h5
      have hk' := hK k hk; simp only at hk'
      change f55 k (C.getD i []) (L.getD u 0) = some (arrC C i (L.getD u 0), 0, ()) at hk'
      rw [f25_l6, f25_l6_B, if_pos i1, if_pos i0, if_pos i1, hg, if_pos q0, if_pos q1', if_pos u0, if_pos u1]
      simp only [Int.toNat_natCast, hk', Option.bind_some, if_pos q0, if_pos q1, if_true, hex, if_pos t0, if_pos t1]
      unfold relL
      by_cases c2 : L.getD (toN E i) 0 < 0
      · rw [if_pos c2, if_pos (.inl c2), f25_r35, f25_r35_B, if_pos rfl, if_pos t0, if_pos t1, f25_c36, f25_c36_B, hw, Int.toNat_natCast]
      · rw [if_neg c2]
        by_cases c3 : arrC C i (L.getD u 0) < L.getD (toN E i) 0
        · rw [decide_eq_true c3, if_pos (.inr c3), f25_r35, f25_r35_B, if_pos rfl, if_pos t0, if_pos t1, f25_c36, f25_c36_B, hw, Int.toNat_natCast]
        · rw [decide_eq_false c3, if_neg (by omega), f25_r35, f25_r35_B, if_neg (by simp), f25_c36, f25_c36_B, hw]
    · rw [if_neg c1] at har
      obtain ⟨L', k1, k2, k3⟩ := rlx_loop hN hs h0 h1 hu hkl hks l (pre ++ [(i : Int)]) hpl' L hL (hM.skip hi hf (by omega))
      refine ⟨L', k1, k2, fun res h => ?_⟩
      have h5 := k3 res h
      obtain ⟨K, hK⟩ := har
      refine Ev3.stepE K (fun k n m hk => ?_) h5
      have hk' := hK k hk; simp only at hk'
      have z1 : ¬ (1 : Int) = 0 := by decide
      rw [f25_l6, f25_l6_B, if_pos i1, if_pos i0, if_pos i1, hg, if_pos q0, if_pos q1', if_pos u0, if_pos u1]
      simp only [Int.toNat_natCast, hk', Option.bind_some, if_pos q0, if_pos q1, if_neg z1, f25_r35, f25_r35_B, Bool.false_eq_true, if_false, f25_c36, f25_c36_B, hw]
theorem cnt_set : ∀ (D : List Bool) (u : Nat), u < D.length → D.getD u false = false → (D.set u true).count false < D.count false
  | [], u, hu, h => by simp at hu
  | x :: D, 0, hu, h => by
    have : x = false := by simpa using h
    subst this; simp
  | x :: D, u + 1, hu, h => by
    have := cnt_set D u (by simpa using hu) (by simpa using h)
    simp only [List.set_cons_succ, List.count_cons]
    omega
theorem hours_rounds {n : Nat} {N B : List Pt} {E : List Ed} {C : List (List St)} {s : Nat} {a : Int} (hn : n ≤ 200) (hN : NetC n E C) (hs : s < n) (h0 : 0 ≤ a) (h1 : a ≤ 1073741824) : ∀ (d : Nat) (L : List Int) (D : List Bool), D.count false < d → OkL n E C s a L → Front n E C L D →
    ∃ L', OkL n E C s a L' ∧ (∀ i, i < E.length → Shut E C L' i) ∧ Ev2 (fun k n => f25_l2 k n N E B L D C) (L', 0, ())
  | 0, L, D, hd, hL, hF => by omega
  | d + 1, L, D, hd, hL, hF => by
    have hl := hL.len
    have hdl := hF.len
    obtain ⟨v, hp, hpick⟩ := pick_loop (N := N) (B := B) (E := E) (C := C) (L := L) (D := D) (by omega) (by omega) L.length 0 (-1) (by omega) (.inl ⟨rfl, fun i hi => by omega⟩)
    have hend : ¬ (L.length : Int) < (L.length : Int) := by omega
    rcases hp with ⟨rfl, hno⟩ | ⟨u, rfl, hu, hwu, hmin⟩
    · refine ⟨L, hL, fun i hi => ?_, ?_⟩
      · intro g0 g1
        have hfn := (hN.fr hi).1
        refine hF.shut i hi ?_ g0 g1
        cases hD : D.getD (frN E i) false with
        | true => rfl
        | false => exact absurd ⟨g0, hD⟩ (hno _ (by omega))
      · refine Ev2.step (g := fun k n => f25_l4 k (fun y4_0 y4_1 y4_2 y72 y76 x1 => f25_l2 k n y4_0 y4_1 y4_2 y72 y76 x1) k N E B L D C (-1) (L.length : Int) 0) (fun k n => by rw [f25_l2, f25_l2_B]) ?_
        refine (hpick _ ?_).in_
        exact Ev3.step (g := fun _ _ _ => some (L, 0, ())) (fun k n m => by rw [f25_l4, f25_l4_B, if_neg hend, if_pos (by omega)]) (Ev2.three (Ev2.pure _))
    · have hun : u < n := by omega
      have hM := hF.mid hun hwu (fun i hi => hmin i (by omega))
      obtain ⟨ks, o1, o2, o3⟩ := out_ev N E B (u : Int) hN.few
      obtain ⟨L', k1, k2, k3⟩ := rlx_loop (N := N) (B := B) hN hs h0 h1 hun (by have := hN.few; omega) (fun k hk => (o2 k).1 hk) ks [] rfl L hL hM
      have hF' := k2.front (fun i hi hfr => (o2 _).2 ⟨by omega, by omega, by
        unfold fromE; rw [Int.toNat_natCast]; have := (hN.fr hi).2; rw [hfr] at this; exact this⟩)
      have hc := cnt_set D u (by omega) hwu.2
      obtain ⟨M, m1, m2, m3⟩ := hours_rounds hn hN hs h0 h1 d L' (D.set u true) (by omega) k1 hF'
      refine ⟨M, m1, m2, ?_⟩
      refine Ev2.step (g := fun k n => f25_l4 k (fun y4_0 y4_1 y4_2 y72 y76 x1 => f25_l2 k n y4_0 y4_1 y4_2 y72 y76 x1) k N E B L D C (-1) (L.length : Int) 0) (fun k n => by rw [f25_l2, f25_l2_B]) ?_
      refine (hpick _ ?_).in_
      obtain ⟨K, hK⟩ := o3
      refine Ev3.stepE K (fun k n m hk => ?_) (Ev2.three (k3 _ m3).in_)
      have hk' := hK k hk; simp only at hk'
      rw [f25_l4, f25_l4_B, if_neg hend, if_neg (by omega), if_pos (by omega), if_pos (by omega), hk', Option.bind_some, Int.toNat_natCast]
      rfl
theorem hours_ev {N B : List Pt} {E : List Ed} {C : List (List St)} {s : Nat} {a : Int} (hN : NetC N.length E C) (hl : N.length ≤ 200) (hs : s < N.length) (h0 : 0 ≤ a) (h1 : a ≤ 1073741824) :
    ∃ L', OkL N.length E C s a L' ∧ (∀ i, i < E.length → Shut E C L' i) ∧ Ev (fun k => f25_r15 k N E B C (s : Int) a false) (L', 0, ()) := by
  have hz : ∀ u, (List.replicate N.length false).getD u false = false := fun u => by
    simp only [List.getD_eq_getElem?_getD, List.getElem?_replicate]
    split <;> rfl
  obtain ⟨L', k1, k2, k3⟩ := hours_rounds (N := N) (B := B) hl hN hs h0 h1 _ _ (List.replicate N.length false) (Nat.lt_succ_self _) (OkL.first (E := E) (C := C) hs h0) ⟨by simp, fun u v hu hv hD => (by rw [hz] at hD; cases hD), fun u hu hD => (by rw [hz] at hD; cases hD), fun i hi hD => (by rw [hz] at hD; cases hD)⟩
  refine ⟨L', k1, k2, ?_⟩
  simp only [f25_r15, f25_r15_B, Bool.false_eq_true, if_false]
  refine (repeat_ev (-1) N.length (by omega)).bind ?_
  refine Ev.of (fun k => ?_) k3.diag
  rw [if_pos (by omega), if_pos (by omega), if_pos (by omega), if_pos (by simp; omega), Int.toNat_natCast, Int.toNat_natCast]
end Go.Proofs.Ytoebjlimpnmaoaa.Rw

namespace Go.Proofs.Ytoebjlimpnmaoaa.Rw
open Go.Rx
set_option linter.unusedVariables false
set_option linter.unusedSimpArgs false
theorem later_least {n : Nat} {E : List Ed} {C : List (List St)} {s : Nat} {a a' : Int} (haa : a ≤ a') (hN : NetC n E C) {L : List Int} (h : OkL n E C s a L) (hS : ∀ i, i < E.length → Shut E C L i) {v : Nat} {t : Int} (ht : Tr E C s a' v t) : 0 ≤ L.getD v 0 ∧ L.getD v 0 ≤ t := by
  induction ht with
  | start => have := h.st; omega
  | step h2 h3 hi ih =>
    have k := hS _ hi ih.1 (by omega)
    have := hN.mono hi ih.2
    omega
def cntT (n : Nat) (L : List Int) (T : Int) : Nat := ((List.range n).filter (fun v => decide (0 ≤ L.getD v 0 ∧ L.getD v 0 ≤ T))).length
theorem gap {n : Nat} {E : List Ed} {C : List (List St)} {s : Nat} {a : Int} (hN : NetC n E C) (hs : s < n) (h0 : 0 ≤ a) (hc : ∀ i, i < E.length → ∀ t, atC (C.getD i []) t ≤ 200) {L : List Int} (h : OkL n E C s a L) (hS : ∀ i, i < E.length → Shut E C L i) {T : Int} (hT : a ≤ T) (hT1 : T ≤ 1000000) {v : Nat} {t : Int} (ht : Tr E C s a v t) :
    T < L.getD v 0 → ∃ u, u < n ∧ T < L.getD u 0 ∧ L.getD u 0 ≤ T + 200 := by
  induction ht with
  | start => intro hv; have := h.st; omega
  | @step i t h2 h3 hi ih =>
    intro hv
    have hl := shut_least hN h hS h2
    by_cases c : T < L.getD (frN E i) 0
    · exact ih c
    · have k := hS i hi hl.1 (by omega)
      have hb := hc i hi (L.getD (frN E i) 0)
      unfold arrC at k
      exact ⟨toN E i, (hN.to hi).1, hv, by omega⟩
theorem cnt_up {n : Nat} {L : List Int} {T T' : Int} (hTT : T ≤ T') {u : Nat} (hu : u < n) (h1 : T < L.getD u 0) (h2 : L.getD u 0 ≤ T') (h0 : 0 ≤ T) : cntT n L T < cntT n L T' := by
  unfold cntT
  have hsub : (List.range n).filter (fun v => decide (0 ≤ L.getD v 0 ∧ L.getD v 0 ≤ T)) = ((List.range n).filter (fun v => decide (0 ≤ L.getD v 0 ∧ L.getD v 0 ≤ T'))).filter (fun v => decide (0 ≤ L.getD v 0 ∧ L.getD v 0 ≤ T)) := by
    rw [List.filter_filter]
    refine List.filter_congr fun q _ => ?_
    by_cases g : 0 ≤ L.getD q 0 ∧ L.getD q 0 ≤ T
    · have g' : 0 ≤ L.getD q 0 ∧ L.getD q 0 ≤ T' := ⟨g.1, by omega⟩
      simp only [g, g', decide_true, Bool.and_self]
    · simp only [g, decide_false, Bool.false_and]
  rw [hsub]
  refine List.length_filter_lt_length_iff_exists.2 ⟨u, List.mem_filter.2 ⟨List.mem_range.2 hu, decide_eq_true ⟨by omega, h2⟩⟩, ?_⟩
  simp only [decide_eq_true_eq]
  omega
theorem small_times {n : Nat} {E : List Ed} {C : List (List St)} {s : Nat} {a : Int} (hn : n ≤ 8) (hN : NetC n E C) (hs : s < n) (h0 : 0 ≤ a) (h1 : a ≤ 10000) (hc : ∀ i, i < E.length → ∀ t, atC (C.getD i []) t ≤ 200) {L : List Int} (h : OkL n E C s a L) (hS : ∀ i, i < E.length → Shut E C L i) {v : Nat} (hv : v < n) : L.getD v 0 ≤ a + 1600 := by
  have key : ∀ j : Nat, j ≤ 8 → (∃ u, u < n ∧ a + 200 * (j : Int) < L.getD u 0) → j + 1 ≤ cntT n L (a + 200 * (j : Int)) := fun j => by
    induction j with
    | zero =>
      intro _ _
      have hm : s ∈ (List.range n).filter (fun v => decide (0 ≤ L.getD v 0 ∧ L.getD v 0 ≤ a + 200 * ((0 : Nat) : Int))) := List.mem_filter.2 ⟨List.mem_range.2 hs, decide_eq_true ⟨h.st.1, by have := h.st.2; omega⟩⟩
      have := List.length_pos_of_mem hm
      unfold cntT; omega
    | succ j ih =>
      intro hj hex
      obtain ⟨u, hu, hg⟩ := hex
      have i1 := ih (by omega) ⟨u, hu, by omega⟩
      have hpos : 0 ≤ L.getD u 0 := by omega
      obtain ⟨q, q1, q2, q3⟩ := gap hN hs h0 hc h hS (T := a + 200 * (j : Int)) (by omega) (by omega) (h.true_ u hu hpos) (by omega)
      have := cnt_up (n := n) (L := L) (T := a + 200 * (j : Int)) (T' := a + 200 * ((j + 1 : Nat) : Int)) (by omega) q1 q2 (by omega) (by omega)
      omega
  rcases Int.lt_or_le (a + 1600) (L.getD v 0) with g | g
  · have k := key 8 (by omega) ⟨v, hv, by omega⟩
    have : cntT n L (a + 200 * ((8 : Nat) : Int)) ≤ n := by
      unfold cntT
      refine Nat.le_trans (List.length_filter_le _ _) ?_
      simp
    omega
  · exact g
/-- Later starts: the same nodes, not earlier. -/
theorem waits {n : Nat} {E : List Ed} {C : List (List St)} {s : Nat} {a a' : Int} (hn : n ≤ 8) (hN : NetC n E C) (hs : s < n) (h0 : 0 ≤ a) (haa : a ≤ a') (h1 : a' ≤ 10000) (hc : ∀ i, i < E.length → ∀ t, atC (C.getD i []) t ≤ 200) {L M : List Int} (hL : OkL n E C s a L) (hLS : ∀ i, i < E.length → Shut E C L i) (hM : OkL n E C s a' M) (hMS : ∀ i, i < E.length → Shut E C M i) {v : Nat} (hv : v < n) :
    (L.getD v 0 < 0 ↔ M.getD v 0 < 0) ∧ L.getD v 0 ≤ M.getD v 0 := by
  have up : 0 ≤ M.getD v 0 → 0 ≤ L.getD v 0 ∧ L.getD v 0 ≤ M.getD v 0 := fun g => later_least haa hN hL hLS (hM.true_ v hv g)
  have dn : 0 ≤ L.getD v 0 → 0 ≤ M.getD v 0 := fun g => by
    have ht := hL.true_ v hv g
    have key : ∀ {u : Nat} {t : Int}, Tr E C s a u t → 0 ≤ M.getD u 0 := fun {u t} htr => by
      induction htr with
      | start => exact hM.st.1
      | @step i t h2 h3 hi ih =>
        have := small_times hn hN hs (by omega) h1 hc hM hMS (hN.fr hi).1
        exact (hMS i hi ih (by omega)).1
    exact key ht
  by_cases g : 0 ≤ M.getD v 0
  · have := up g; omega
  · have g2 : ¬ 0 ≤ L.getD v 0 := fun z => g (dn z)
    have e1 := hM.neg v hv (by omega)
    have e2 := hL.neg v hv (by omega)
    omega
end Go.Proofs.Ytoebjlimpnmaoaa.Rw

namespace Go.Proofs.Ytoebjlimpnmaoaa.Rw
open Go.Rx
set_option linter.unusedVariables false
set_option linter.unusedSimpArgs false
theorem edF_good {n : Nat} : ∀ {E : List Ed}, edF n E = 0 → ∀ i, i < E.length → inR (E.getD i zE).1 n ∧ inR (E.getD i zE).2.1 n
  | [], h, i, hi => by simp at hi
  | e :: l, h, i, hi => by
    simp only [edF] at h
    by_cases c : badE n e
    · rw [if_pos c] at h; cases h
    · rw [if_neg c] at h
      by_cases c2 : e.1 = e.2.1
      · rw [if_pos c2] at h; cases h
      · rw [if_neg c2] at h
        cases i with
        | zero =>
          have c' : ¬ badE n e := c
          unfold badE at c'
          simp only [List.getD_cons_zero]
          exact ⟨Classical.not_not.1 (fun z => c' (.inl z)), Classical.not_not.1 (fun z => c' (.inr (.inl z)))⟩
        | succ i => simpa using edF_good h i (by simpa using hi)
theorem netF_parts {n : Nt} (h : netF n = 0) : n.1.length ≤ 200 ∧ n.2.1.length ≤ 600 ∧ n.2.2.length ≤ 600 ∧ edF n.1.length n.2.1 = 0 := by
  unfold netF at h
  split at h
  · cases h
  · split at h
    · split at h
      · rename_i h2; exact ⟨by omega, by omega, by omega, h2⟩
      · rename_i h2; exact absurd h h2
    · rename_i h1; exact absurd h h1
def cvF : List (List St) → Int
  | [] => 0
  | c :: l => if crvF c = 0 then cvF l else crvF c
theorem cvF_good : ∀ {C : List (List St)}, cvF C = 0 → ∀ i, i < C.length → ValidC (C.getD i [])
  | [], h, i, hi => by simp at hi
  | c :: l, h, i, hi => by
    simp only [cvF] at h
    by_cases g : crvF c = 0
    · rw [if_pos g] at h
      cases i with
      | zero => simpa using (crvF_zero c).1 g
      | succ i => simpa using cvF_good h i (by simpa using hi)
    · rw [if_neg g] at h; exact absurd h g
theorem hcv_loop (N B : List Pt) (E : List Ed) (C : List (List St)) (s a : Int) (hC : C.length ≤ 600) {res : List Int × Int × Unit} : ∀ (l pre : List (List St)), pre ++ l = C → (cvF l = 0 → Ev2 (fun k n => f25_l0 k n N E B C s a (C.length : Int) (C.length : Int)) res) →
    Ev2 (fun k n => f25_l0 k n N E B C s a (C.length : Int) (pre.length : Int)) (if cvF l = 0 then res else ([], cvF l, ()))
  | [], pre, hpl, hR => by
    have e : pre = C := by simpa using hpl
    subst e
    exact hR rfl
  | c :: l, pre, hpl, hR => by
    have i0 : (0 : Int) ≤ (pre.length : Int) := by omega
    have i1 : (pre.length : Int) < (C.length : Int) := by rw [← hpl]; simp; omega
    have hg : C.getD ((pre.length : Int)).toNat [] = c := by rw [← hpl]; exact getD_mid
    have hw : w64 ((pre.length : Int) + 1) = (((pre ++ [c]).length : Nat) : Int) := by
      rw [w64_id (by omega) (by omega)]; simp
    obtain ⟨K, hK⟩ := crv_ev c
    simp only [cvF] at hR ⊢
    by_cases g : crvF c = 0
    · simp only [if_pos g] at hR ⊢
      have ih := hcv_loop N B E C s a hC (res := res) l (pre ++ [c]) (by simp [← hpl]) hR
      refine Ev2.stepE K (fun k n hk => ?_) ih
      have hk' := hK k hk; simp only at hk'
      rw [f25_l0, f25_l0_B, if_pos i1, if_pos i0, if_pos i1, hg, hk', Option.bind_some, if_neg (by simp [g]), hw]
    · simp only [if_neg g]
      refine Ev2.stepE (g := fun _ _ => some ([], crvF c, ())) K (fun k n hk => ?_) (Ev2.pure _)
      have hk' := hK k hk; simp only at hk'
      rw [f25_l0, f25_l0_B, if_pos i1, if_pos i0, if_pos i1, hg, hk', Option.bind_some, if_pos g]
/-- Hours in a valid network without bans. -/
theorem hoursOK_ev {N : List Pt} {E : List Ed} {C : List (List St)} {s : Nat} {a : Int} (hv : netF (N, (E, ([] : List Pt))) = 0) (hC : C.length = E.length) (hcv : cvF C = 0) (hs : s < N.length) (h0 : 0 ≤ a) (h1 : a ≤ 1073741824) :
    NetC N.length E C ∧ ∃ L, OkL N.length E C s a L ∧ (∀ i, i < E.length → Shut E C L i) ∧ Ev (fun k => f25 k (N, (E, ([] : List Pt))) C (s : Int) a) (L, 0, ()) := by
  obtain ⟨n1, n2, n3, n4⟩ := netF_parts hv
  have n1 : N.length ≤ 200 := n1
  have n2 : E.length ≤ 600 := n2
  have hN : NetC N.length E C := ⟨edF_good n4, fun i hi => cvF_good hcv i (by omega), hC, n2⟩
  obtain ⟨L, l1, l2, l3⟩ := hours_ev (B := ([] : List Pt)) hN n1 hs h0 h1
  refine ⟨hN, L, l1, l2, ?_⟩
  simp only [f25, f25_entry_B]
  refine (chk_ev (N, (E, ([] : List Pt)))).bind ?_
  simp only [hv, not_true_eq_false, if_false]
  have hend : Ev2 (fun k n => f25_l0 k n N E ([] : List Pt) C (s : Int) a (C.length : Int) (C.length : Int)) (L, 0, ()) := by
    refine Ev2.step (g := fun k _ => f25_r15 k N E ([] : List Pt) C (s : Int) a false) (fun k n => ?_) l3.two
    rw [f25_l0, f25_l0_B, if_neg (by omega), if_neg (by omega), if_neg (by omega), if_neg (by omega), decide_eq_false (by omega)]
  have := (hcv_loop N ([] : List Pt) E C (s : Int) a (by omega) C [] rfl (fun _ => hend)).diag
  rw [if_pos hcv] at this
  refine Ev.of (fun k => ?_) this
  rw [if_neg (by simp), if_neg (by simp only [Classical.not_not]; omega)]
  rfl
end Go.Proofs.Ytoebjlimpnmaoaa.Rw

namespace Go.Proofs.Ytoebjlimpnmaoaa.Rw
open Go.Rx
set_option linter.unusedVariables false
set_option linter.unusedSimpArgs false
theorem plannedE_true (j : Nat) : f26 (j + 30) = some (true, ()) := by kernel_rfl
def evenC (e : Ed) : List St := [(0, e.2.2.1)]
theorem evenC_at (E : List Ed) (i : Nat) (hi : i < E.length) (t : Int) : (E.map evenC).getD i [] = [(0, costE E (i : Int))] ∧ atC ((E.map evenC).getD i []) t = costE E (i : Int) := by
  have e : (E.map evenC).getD i [] = [(0, costE E (i : Int))] := by
    rw [List.getD_eq_getElem?_getD, List.getElem?_map, List.getElem?_eq_getElem hi]
    unfold costE evenC
    rw [Int.toNat_natCast, List.getD_eq_getElem?_getD, List.getElem?_eq_getElem hi]; rfl
  refine ⟨e, ?_⟩
  rw [e]
  simp only [atC, atFrom]
  split <;> rfl
theorem evenC_valid {c : Int} (h0 : 0 ≤ c) (h1 : c ≤ 1073741824) : ValidC [(0, c)] := ⟨by simp, ⟨Int.le_refl 0, by show (0:Int) ≤ 1073741824; decide, h0, h1⟩⟩
theorem evenC_zero {E : List Ed} {n : Nat} : ∀ (l : List Ed), GoodE n l → cvF (l.map evenC) = 0
  | [], _ => rfl
  | e :: l, h => by
    have := h e (List.mem_cons_self ..)
    simp only [List.map_cons, cvF]
    rw [if_pos ((crvF_zero (evenC e)).2 (evenC_valid (by omega) (by omega)))]
    exact evenC_zero (E := E) l (fun x hx => h x (List.mem_cons_of_mem _ hx))
theorem even_times {N : List Pt} {E : List Ed} (hE : GoodE N.length E) (hN8 : N.length ≤ 8) (h2 : 2 ≤ N.length) {a : Int} (ha0 : 0 ≤ a) (ha : a ≤ 1000) (hNC : NetC N.length E (E.map evenC)) {L C : List Int} (hL : OkL N.length E (E.map evenC) 0 a L) (hS : ∀ i, i < E.length → Shut E (E.map evenC) L i) (hC : LeastC N.length E [] 0 C) :
    ∀ v, v < N.length → (C.getD v 0 < 0 → L.getD v 0 = -1) ∧ (0 ≤ C.getD v 0 → L.getD v 0 = a + C.getD v 0) := fun v hv => by
  have hcs := goodE_cost hE
  have hat : ∀ i, i < E.length → ∀ t, atC ((E.map evenC).getD i []) t ≤ 200 := fun i hi t => by
    rw [(evenC_at E i hi t).2]
    have := hcs (i : Int) ⟨by omega, by omega⟩
    omega
  have hsmall : ∀ u, u < N.length → L.getD u 0 ≤ a + 1600 := fun u hu => small_times hN8 hNC (by omega) ha0 (by omega) hat hL hS hu
  have hfr : ∀ i, i < E.length → (frN E i : Int) = fromE E (i : Int) ∧ (toN E i : Int) = toE E (i : Int) := fun i hi => by
    obtain ⟨_, q1⟩ := hNC.fr hi
    obtain ⟨_, q2⟩ := hNC.to hi
    unfold fromE toE
    rw [Int.toNat_natCast]
    exact ⟨q1.symm, q2.symm⟩
  -- where one can be
  have htr : ∀ {u : Nat} {t : Int}, Tr E (E.map evenC) 0 a u t → Rch E [] 0 (u : Int) (t - a) := fun {u t} h => by
    induction h with
    | start => exact .inl ⟨rfl, by omega⟩
    | @step i t h1 h2 hi ih =>
      obtain ⟨e1, e2⟩ := hfr i hi
      have e3 : arrC (E.map evenC) i t = t + costE E (i : Int) := by unfold arrC; rw [(evenC_at E i hi t).2]
      rw [e3, e2]
      rw [e1] at ih
      have hr : inR (i : Int) E.length := ⟨by omega, by omega⟩
      rcases ih with ⟨g1, g2⟩ | ⟨w, k, g1, g2, g3⟩
      · exact .inr ⟨[(i : Int)], _, .one _ hr g1, rfl, by rw [cW_one]; omega⟩
      · exact .inr ⟨w ++ [(i : Int)], _, .snoc w k _ g1 hr g2 (by simp), rfl, by rw [cW_app, cW_one]; omega⟩
  -- and not later
  have hup : ∀ {w : List Int} {k : Int}, Wy E [] 0 w k → 0 ≤ L.getD (toE E k).toNat 0 ∧ L.getD (toE E k).toNat 0 ≤ a + cW E w := fun {w k} h => by
    have hstep : ∀ k, inR k E.length → 0 ≤ L.getD (fromE E k).toNat 0 → 0 ≤ L.getD (toE E k).toNat 0 ∧ L.getD (toE E k).toNat 0 ≤ L.getD (fromE E k).toNat 0 + costE E k := fun k hk h0 => by
      have hi : k.toNat < E.length := by have := hk.1; have := hk.2; omega
      have ek : ((k.toNat : Nat) : Int) = k := by have := hk.1; omega
      obtain ⟨e1, e2⟩ := hfr k.toNat hi
      rw [ek] at e1 e2
      have e1' : (fromE E k).toNat = frN E k.toNat := by omega
      have e2' : (toE E k).toNat = toN E k.toNat := by omega
      have := hS k.toNat hi (by rw [← e1']; exact h0) (by have := hsmall (frN E k.toNat) (hNC.fr hi).1; omega)
      unfold arrC at this
      rw [(evenC_at E k.toNat hi _).2, ek] at this
      rw [e1', e2']; exact this
    induction h with
    | one k h1 h2 =>
      have h0 := hL.st
      have := hstep k h1 (by rw [h2]; exact h0.1)
      rw [h2] at this
      rw [cW_one]
      have e : (0 : Int).toNat = 0 := rfl
      rw [e] at this
      omega
    | snoc w j k hw h1 h2 h3 ih =>
      have := hstep k h1 (by rw [← h2]; exact ih.1)
      rw [← h2] at this
      rw [cW_app, cW_one]
      omega
  have hre : ∀ c, Rch E [] 0 (v : Int) c → 0 ≤ L.getD v 0 ∧ L.getD v 0 ≤ a + c := fun c hc => by
    rcases hc with ⟨g1, rfl⟩ | ⟨w, k, g1, g2, rfl⟩
    · have : v = 0 := by omega
      subst this
      have := hL.st; omega
    · have := hup g1
      rw [g2, Int.toNat_natCast] at this; exact this
  rcases hC.at_ v hv with ⟨g1, g2⟩ | ⟨g1, g2, g3⟩
  · refine ⟨fun _ => ?_, fun z => by omega⟩
    by_cases c : 0 ≤ L.getD v 0
    · exact (g2 _ (htr (hL.true_ v hv c))).elim
    · exact hL.neg v hv (by omega)
  · refine ⟨fun z => by omega, fun _ => ?_⟩
    have h1 := hre _ g2
    have h2 := g3 _ (htr (hL.true_ v hv h1.1))
    omega
theorem even_cmp {n : Nat} (hn : n ≤ 200) {L C : List Int} (hl : L.length = n) (hc : C.length = n) {a : Int} (ha0 : 0 ≤ a) (ha : a ≤ 1000) (hC : ∀ v, v < n → C.getD v 0 ≤ 659706976665600) (h : ∀ v, v < n → (C.getD v 0 < 0 → L.getD v 0 = -1) ∧ (0 ≤ C.getD v 0 → L.getD v 0 = a + C.getD v 0)) : ∀ (d i : Nat), i + d = n →
    Ev2 (fun k m => f5_l2 k m L C a (L.length : Int) (i : Int)) (true, ())
  | 0, i, hi => by
    refine Ev2.step (g := fun _ _ => some (true, ())) (fun k m => ?_) (Ev2.pure _)
    rw [f5_l2, f5_l2_B, if_neg (by omega)]
  | d + 1, i, hi => by
    have ih := even_cmp hn hl hc ha0 ha hC h d (i + 1) (by omega)
    have i0 : (0 : Int) ≤ (i : Int) := by omega
    have i1 : (i : Int) < (L.length : Int) := by omega
    have i2 : (i : Int) < (C.length : Int) := by omega
    have hw : w64 ((i : Int) + 1) = ((i + 1 : Nat) : Int) := by rw [w64_id (by omega) (by omega)]; omega
    obtain ⟨h1, h2⟩ := h i (by omega)
    have h3 := hC i (by omega)
    have r19 : ∀ k r, f5_r19 k r L C false a (L.length : Int) (i : Int) = r L C a (L.length : Int) ((i + 1 : Nat) : Int) := fun k r => by
      rw [f5_r19, f5_r19_B, if_neg (by simp), hw]
    refine Ev2.step (fun k m => ?_) ih
    rw [f5_l2, f5_l2_B]
    simp only [if_pos i0, if_pos i1, if_pos i2, Int.toNat_natCast]
    by_cases c : C.getD i 0 < 0
    · simp only [if_pos c, h1 c, not_true_eq_false, if_false, if_neg (show ¬ 0 ≤ C.getD i 0 by omega)]
      rw [r19]
    · have e := h2 (by omega)
      have hx : w64 (a + C.getD i 0) = a + C.getD i 0 := w64_id (by omega) (by omega)
      simp only [if_neg c, if_pos (show 0 ≤ C.getD i 0 by omega), e, hx, not_true_eq_false, decide_false]
      rw [r19]
theorem even_curves {N : List Pt} {E : List Ed} {n : Nat} (hE : GoodE n E) (hEl : E.length ≤ 600) (x : Int) {res : Bool × Unit} (hend : Ev2 (fun k m => f5_l0 k m (E.map evenC) N E [] x (E.length : Int) (E.length : Int)) res) : ∀ (l pre : List Ed), pre ++ l = E →
    Ev2 (fun k m => f5_l0 k m (pre.map evenC) N E [] x (E.length : Int) (pre.length : Int)) res
  | [], pre, hpl => by
    have e : pre = E := by simpa using hpl
    subst e
    exact hend
  | e :: l, pre, hpl => by
    have i0 : (0 : Int) ≤ (pre.length : Int) := by omega
    have hlt : pre.length < E.length := by rw [← hpl]; simp
    have i1 : (pre.length : Int) < (E.length : Int) := by omega
    have hg : E.getD ((pre.length : Int)).toNat (0, (0, (0, 0))) = e := by rw [← hpl]; exact getD_mid
    have hw : w64 ((pre.length : Int) + 1) = (((pre ++ [e]).length : Nat) : Int) := by
      rw [w64_id (by omega) (by omega)]; simp
    have he := hE e (by rw [← hpl]; simp)
    have ih := even_curves hE hEl x hend l (pre ++ [e]) (by simp [← hpl])
    have hc : ∀ k, f27 k e.2.2.1 = some (evenC e, 0, ()) := fun k => by
      simp only [f27, f27_entry_B]
      rw [if_neg (by omega), decide_eq_false (by omega), f27_r1, f27_r1_B, if_neg (by simp)]
      rfl
    refine Ev2.step (fun k m => ?_) ih
    rw [f5_l0, f5_l0_B, if_pos i1, if_pos i0, if_pos i1, hg, hc, Option.bind_some, if_neg (by simp), if_pos (by rw [List.length_map]; omega), hw, List.map_append]
    rfl
theorem even_law (a : List Int) (x : Int) : Ev (fun k => f5 k a x) (true, ()) := by
  obtain ⟨N, E, B, n1, n2, n3, e1, e2, b1, b2, hnet⟩ := net_ev a
  have hv : netF (N, (E, ([] : List Pt))) = 0 := made_valid n1 n3 e1 e2 ⟨List.nodup_nil, fun b hb => by cases hb⟩ (by simp)
  have hp : Ev (fun k => f23 k a) ((N, (E, ([] : List Pt))), ()) := by
    simp only [f23, f23_entry_B]
    exact hnet.bind (Ev.pure _)
  have l1 := below_lt (x := x) (n := 1000) (by omega)
  obtain ⟨hN, L, k1, k2, k3⟩ := hoursOK_ev (C := E.map evenC) (s := 0) (a := belowF x 1000) hv (by simp) (evenC_zero (E := E) E e1) (by omega) l1.1 (by omega)
  obtain ⟨C, c1, c2⟩ := costs_ev hv (s := 0) ⟨by omega, by omega⟩
  have hcmp := even_times e1 n3 n2 l1.1 (by omega) hN k1 k2 c1
  have hll : (L.length : Int) = (N.length : Int) := by rw [k1.len]
  have hcl : (C.length : Int) = (L.length : Int) := by rw [c1.len, k1.len]
  have hpl : Ev (fun k => f26 k) (true, ()) := Ev.off 30 plannedE_true
  have hloop := (even_cmp (by omega) k1.len c1.len l1.1 (by omega) c1.hi hcmp N.length 0 (by omega)).diag
  have hend : Ev2 (fun k m => f5_l0 k m (E.map evenC) N E [] x (E.length : Int) (E.length : Int)) (true, ()) := by
    refine Ev2.step (g := fun k _ => (f25 k (N, (E, ([] : List Pt))) (E.map evenC) 0 (belowF x 1000)).bind fun r3 => (f28 k (N, (E, ([] : List Pt))) 0).bind fun r4 => (f26 k).bind fun r5 => (if ¬ (r5.1 = true) then (f5_r14 k r3.1 r4.1 (belowF x 1000) true) else (if ¬ (r3.2.1 = 0) then (f5_r14 k r3.1 r4.1 (belowF x 1000) true) else (if ¬ ((r3.1.length : Int) = (N.length : Int)) then (f5_r14 k r3.1 r4.1 (belowF x 1000) true) else (f5_r14 k r3.1 r4.1 (belowF x 1000) (decide (¬ ((r4.1.length : Int) = (r3.1.length : Int))))))))) (fun k m => ?_) ?_
    · rw [f5_l0, f5_l0_B, if_neg (by omega), below_eq k x 1000 (by omega) (by omega), Option.bind_some]
    · refine (k3.bind (c2.bind (hpl.bind ?_))).two
      have z1 : ¬ ¬ (L.length : Int) = (N.length : Int) := fun z => z hll
      simp only [not_true_eq_false, if_false, if_neg z1]
      refine Ev.of (fun k => ?_) hloop
      rw [show decide (¬ (C.length : Int) = (L.length : Int)) = false from decide_eq_false (fun z => z hcl), f5_r14, f5_r14_B, if_neg (by simp)]
      rfl
  simp only [f5, f5_entry_B]
  refine hp.bind ?_
  exact (even_curves e1 (by omega) x hend E [] rfl).diag
/-- **With costs that do not change, one arrives after just these costs.** -/
theorem pure_TimedEven : Pure_TimedEven := by
  rintro ⟨a, x, u⟩ hwf
  exact (even_law a x).get
end Go.Proofs.Ytoebjlimpnmaoaa.Rw
