/- Plain laws for IsoGrows. No condition. -/
import Derived.Test.YtoebjlimpnmaoaaPlIsoGrowsa
namespace Go.Proofs.Ytoebjlimpnmaoaa.Rw
open Go.Rx
set_option linter.unusedVariables false
set_option linter.unusedSimpArgs false
theorem edF_all {n : Nat} : ∀ {E : List Ed}, edF n E = 0 → ∀ i, i < E.length → ¬ badE n (E.getD i zE)
  | [], _, i, hi => by simp at hi
  | e :: l, h, i, hi => by
    unfold edF at h
    split at h
    · cases h
    · rename_i h1
      split at h
      · cases h
      · cases i with
        | zero => exact h1
        | succ i => simpa using edF_all h i (by simpa using hi)
/-- A valid network. -/
structure NetV (N : List Pt) (E : List Ed) (B : List Pt) : Prop where
  n1 : N.length ≤ 200
  n2 : E.length ≤ 600
  n3 : B.length ≤ 600
  ends : ∀ k, inR k E.length → inR (fromE E k) N.length ∧ inR (toE E k) N.length
  cost : CostOK E
theorem netV_of {N : List Pt} {E : List Ed} {B : List Pt} (h : netF (N, (E, B)) = 0) : NetV N E B := by
  unfold netF at h
  split at h
  · cases h
  · rename_i h0
    split at h
    · split at h
      · rename_i h2
        have hb : ∀ k, inR k E.length → ¬ badE N.length (E.getD k.toNat zE) := fun k hk => edF_all (show edF N.length E = 0 from h2) k.toNat (by have := hk.1; have := hk.2; omega)
        have h0' : ¬ (200 < (N.length : Int) ∨ 600 < (E.length : Int) ∨ 600 < (B.length : Int)) := h0
        refine ⟨by omega, by omega, by omega, fun k hk => ?_, fun k hk => ?_⟩
        · have := hb k hk
          unfold badE at this
          refine ⟨?_, ?_⟩
          · exact Decidable.byContradiction fun z => this (.inl z)
          · exact Decidable.byContradiction fun z => this (.inr (.inl z))
        · have := hb k hk
          unfold badE at this
          unfold costE
          constructor <;> omega
      · rename_i h2; exact absurd h h2
    · rename_i h1; exact absurd h h1
def vldF (n : Nt) (L : List Int) : Int := if netF n = 0 then (if ∀ x ∈ L, inR x n.1.length then 0 else 1) else netF n
theorem valid_loop {N B : List Pt} {E : List Ed} (hN : N.length ≤ 1000) : ∀ (rest pre L : List Int), pre ++ rest = L → L.length ≤ 1000 → (∀ x ∈ pre, inR x N.length) →
    Ev2 (fun k n => f57_l0 k n N E B L (L.length : Int) (pre.length : Int)) (if ∀ x ∈ L, inR x N.length then 0 else 1, ())
  | [], pre, L, hpl, hL, hp => by
    have e : pre = L := by simpa using hpl
    subst e
    rw [if_pos hp]
    refine Ev2.step (g := fun _ _ => some (0, ())) (fun k n => ?_) (Ev2.pure _)
    rw [f57_l0, f57_l0_B, if_neg (by omega)]
  | x :: rest, pre, L, hpl, hL, hp => by
    have i0 : (0 : Int) ≤ (pre.length : Int) := by omega
    have hlt : pre.length < L.length := by rw [← hpl]; simp
    have i1 : (pre.length : Int) < (L.length : Int) := by omega
    have hg : L.getD ((pre.length : Int)).toNat 0 = x := by rw [← hpl]; exact getD_mid
    have hw : w64 ((pre.length : Int) + 1) = (((pre ++ [x]).length : Nat) : Int) := by
      rw [w64_id (by omega) (by omega)]; simp
    have hxL : x ∈ L := by rw [← hpl]; simp
    by_cases c : inR x N.length
    · have := valid_loop (E := E) (B := B) hN rest (pre ++ [x]) L (by simp [← hpl]) hL (fun y hy => by
        rcases List.mem_append.1 hy with hy | hy
        · exact hp y hy
        · simp only [List.mem_singleton] at hy; subst hy; exact c)
      refine Ev2.step (fun k n => ?_) this
      have c' := c
      unfold inR at c'
      rw [f57_l0, f57_l0_B, if_pos i1, if_pos i0, if_pos i1, hg, if_neg (by omega), decide_eq_false (by omega), f57_r7, f57_r7_B, if_neg (by simp), hw]
    · rw [if_neg (fun z => c (z x hxL))]
      refine Ev2.step (g := fun _ _ => some (1, ())) (fun k n => ?_) (Ev2.pure _)
      rw [f57_l0, f57_l0_B, if_pos i1, if_pos i0, if_pos i1, hg]
      unfold inR at c
      by_cases d : x < 0
      · rw [if_pos d, f57_r7, f57_r7_B, if_pos rfl]
      · rw [if_neg d, decide_eq_true (by omega), f57_r7, f57_r7_B, if_pos rfl]
theorem valid_ev (n : Nt) (L : List Int) (hL : L.length ≤ 1000) : Ev (fun k => f57 k n L) (vldF n L, ()) := by
  obtain ⟨N, E, B⟩ := n
  simp only [f57, f57_entry_B]
  refine (chk_ev (N, (E, B))).bind ?_
  unfold vldF
  by_cases c : netF (N, (E, B)) = 0
  · simp only [c, not_true_eq_false, if_false, if_true]
    exact (valid_loop (E := E) (B := B) (by have := (netV_of c).n1; omega) L [] L rfl hL (fun x hx => by cases hx)).diag
  · simp only [c, not_false_eq_true, if_true, if_false]
    exact Ev.pure _
theorem row_ext2 {l m : List Int} (hl : l.length = m.length) (h : ∀ i, i < l.length → l.getD i 0 = m.getD i 0) : l = m := by
  refine List.ext_getElem hl fun i h1 h2 => ?_
  have := h i h1
  rw [List.getD_eq_getElem?_getD, List.getD_eq_getElem?_getD, List.getElem?_eq_getElem h1, List.getElem?_eq_getElem h2] at this
  exact this
/-- What Ends says of a way. -/
def endC (E : List Ed) (w : List Int) : Int := if w = [] then -1 else cW E w
theorem ends_at {E : List Ed} {W : List (List Int)} {i : Nat} (hi : i < W.length) : (W.map (endC E)).getD i 0 = endC E (W.getD i []) := by
  rw [List.getD_eq_getElem?_getD, List.getElem?_map, List.getD_eq_getElem?_getD, List.getElem?_eq_getElem hi]; rfl
theorem ends_loop {E : List Ed} {B : List Pt} {s : Int} {l : List Lb} {W : List (List Int)} (hE : E.length ≤ 600) (h : Lab E B s l W) : ∀ (d i : Nat) (R : List Int), i + d = E.length → R.length = E.length → (∀ j, j < i → R.getD j 0 = endC E (W.getD j [])) →
    Ev2 (fun k n => f29_l0 k n R l (l.length : Int) (i : Int)) (W.map (endC E), ())
  | 0, i, R, hi, hR, hj => by
    have e : i = E.length := by omega
    subst e
    rw [show W.map (endC E) = R from (row_ext2 (by rw [hR, List.length_map, h.l2]) (fun j hj' => by rw [ends_at (by rw [h.l2]; omega)]; exact hj j (by omega))).symm]
    refine Ev2.step (g := fun _ _ => some (R, ())) (fun k n => ?_) (Ev2.pure _)
    rw [f29_l0, f29_l0_B, if_neg (by rw [h.l1]; omega)]
  | d + 1, i, R, hi, hR, hj => by
    have hiE : i < E.length := by omega
    have a0 : (0 : Int) ≤ (i : Int) := by omega
    have a1 : (i : Int) < (l.length : Int) := by rw [h.l1]; omega
    have a2 : (i : Int) < (R.length : Int) := by omega
    have hiR : i < R.length := by omega
    have hw : w64 ((i : Int) + 1) = ((i + 1 : Nat) : Int) := by rw [w64_id (by omega) (by omega)]; omega
    have hkn : (l.getD ((i : Int)).toNat (0, (0, (0, (false, false))))).2.2.2.1 = knL l i := by rw [Int.toNat_natCast]; rfl
    by_cases c : W.getD i [] = []
    · have hk := (h.un i hiE c).1
      have := ends_loop hE h d (i + 1) (R.set i (-1)) (by omega) (by simpa using hR) (fun j hj' => by
        rw [gsetN]
        by_cases e : i = j
        · subst e; rw [if_pos ⟨rfl, hiR⟩]; unfold endC; rw [if_pos c]
        · rw [if_neg (fun z => e z.1)]; exact hj j (by omega))
      refine Ev2.step (fun k n => ?_) this
      rw [f29_l0, f29_l0_B, if_pos a1, if_pos a0, if_pos a1, if_pos a0, if_pos a2, hkn, hk, if_neg (by simp), f29_c11, f29_c11_B, hw, Int.toNat_natCast]
    · obtain ⟨hk, c1, _⟩ := h.kn i hiE c
      have c1 : (l.getD ((i : Int)).toNat (0, (0, (0, (false, false))))).1 = cW E (W.getD i []) := by rw [Int.toNat_natCast]; exact c1
      have := ends_loop hE h d (i + 1) ((R.set i (-1)).set i (cW E (W.getD i []))) (by omega) (by simpa using hR) (fun j hj' => by
        rw [gsetN]
        by_cases e : i = j
        · subst e; rw [if_pos ⟨rfl, by simpa using hiR⟩]; unfold endC; rw [if_neg c]
        · rw [if_neg (fun z => e z.1), gsetN, if_neg (fun z => e z.1)]; exact hj j (by omega))
      refine Ev2.step (fun k n => ?_) this
      rw [f29_l0, f29_l0_B, if_pos a1, if_pos a0, if_pos a1, if_pos a0, if_pos a2, hkn, hk, if_pos rfl, if_pos a0, if_pos (by simpa using a2), c1, f29_c11, f29_c11_B, hw, Int.toNat_natCast]
theorem ends_ev {N : List Pt} {E : List Ed} {B : List Pt} (hv : netF (N, (E, B)) = 0) {s : Int} (hs : inR s N.length) : ∃ W, Opt E B s W ∧ Ev (fun k => f29 k (N, (E, B)) s) (W.map (endC E), ()) := by
  have hV := netV_of hv
  have hE := hV.n2
  obtain ⟨nx, n1, n2⟩ := start_ev N (E := E) (B := B) hV.n2 (by have := hV.n3; omega)
  obtain ⟨lf, W, z1, z2, z3⟩ := run_ev (N := N) (B := B) s hV.n2 hV.cost n1
  refine ⟨W, z2, ?_⟩
  simp only [f29, f29_entry_B]
  refine (valid_ev (N, (E, B)) [s] (by simp)).bind ?_
  have hvl : vldF (N, (E, B)) [s] = 0 := by unfold vldF; rw [if_pos hv, if_pos (by simpa using hs)]
  simp only [hvl, not_true_eq_false, if_false]
  have a0 : (0 : Int) ≤ (E.length : Int) := by omega
  have a1 : (E.length : Int) ≤ 1073741824 := by omega
  refine n2.bind (z3.bind ?_)
  simp only [if_pos a0, if_pos a1, Int.toNat_natCast]
  exact (ends_loop hE z1 E.length 0 (List.replicate E.length 0) (by omega) (by simp) (fun j hj => by omega)).diag
/-- A node can be reached at a cost. -/
def Rch (E : List Ed) (B : List Pt) (s v c : Int) : Prop := (v = s ∧ c = 0) ∨ ∃ w k, Wy E B s w k ∧ toE E k = v ∧ cW E w = c
/-- The least costs of all nodes, or -1. -/
structure LeastC (n : Nat) (E : List Ed) (B : List Pt) (s : Int) (C : List Int) : Prop where
  len : C.length = n
  at_ : ∀ v, v < n → (C.getD v 0 = -1 ∧ ∀ c, ¬ Rch E B s (v : Int) c) ∨ (0 ≤ C.getD v 0 ∧ Rch E B s (v : Int) (C.getD v 0) ∧ ∀ c, Rch E B s (v : Int) c → C.getD v 0 ≤ c)
  hi : ∀ v, v < n → C.getD v 0 ≤ 659706976665600
theorem LeastC.one {n : Nat} {E : List Ed} {B : List Pt} {s : Int} {C D : List Int} (h : LeastC n E B s C) (k : LeastC n E B s D) : C = D :=
  row_ext2 (by rw [h.len, k.len]) fun v hv => by
    have hv : v < n := by rw [← h.len]; exact hv
    rcases h.at_ v hv with ⟨h1, h2⟩ | ⟨h1, h2, h3⟩
    · rcases k.at_ v hv with ⟨k1, k2⟩ | ⟨k1, k2, k3⟩
      · omega
      · exact (h2 _ k2).elim
    · rcases k.at_ v hv with ⟨k1, k2⟩ | ⟨k1, k2, k3⟩
      · exact (k2 _ h2).elim
      · have := h3 _ k2; have := k3 _ h2; omega
/-- What the row says after some edges. -/
def CostI (n : Nat) (E : List Ed) (W : List (List Int)) (i : Nat) (R : List Int) : Prop := R.length = n ∧ ∀ v, v < n →
  (R.getD v 0 = -1 ∧ ∀ j : Nat, j < i → toE E (j : Int) = (v : Int) → W.getD j [] = []) ∨
  (0 ≤ R.getD v 0 ∧ (∃ j : Nat, j < i ∧ toE E (j : Int) = (v : Int) ∧ W.getD j [] ≠ [] ∧ R.getD v 0 = cW E (W.getD j [])) ∧ ∀ j : Nat, j < i → toE E (j : Int) = (v : Int) → W.getD j [] ≠ [] → R.getD v 0 ≤ cW E (W.getD j []))
theorem CostI.skip {n : Nat} {E : List Ed} {W : List (List Int)} {i : Nat} {R : List Int} (h : CostI n E W i R) (hn : ∀ v : Nat, v < n → toE E (i : Int) = (v : Int) → W.getD i [] ≠ [] → 0 ≤ R.getD v 0 ∧ R.getD v 0 ≤ cW E (W.getD i [])) : CostI n E W (i + 1) R := by
  refine ⟨h.1, fun v hv => ?_⟩
  rcases h.2 v hv with ⟨h1, h2⟩ | ⟨h1, ⟨j, j1, j2⟩, h3⟩
  · refine .inl ⟨h1, fun j hj ht => ?_⟩
    by_cases e : j = i
    · subst e
      by_cases g : W.getD j [] = []
      · exact g
      · have := hn v hv ht g; omega
    · exact h2 j (by omega) ht
  · refine .inr ⟨h1, ⟨j, by omega, j2⟩, fun j hj ht hw => ?_⟩
    by_cases e : j = i
    · subst e; exact (hn v hv ht hw).2
    · exact h3 j (by omega) ht hw
theorem CostI.set {n : Nat} {E : List Ed} {W : List (List Int)} {i v : Nat} {R : List Int} (h : CostI n E W i R) (hv : v < n) (ht : toE E (i : Int) = (v : Int)) (hw : W.getD i [] ≠ []) (h0 : 0 ≤ cW E (W.getD i [])) (hc : R.getD v 0 < 0 ∨ cW E (W.getD i []) < R.getD v 0) : CostI n E W (i + 1) (R.set v (cW E (W.getD i []))) := by
  have hvR : v < R.length := by rw [h.1]; exact hv
  refine ⟨by simpa using h.1, fun u hu => ?_⟩
  rw [gsetN]
  by_cases e : v = u
  · subst e
    rw [if_pos ⟨rfl, hvR⟩]
    refine .inr ⟨h0, ⟨i, by omega, ht, hw, rfl⟩, fun j hj htj hwj => ?_⟩
    by_cases e : j = i
    · subst e; exact Int.le_refl _
    · rcases h.2 v hv with ⟨h1, h2⟩ | ⟨h1, _, h3⟩
      · exact (hwj (h2 j (by omega) htj)).elim
      · have := h3 j (by omega) htj hwj; omega
  · rw [if_neg (fun z => e z.1)]
    rcases h.2 u hu with ⟨h1, h2⟩ | ⟨h1, ⟨j, j1, j2⟩, h3⟩
    · refine .inl ⟨h1, fun j hj htj => ?_⟩
      by_cases e' : j = i
      · subst e'; omega
      · exact h2 j (by omega) htj
    · refine .inr ⟨h1, ⟨j, by omega, j2⟩, fun j hj htj hwj => ?_⟩
      by_cases e' : j = i
      · subst e'; omega
      · exact h3 j (by omega) htj hwj
theorem costs_loop {N : List Pt} {E : List Ed} {B : List Pt} (hV : NetV N E B) {s : Int} (hs : inR s N.length) {W : List (List Int)} (hW : Opt E B s W) : ∀ (d i : Nat) (R : List Int), i + d = E.length → CostI N.length E W i R →
    ∃ R', CostI N.length E W E.length R' ∧ Ev2 (fun k n => f28_l0 k n R N E B (W.map (endC E)) s ((W.map (endC E)).length : Int) (i : Int)) (R'.set s.toNat 0, ())
  | 0, i, R, hi, hR => by
    have e : i = E.length := by omega
    subst e
    refine ⟨R, hR, Ev2.step (g := fun _ _ => some (R.set s.toNat 0, ())) (fun k n => ?_) (Ev2.pure _)⟩
    rw [f28_l0, f28_l0_B, if_neg (by rw [List.length_map, hW.len]; omega), if_pos hs.1, if_pos (by rw [hR.1]; exact hs.2)]
  | d + 1, i, R, hi, hR => by
    have hiE : i < E.length := by omega
    have hn2 := hV.n2
    have hlm : (W.map (endC E)).length = E.length := by rw [List.length_map, hW.len]
    have a0 : (0 : Int) ≤ (i : Int) := by omega
    have a1 : (i : Int) < ((W.map (endC E)).length : Int) := by omega
    have a2 : (i : Int) < (E.length : Int) := by omega
    have hw : w64 ((i : Int) + 1) = ((i + 1 : Nat) : Int) := by rw [w64_id (by omega) (by omega)]; omega
    have he : (W.map (endC E)).getD ((i : Int)).toNat 0 = endC E (W.getD i []) := by rw [Int.toNat_natCast]; exact ends_at (by rw [hW.len]; exact hiE)
    have ht : (E.getD ((i : Int)).toNat (0, (0, (0, 0)))).2.1 = toE E (i : Int) := rfl
    obtain ⟨_, t0, t1⟩ := hV.ends (i : Int) ⟨a0, a2⟩
    have tn : (toE E (i : Int)).toNat < N.length := by omega
    have et : (((toE E (i : Int)).toNat : Nat) : Int) = toE E (i : Int) := by omega
    have hRl : (R.length : Int) = (N.length : Int) := by rw [hR.1]
    by_cases c : W.getD i [] = []
    · obtain ⟨R', r1, r2⟩ := costs_loop hV hs hW d (i + 1) R (by omega) (hR.skip (fun v _ _ hw => (hw c).elim))
      refine ⟨R', r1, Ev2.step (fun k n => ?_) r2⟩
      rw [f28_l0, f28_l0_B, if_pos a1, if_pos a0, if_pos a1, if_pos a0, if_pos a2, he]
      have : endC E (W.getD i []) = -1 := by unfold endC; rw [if_pos c]
      rw [this, if_neg (by decide), f28_r8, f28_r8_B, if_neg (by simp), f28_c9, f28_c9_B, hw]
    · obtain ⟨y1, y2⟩ := hW.yes i hiE c
      have h0 := y1.cost (fun k hk => (hV.cost k hk).1)
      have hec : endC E (W.getD i []) = cW E (W.getD i []) := by unfold endC; rw [if_neg c]
      have pre : ∀ k n, f28_l0 k (n + 1) R N E B (W.map (endC E)) s ((W.map (endC E)).length : Int) (i : Int) = f28_r8 k (f28_l0 k n) R N E B (W.map (endC E)) s ((W.map (endC E)).length : Int) (i : Int) (decide (R.getD (toE E (i : Int)).toNat 0 < 0 ∨ cW E (W.getD i []) < R.getD (toE E (i : Int)).toNat 0)) (cW E (W.getD i [])) (toE E (i : Int)) := fun k n => by
        rw [f28_l0, f28_l0_B, if_pos a1, if_pos a0, if_pos a1, if_pos a0, if_pos a2, he, hec, if_pos h0, ht, if_pos t0, if_pos (by omega)]
        by_cases g : R.getD (toE E (i : Int)).toNat 0 < 0
        · rw [if_pos g, decide_eq_true (Or.inl g)]
        · rw [if_neg g, if_pos t0, if_pos (by omega)]
          rw [show decide (cW E (W.getD i []) < R.getD (toE E (i : Int)).toNat 0) = decide (R.getD (toE E (i : Int)).toNat 0 < 0 ∨ cW E (W.getD i []) < R.getD (toE E (i : Int)).toNat 0) from decide_eq_decide.2 ⟨.inr, fun z => z.resolve_left g⟩]
      by_cases g : R.getD (toE E (i : Int)).toNat 0 < 0 ∨ cW E (W.getD i []) < R.getD (toE E (i : Int)).toNat 0
      · obtain ⟨R', r1, r2⟩ := costs_loop hV hs hW d (i + 1) _ (by omega) (hR.set tn et.symm c h0 g)
        refine ⟨R', r1, Ev2.step (fun k n => ?_) r2⟩
        rw [pre, decide_eq_true g, f28_r8, f28_r8_B, if_pos rfl, if_pos t0, if_pos (by omega), f28_c9, f28_c9_B, hw]
      · obtain ⟨R', r1, r2⟩ := costs_loop hV hs hW d (i + 1) R (by omega) (hR.skip (fun v hv htv _ => by
          have : v = (toE E (i : Int)).toNat := by omega
          subst this
          omega))
        refine ⟨R', r1, Ev2.step (fun k n => ?_) r2⟩
        rw [pre, decide_eq_false g, f28_r8, f28_r8_B, if_neg (by simp), f28_c9, f28_c9_B, hw]
theorem least_of {N : List Pt} {E : List Ed} {B : List Pt} (hV : NetV N E B) {s : Int} (hs : inR s N.length) {W : List (List Int)} (hW : Opt E B s W) {R : List Int} (hR : CostI N.length E W E.length R) : LeastC N.length E B s (R.set s.toNat 0) := by
  have hsR : s.toNat < R.length := by rw [hR.1]; have := hs.1; have := hs.2; omega
  refine ⟨by simpa using hR.1, fun v hv => ?_, fun v hv => ?_⟩
  rotate_left
  · rw [gsetN]
    split
    · decide
    · rcases hR.2 v hv with ⟨h1, _⟩ | ⟨_, ⟨j, j1, _, j3, j4⟩, _⟩
      · omega
      · have h1 := hW.sz j j1 j3
        have h2 := hV.n2
        have h3 := cW_le (E := E) (M := 1099511627776) (by decide) (fun k hk => (hV.cost k hk).2) (W.getD j []) (hW.yes j j1 j3).1.mem
        have h4 : (1099511627776 : Int) * ((W.getD j []).length : Int) ≤ 1099511627776 * 600 := Int.mul_le_mul_of_nonneg_left (by omega) (by decide)
        omega
  rw [gsetN]
  have hcost : ∀ w k, Wy E B s w k → 0 ≤ cW E w := fun w k h => h.cost (fun k hk => (hV.cost k hk).1)
  by_cases e : s.toNat = v
  · subst e
    rw [if_pos ⟨rfl, hsR⟩]
    have es : ((s.toNat : Nat) : Int) = s := by have := hs.1; omega
    refine .inr ⟨by decide, .inl ⟨es, rfl⟩, fun c hc => ?_⟩
    rcases hc with ⟨_, rfl⟩ | ⟨w, k, h1, _, rfl⟩
    · decide
    · exact hcost w k h1
  · rw [if_neg (fun z => e z.1)]
    have hvs : ¬ (v : Int) = s := fun z => by omega
    have hk : ∀ w k, Wy E B s w k → k.toNat < E.length ∧ ((k.toNat : Nat) : Int) = k := fun w k h => by
      have := h.inR.1; have := h.inR.2; omega
    rcases hR.2 v hv with ⟨h1, h2⟩ | ⟨h1, ⟨j, j1, j2, j3, j4⟩, h3⟩
    · refine .inl ⟨h1, fun c hc => ?_⟩
      rcases hc with ⟨z, _⟩ | ⟨w, k, g1, g2, _⟩
      · exact hvs z
      · obtain ⟨q1, q2⟩ := hk w k g1
        exact hW.no k.toNat q1 (h2 k.toNat q1 (by rw [q2]; exact g2)) w (by rw [q2]; exact g1)
    · refine .inr ⟨h1, .inr ⟨_, _, (hW.yes j j1 j3).1, j2, j4.symm⟩, fun c hc => ?_⟩
      rcases hc with ⟨z, _⟩ | ⟨w, k, g1, g2, rfl⟩
      · exact (hvs z).elim
      · obtain ⟨q1, q2⟩ := hk w k g1
        have hne : W.getD k.toNat [] ≠ [] := fun z => hW.no k.toNat q1 z w (by rw [q2]; exact g1)
        have := h3 k.toNat q1 (by rw [q2]; exact g2) hne
        have := wle_cost ((hW.yes k.toNat q1 hne).2 w (by rw [q2]; exact g1))
        omega
theorem costs_ev {N : List Pt} {E : List Ed} {B : List Pt} (hv : netF (N, (E, B)) = 0) {s : Int} (hs : inR s N.length) : ∃ C, LeastC N.length E B s C ∧ Ev (fun k => f28 k (N, (E, B)) s) (C, ()) := by
  have hV := netV_of hv
  have hn1 := hV.n1
  obtain ⟨W, w1, w2⟩ := ends_ev hv hs
  have hI : CostI N.length E W 0 (List.replicate N.length (-1)) := ⟨by simp, fun v hv => .inl ⟨by rw [List.getD_eq_getElem?_getD, List.getElem?_replicate, if_pos hv]; rfl, fun j hj => by omega⟩⟩
  obtain ⟨R', r1, r2⟩ := costs_loop hV hs w1 E.length 0 _ (by omega) hI
  refine ⟨_, least_of hV hs w1 r1, ?_⟩
  simp only [f28, f28_entry_B]
  refine (valid_ev (N, (E, B)) [s] (by simp)).bind ?_
  have hvl : vldF (N, (E, B)) [s] = 0 := by unfold vldF; rw [if_pos hv, if_pos (by simpa using hs)]
  simp only [hvl, not_true_eq_false, if_false]
  exact (repeat_ev (-1) N.length (by omega)).bind (w2.bind r2.diag)
end Go.Proofs.Ytoebjlimpnmaoaa.Rw

namespace Go.Proofs.Ytoebjlimpnmaoaa.Rw
open Go.Rx
set_option linter.unusedVariables false
set_option linter.unusedSimpArgs false
theorem equal_loop : ∀ (x p : List Int), (p ++ x).length ≤ 1073741824 → Ev2 (fun k n => f20_l0 k n (p ++ x) (p ++ x) ((p ++ x).length : Int) (p.length : Int)) (true, ())
  | [], p, hl => Ev2.step (g := fun _ _ => some (true, ())) (fun k n => by rw [f20_l0, f20_l0_B, if_neg (by simp)]) (Ev2.pure _)
  | a :: x, p, hl => by
    have h0 : (0 : Int) ≤ (p.length : Int) := by omega
    have h1 : (p.length : Int) < ((p ++ a :: x).length : Int) := by simp; omega
    have hw : w64 ((p.length : Int) + 1) = (((p ++ [a]).length : Nat) : Int) := by
      rw [w64_id (by omega) (by simp at hl; omega)]; simp
    have ih := equal_loop x (p ++ [a]) (by simpa using hl)
    rw [show p ++ [a] ++ x = p ++ a :: x by simp] at ih
    refine Ev2.step (fun k n => ?_) ih
    rw [f20_l0, f20_l0_B, if_pos h1, if_pos h0, if_pos h1, if_pos h0, if_pos h1, if_neg (by simp), hw]
theorem equal_ev (l : List Int) (hl : l.length ≤ 1073741824) : Ev (fun k => f20 k l l) (true, ()) := by
  have h := (equal_loop l [] (by simpa using hl)).diag
  refine Ev.of (fun k => ?_) h
  simp only [f20, f20_entry_B, not_true_eq_false, if_false]
  rfl
end Go.Proofs.Ytoebjlimpnmaoaa.Rw

namespace Go.Proofs.Ytoebjlimpnmaoaa.Rw
open Go.Rx
set_option linter.unusedVariables false
set_option linter.unusedSimpArgs false
def belowF (x n : Int) : Int := if x.tmod n < 0 then x.tmod n + n else x.tmod n
theorem below_lt {x n : Int} (h : 1 ≤ n) : 0 ≤ belowF x n ∧ belowF x n < n := by
  have h1 := Int.lt_tmod_of_pos x (show 0 < n by omega)
  have h2 := Int.tmod_lt_of_pos x (show 0 < n by omega)
  unfold belowF
  split <;> omega
theorem below_eq (k : Nat) (x n : Int) (h : 1 ≤ n) (h2 : n ≤ 1000000000000) : f15 k x n = some (belowF x n, ()) := by
  have g1 := Int.lt_tmod_of_pos x (show 0 < n by omega)
  have g2 := Int.tmod_lt_of_pos x (show 0 < n by omega)
  simp only [f15, f15_entry_B, f15_c3, f15_c3_B, belowF]
  rw [if_pos (by omega)]
  split
  · rw [w64_id (by omega) (by omega)]
  · rfl
def nextF (a : List Int) (n : Int) : List Int × Int := if a.length = 0 then (a, 0) else (a.drop 1, belowF (a.getD 0 0) n)
theorem next_lt {a : List Int} {n : Int} (h : 1 ≤ n) : 0 ≤ (nextF a n).2 ∧ (nextF a n).2 < n := by
  unfold nextF
  split
  · exact ⟨by simp, by simp; omega⟩
  · exact below_lt h
theorem next_eq (k : Nat) (a : List Int) (n : Int) (h : 1 ≤ n) (h2 : n ≤ 1000000000000) : f43 k a n = some ((((nextF a n).1, ()), ()), ((nextF a n).2, ())) := by
  have h3 : ¬ n < 1 := by omega
  simp only [f43, f43_entry_B, f43_r1, f43_r1_B, nextF]
  by_cases h0 : a.length = 0
  · simp [h0]
  · rw [if_neg (by omega), decide_eq_false h3, if_neg (by simp), if_pos (by omega), if_pos (by omega), below_eq k _ n h h2, if_neg h0]
    rfl
end Go.Proofs.Ytoebjlimpnmaoaa.Rw

namespace Go.Proofs.Ytoebjlimpnmaoaa.Rw
open Go.Rx
set_option linter.unusedVariables false
set_option linter.unusedSimpArgs false
def cmpB (p q : Pt) : Int := if p.1 = q.1 then w64 (p.2 - q.2) else w64 (p.1 - q.1)
theorem cmpB_eq (k : Nat) (p q : Pt) : f48 k p q = some (cmpB p q, ()) := by
  simp only [f48, f48_entry_B, cmpB]
  by_cases h : p.1 = q.1 <;> simp [h]
theorem swap_perm (y : List Pt) {i j : Nat} (hi : i < y.length) (hj : j < y.length) (z : Pt) : ((y.set i (y.getD j z)).set j (y.getD i z)).Perm y := by
  rw [List.getD_eq_getElem?_getD, List.getElem?_eq_getElem hj, List.getD_eq_getElem?_getD, List.getElem?_eq_getElem hi]
  exact List.set_set_perm hi hj
theorem ins_in {b i : Nat} (hi : (i : Int) ≤ 1000000) : ∀ (j : Nat) (y : List Pt), j ≤ i → j < y.length →
    ∃ y', y'.Perm y ∧ ∀ res, Ev2 (fun k n => f96_l0 k n y' 0 (b : Int) ((i + 1 : Nat) : Int)) res → Ev3 (fun k n m => f96_l2 k (f96_l0 k n) m y 0 (b : Int) (i : Int) (j : Int)) res
  | 0, y, hji, hj => by
    have hw : w64 ((i : Int) + 1) = ((i + 1 : Nat) : Int) := by rw [w64_id (by omega) (by omega)]; omega
    refine ⟨y, List.Perm.refl _, fun res h => Ev3.step (fun k n m => ?_) h.three⟩
    rw [f96_l2, f96_l2_B, if_neg (by omega), f96_r4, f96_r4_B, if_neg (by simp), hw]
  | j + 1, y, hji, hj => by
    have hw : w64 ((i : Int) + 1) = ((i + 1 : Nat) : Int) := by rw [w64_id (by omega) (by omega)]; omega
    have hw1 : w64 (((j + 1 : Nat) : Int) - 1) = (j : Int) := by rw [w64_id (by omega) (by omega)]; omega
    have c0 : (0 : Int) < ((j + 1 : Nat) : Int) := by omega
    have c1 : (0 : Int) ≤ ((j + 1 : Nat) : Int) := by omega
    have c2 : ((j + 1 : Nat) : Int) < (y.length : Int) := by omega
    have c3 : (0 : Int) ≤ (j : Int) := by omega
    have c4 : (j : Int) < (y.length : Int) := by omega
    by_cases hc : cmpB (y.getD (j + 1) (0, 0)) (y.getD j (0, 0)) < 0
    · obtain ⟨y', p1, p2⟩ := ins_in hi j ((y.set (j + 1) (y.getD j (0, 0))).set j (y.getD (j + 1) (0, 0))) (by omega) (by simp; omega)
      refine ⟨y', p1.trans (swap_perm y hj (by omega) (0, 0)), fun res h => Ev3.step (fun k n m => ?_) (p2 res h)⟩
      rw [f96_l2, f96_l2_B, if_pos c0, if_pos c1, if_pos c2, hw1, if_pos c3, if_pos c4]
      simp only [Int.toNat_natCast, cmpB_eq, Option.bind_some]
      rw [show decide (cmpB (y.getD (j + 1) (0, 0)) (y.getD j (0, 0)) < 0) = true from decide_eq_true hc, f96_r4, f96_r4_B, if_pos rfl, hw1, if_pos c3, if_pos c4, if_pos c1, if_pos c2, if_pos c1, if_pos c2, if_pos c3, if_pos (by simp only [List.length_set]; exact c4)]
      simp only [Int.toNat_natCast]
    · refine ⟨y, List.Perm.refl _, fun res h => Ev3.step (fun k n m => ?_) h.three⟩
      rw [f96_l2, f96_l2_B, if_pos c0, if_pos c1, if_pos c2, hw1, if_pos c3, if_pos c4]
      simp only [Int.toNat_natCast, cmpB_eq, Option.bind_some]
      rw [show decide (cmpB (y.getD (j + 1) (0, 0)) (y.getD j (0, 0)) < 0) = false from decide_eq_false hc, f96_r4, f96_r4_B, if_neg (by simp), hw]
theorem ins_out {b : Nat} (hb : b ≤ 1000) : ∀ (d i : Nat) (y : List Pt), b ≤ i + d → y.length = b → i ≤ 1000 →
    ∃ y', y'.Perm y ∧ Ev2 (fun k n => f96_l0 k n y 0 (b : Int) (i : Int)) ((y', ()), ())
  | 0, i, y, hd, hl, hi => ⟨y, List.Perm.refl _, Ev2.step (g := fun _ _ => some ((y, ()), ())) (fun k n => by rw [f96_l0, f96_l0_B, if_neg (by omega)]) (Ev2.pure _)⟩
  | d + 1, i, y, hd, hl, hi => by
    by_cases h : i < b
    · obtain ⟨y1, p1, p2⟩ := ins_in (b := b) (i := i) (by omega) i y (Nat.le_refl _) (by omega)
      obtain ⟨y2, q1, q2⟩ := ins_out hb d (i + 1) y1 (by omega) (p1.length_eq.trans hl) (by omega)
      refine ⟨y2, q1.trans p1, Ev2.step (fun k n => ?_) (p2 _ q2).in_⟩
      rw [f96_l0, f96_l0_B, if_pos (by omega)]
    · exact ⟨y, List.Perm.refl _, Ev2.step (g := fun _ _ => some ((y, ()), ())) (fun k n => by rw [f96_l0, f96_l0_B, if_neg (by omega)]) (Ev2.pure _)⟩
theorem len3 (n : Nat) (h : n ≤ 3) : ∃ r, ∀ k, f68 k (IntKind.u64.wrap (n : Int)) = some (r, ()) := by
  match n, h with
  | 0, _ => exact ⟨0, fun k => by kernel_rfl⟩
  | 1, _ => exact ⟨1, fun k => by kernel_rfl⟩
  | 2, _ => exact ⟨2, fun k => by kernel_rfl⟩
  | 3, _ => exact ⟨2, fun k => by kernel_rfl⟩
theorem sortB_ev (y : List Pt) (h : y.length ≤ 3) : ∃ y', y'.Perm y ∧ Ev (fun k => f47 k y ()) ((y', ()), ()) := by
  obtain ⟨r, hr⟩ := len3 y.length h
  obtain ⟨y', p1, p2⟩ := ins_out (b := y.length) (by omega) y.length 1 y (by omega) rfl (by omega)
  refine ⟨y', p1, ?_⟩
  simp only [f47, f47_entry_B, hr, Option.bind_some]
  have hw : w64 ((y.length : Int) - 0) = (y.length : Int) := by rw [w64_id (by omega) (by omega)]; omega
  have hp : Ev (fun k => f71 k y 0 (y.length : Int) r ()) ((y', ()), ()) := by
    simp only [f71, f71_entry_B]
    refine Ev2.diag (f := fun k n => f71_l0 k n y 0 (y.length : Int) r) ?_
    have hi : Ev (fun k => f96 k y 0 (y.length : Int) ()) ((y', ()), ()) := by
      simp only [f96, f96_entry_B]
      exact p2.diag
    refine Ev2.step (g := fun k _ => (f96 k y 0 (y.length : Int) ()).bind fun r1 => some ((r1.1.1, ()), ())) (fun k n => ?_) (Ev.two (hi.bind (Ev.pure _)))
    rw [f71_l0, f71_l0_B, hw, if_pos (by omega)]
  exact hp.bind (Ev.pure _)
end Go.Proofs.Ytoebjlimpnmaoaa.Rw

namespace Go.Proofs.Ytoebjlimpnmaoaa.Rw
open Go.Rx
set_option linter.unusedVariables false
set_option linter.unusedSimpArgs false
def GoodN (N : List Pt) : Prop := N.Nodup ∧ ∀ q ∈ N, -100 ≤ q.1 ∧ q.1 ≤ 100 ∧ -100 ≤ q.2 ∧ q.2 ≤ 100
def GoodE (n : Nat) (E : List Ed) : Prop := ∀ e ∈ E, inR e.1 n ∧ inR e.2.1 n ∧ e.1 ≠ e.2.1 ∧ 1 ≤ e.2.2.1 ∧ e.2.2.1 ≤ 20
def GoodB (E : List Ed) (B : List Pt) : Prop := B.Nodup ∧ ∀ b ∈ B, inR b.1 E.length ∧ inR b.2 E.length ∧ toE E b.1 = fromE E b.2
theorem point_eq (a : List Int) : ∃ (a' : List Int) (p : Pt), (∀ k, f44 k a = some (((a', ()), ()), (p, ()))) ∧ -40 ≤ p.1 ∧ p.1 ≤ 40 ∧ -40 ≤ p.2 ∧ p.2 ≤ 40 := by
  have h1 := next_lt (a := a) (n := 81) (by omega)
  have h2 := next_lt (a := (nextF a 81).1) (n := 81) (by omega)
  refine ⟨(nextF (nextF a 81).1 81).1, ((nextF a 81).2 - 40, (nextF (nextF a 81).1 81).2 - 40), fun k => ?_, by simp only; omega, by simp only; omega, by simp only; omega, by simp only; omega⟩
  simp only [f44, f44_entry_B, next_eq k _ 81 (by omega) (by omega), Option.bind_some]
  rw [w64_id (by omega) (by omega), w64_id (by omega) (by omega)]
theorem shift_loop (N : List Pt) (a : List Int) (y : Int) (hN : N.length ≤ 8) : ∀ (d : Nat) (x : Int), (N.filter (fun q => decide (x ≤ q.1))).length ≤ d → -40 ≤ x → x + d ≤ 60 →
    ∃ x', x ≤ x' ∧ x' ≤ x + d ∧ (x', y) ∉ N ∧ ∀ res, Ev2 (fun k n => f13_l0 k n a (N ++ [(x', y)])) res → Ev3 (fun k n m => f13_l2 k (f13_l0 k n) m a N x y) res
  | 0, x, hd, h0, h1 => by
    have hm : (x, y) ∉ N := fun h => by
      have : (x, y) ∈ N.filter (fun q => decide (x ≤ q.1)) := List.mem_filter.2 ⟨h, by simp⟩
      have := List.length_pos_of_mem this
      omega
    refine ⟨x, by omega, by omega, hm, fun res h => ?_⟩
    obtain ⟨K, hK⟩ := conP_ev N (x, y) (by omega)
    refine Ev3.stepE K (fun k n m hk => ?_) h.three
    have hk' := hK k hk; simp only at hk'
    rw [f13_l2, f13_l2_B, hk', Option.bind_some, if_neg (by simp [hm]), if_pos (by omega)]
  | d + 1, x, hd, h0, h1 => by
    obtain ⟨K, hK⟩ := conP_ev N (x, y) (by omega)
    by_cases hm : (x, y) ∈ N
    · have hlt : (N.filter (fun q => decide (x + 1 ≤ q.1))).length < (N.filter (fun q => decide (x ≤ q.1))).length := by
        have hsub : N.filter (fun q => decide (x + 1 ≤ q.1)) = (N.filter (fun q => decide (x ≤ q.1))).filter (fun q => decide (x + 1 ≤ q.1)) := by
          rw [List.filter_filter]
          refine List.filter_congr fun q _ => ?_
          by_cases g : x + 1 ≤ q.1
          · simp [g]; omega
          · simp [g]
        rw [hsub]
        refine List.length_filter_lt_length_iff_exists.2 ⟨(x, y), List.mem_filter.2 ⟨hm, by simp⟩, by simp; omega⟩
      obtain ⟨x', k1, k2, k3, k4⟩ := shift_loop N a y hN d (x + 1) (by omega) (by omega) (by omega)
      refine ⟨x', by omega, by omega, k3, fun res h => Ev3.stepE K (fun k n m hk => ?_) (k4 res h)⟩
      have hk' := hK k hk; simp only at hk'
      rw [f13_l2, f13_l2_B, hk', Option.bind_some, if_pos (by simp [hm]), w64_id (by omega) (by omega)]
    · refine ⟨x, by omega, by omega, hm, fun res h => Ev3.stepE K (fun k n m hk => ?_) h.three⟩
      have hk' := hK k hk; simp only at hk'
      rw [f13_l2, f13_l2_B, hk', Option.bind_some, if_neg (by simp [hm]), if_pos (by omega)]
theorem nodes_loop : ∀ (d : Nat) (a : List Int) (N : List Pt), N.length + d = 8 → GoodN N →
    ∃ (a' : List Int) (N' : List Pt), GoodN N' ∧ 2 ≤ N'.length ∧ N'.length ≤ 8 ∧ ∀ res, Ev (fun k => (f43 k a' 17).bind fun r2 => f13_l4 k k r2.1.1.1 N' ([] : List Ed) r2.2.1 0) res → Ev2 (fun k n => f13_l0 k n a N) res
  | 0, a, N, hl, hN => by
    have h1 := next_lt (a := a) (n := 7) (by omega)
    have hw : w64 (2 + (nextF a 7).2) = 2 + (nextF a 7).2 := w64_id (by omega) (by omega)
    refine ⟨(nextF a 7).1, N, hN, by omega, by omega, fun res h => Ev2.step (fun k n => ?_) h.two⟩
    rw [f13_l0, f13_l0_B]
    simp only [next_eq k a 7 (by omega) (by omega), Option.bind_some]
    rw [hw, if_neg (by omega), decide_eq_false (by omega), f13_r3, f13_r3_B, if_neg (by simp)]
  | d + 1, a, N, hl, hN => by
    have h1 := next_lt (a := a) (n := 7) (by omega)
    have hw : w64 (2 + (nextF a 7).2) = 2 + (nextF a 7).2 := w64_id (by omega) (by omega)
    by_cases c : (N.length : Int) < 2 + (nextF a 7).2 ∨ (N.length : Int) < 2
    · obtain ⟨b, p, hp, p1, p2, p3, p4⟩ := point_eq (nextF a 7).1
      have hf : (N.filter (fun q => decide (p.1 ≤ q.1))).length ≤ 8 := by
        have := List.length_filter_le (fun q => decide (p.1 ≤ q.1)) N
        omega
      obtain ⟨x', k1, k2, k3, k4⟩ := shift_loop N b p.2 (by omega) 8 p.1 hf p1 (by omega)
      have hN' : GoodN (N ++ [(x', p.2)]) := by
        refine ⟨List.nodup_append.2 ⟨hN.1, by simp, fun q hq r hr e => ?_⟩, fun q hq => ?_⟩
        · simp only [List.mem_singleton] at hr
          subst hr; subst e; exact k3 hq
        · rcases List.mem_append.1 hq with hq | hq
          · exact hN.2 q hq
          · simp only [List.mem_singleton] at hq
            subst hq; simp only; omega
      obtain ⟨a', N', g1, g2, g3, g4⟩ := nodes_loop d b (N ++ [(x', p.2)]) (by simp; omega) hN'
      refine ⟨a', N', g1, g2, g3, fun res h => Ev2.step (fun k n => ?_) (k4 res (g4 res h)).in_⟩
      rw [f13_l0, f13_l0_B]
      simp only [next_eq k a 7 (by omega) (by omega), Option.bind_some]
      rw [hw]
      have fin : f13_r3 k (f13_l0 k n) (nextF a 7).1 N true = f13_l2 k (f13_l0 k n) k b N p.1 p.2 := by
        rw [f13_r3, f13_r3_B, if_pos rfl, hp k, Option.bind_some]
      by_cases c1 : (N.length : Int) < 2 + (nextF a 7).2
      · rw [if_pos c1, fin]
      · rw [if_neg c1, decide_eq_true (by omega), fin]
    · refine ⟨(nextF a 7).1, N, hN, by omega, by omega, fun res h => Ev2.step (fun k n => ?_) h.two⟩
      rw [f13_l0, f13_l0_B]
      simp only [next_eq k a 7 (by omega) (by omega), Option.bind_some]
      rw [hw, if_neg (by omega), decide_eq_false (by omega), f13_r3, f13_r3_B, if_neg (by simp)]
theorem edges_loop (N : List Pt) (h2 : 2 ≤ N.length) (h8 : N.length ≤ 8) (cnt : Nat) (hc : cnt ≤ 100) : ∀ (d i : Nat) (a : List Int) (E : List Ed), i + d = cnt → E.length ≤ i → GoodE N.length E →
    ∃ (a' : List Int) (E' : List Ed), GoodE N.length E' ∧ E'.length ≤ cnt ∧ ∀ res, Ev (fun k => (f43 k a' 4).bind fun r5 => f13_l6 k k r5.1.1.1 ([] : List Pt) N E' r5.2.1 0) res → Ev2 (fun k n => f13_l4 k n a N E (cnt : Int) (i : Int)) res
  | 0, i, a, E, hi, hE, hG => by
    refine ⟨a, E, hG, by omega, fun res h => Ev2.step (fun k n => ?_) h.two⟩
    rw [f13_l4, f13_l4_B, if_neg (by omega)]
  | d + 1, i, a, E, hi, hE, hG => by
    have hw : w64 ((i : Int) + 1) = ((i + 1 : Nat) : Int) := by rw [w64_id (by omega) (by omega)]; omega
    have c1 : (i : Int) < (cnt : Int) := by omega
    have l1 := next_lt (a := a) (n := (N.length : Int)) (by omega)
    have l2 := next_lt (a := (nextF a (N.length : Int)).1) (n := (N.length : Int)) (by omega)
    generalize hr1 : nextF a (N.length : Int) = r1 at l1 l2
    generalize hr2 : nextF r1.1 (N.length : Int) = r2 at l2
    by_cases c2 : r1.2 = r2.2
    · obtain ⟨a', E', g1, g2, g3⟩ := edges_loop N h2 h8 cnt hc d (i + 1) r2.1 E (by omega) (by omega) hG
      refine ⟨a', E', g1, g2, fun res h => Ev2.step (fun k n => ?_) (g3 res h)⟩
      rw [f13_l4, f13_l4_B, if_pos c1]
      simp only [next_eq k _ (N.length : Int) (by omega) (by omega), Option.bind_some, hr1, hr2]
      rw [if_neg (by simpa using c2), f13_c12, f13_c12_B, hw]
    · have l3 := next_lt (a := r2.1) (n := 20) (by omega)
      generalize hr3 : nextF r2.1 20 = r3 at l3
      generalize hr4 : nextF r3.1 5 = r4
      have hw1 : w64 (1 + r3.2) = 1 + r3.2 := w64_id (by omega) (by omega)
      have hG' : GoodE N.length (E ++ [(r1.2, (r2.2, (1 + r3.2, r4.2)))]) := fun e he => by
        rcases List.mem_append.1 he with he | he
        · exact hG e he
        · simp only [List.mem_singleton] at he
          subst he
          unfold inR
          simp only
          omega
      obtain ⟨a', E', g1, g2, g3⟩ := edges_loop N h2 h8 cnt hc d (i + 1) r4.1 _ (by omega) (by simp; omega) hG'
      refine ⟨a', E', g1, g2, fun res h => Ev2.step (fun k n => ?_) (g3 res h)⟩
      rw [f13_l4, f13_l4_B, if_pos c1]
      simp only [next_eq k _ (N.length : Int) (by omega) (by omega), Option.bind_some, hr1, hr2]
      rw [if_pos (by simpa using c2)]
      simp only [next_eq k _ 20 (by omega) (by omega), next_eq k _ 5 (by omega) (by omega), Option.bind_some, hr3, hr4, hw1]
      rw [if_pos (by omega), f13_c12, f13_c12_B, hw]
theorem bans_loop (N : List Pt) (E : List Ed) (hE : E.length ≤ 1000) (cnt : Nat) (hc : cnt ≤ 3) : ∀ (d i : Nat) (a : List Int) (B : List Pt), i + d = cnt → B.length ≤ i → GoodB E B →
    ∃ (B' : List Pt), GoodB E B' ∧ B'.length ≤ cnt ∧ ∀ res, Ev (fun k => f13_b6 k B' N E) res → Ev2 (fun k n => f13_l6 k n a B N E (cnt : Int) (i : Int)) res
  | 0, i, a, B, hi, hB, hG => by
    refine ⟨B, hG, by omega, fun res h => Ev2.step (fun k n => ?_) h.two⟩
    rw [f13_l6, f13_l6_B, if_neg (by omega)]
  | d + 1, i, a, B, hi, hB, hG => by
    have hw : w64 ((i : Int) + 1) = ((i + 1 : Nat) : Int) := by rw [w64_id (by omega) (by omega)]; omega
    have c1 : (i : Int) < (cnt : Int) := by omega
    by_cases c0 : (E.length : Int) = 0
    · refine ⟨B, hG, by omega, fun res h => Ev2.step (fun k n => ?_) h.two⟩
      rw [f13_l6, f13_l6_B, if_pos c1, if_pos c0]
    · have l1 := next_lt (a := a) (n := (E.length : Int)) (by omega)
      have l2 := next_lt (a := (nextF a (E.length : Int)).1) (n := (E.length : Int)) (by omega)
      generalize hr1 : nextF a (E.length : Int) = r1 at l1 l2
      generalize hr2 : nextF r1.1 (E.length : Int) = r2 at l2
      have start : ∀ k n, f13_l6 k (n + 1) a B N E (cnt : Int) (i : Int) = if (((E.getD ((r1.2).toNat) zE).2).1) = ((E.getD ((r2.2).toNat) zE).1) then ((f46 k B (r1.2, r2.2)).bind fun r3 => f13_r18 k (f13_l6 k n) r2.1 B N E r1.2 r2.2 (decide (¬ (r3.1 = true))) (cnt : Int) (i : Int)) else f13_r18 k (f13_l6 k n) r2.1 B N E r1.2 r2.2 false (cnt : Int) (i : Int) := fun k n => by
        rw [f13_l6, f13_l6_B, if_pos c1, if_neg c0]
        simp only [next_eq k _ (E.length : Int) (by omega) (by omega), Option.bind_some, hr1, hr2]
        rw [if_pos l1.1, if_pos l1.2, if_pos l2.1, if_pos l2.2]
        rfl
      have no : ∀ k n, f13_r18 k (f13_l6 k n) r2.1 B N E r1.2 r2.2 false (cnt : Int) (i : Int) = f13_l6 k n r2.1 B N E (cnt : Int) ((i + 1 : Nat) : Int) := fun k n => by
        rw [f13_r18, f13_r18_B, if_neg (by simp), f13_c19, f13_c19_B, hw]
      have skip : ∃ (B' : List Pt), GoodB E B' ∧ B'.length ≤ cnt ∧ ∀ res, Ev (fun k => f13_b6 k B' N E) res → Ev2 (fun k n => f13_l6 k n r2.1 B N E (cnt : Int) ((i + 1 : Nat) : Int)) res := bans_loop N E hE cnt hc d (i + 1) r2.1 B (by omega) (by omega) hG
      by_cases c2 : (((E.getD ((r1.2).toNat) zE).2).1) = ((E.getD ((r2.2).toNat) zE).1)
      · obtain ⟨K, hK⟩ := conB_ev B (r1.2, r2.2) (by omega)
        by_cases c3 : (r1.2, r2.2) ∈ B
        · obtain ⟨B', g1, g2, g3⟩ := skip
          refine ⟨B', g1, g2, fun res h => Ev2.stepE K (fun k n hk => ?_) (g3 res h)⟩
          have hk' := hK k hk; simp only at hk'
          rw [start, if_pos c2, hk', Option.bind_some]
          simp only [c3, decide_true, not_true_eq_false, decide_false]
          exact no k n
        · have hG' : GoodB E (B ++ [(r1.2, r2.2)]) := by
            refine ⟨List.nodup_append.2 ⟨hG.1, by simp, fun q hq r hr e => ?_⟩, fun q hq => ?_⟩
            · simp only [List.mem_singleton] at hr
              subst hr; subst e; exact c3 hq
            · rcases List.mem_append.1 hq with hq | hq
              · exact hG.2 q hq
              · simp only [List.mem_singleton] at hq
                subst hq
                exact ⟨⟨l1.1, l1.2⟩, ⟨l2.1, l2.2⟩, c2⟩
          obtain ⟨B', g1, g2, g3⟩ := bans_loop N E hE cnt hc d (i + 1) r2.1 _ (by omega) (by simp; omega) hG'
          refine ⟨B', g1, g2, fun res h => Ev2.stepE K (fun k n hk => ?_) (g3 res h)⟩
          have hk' := hK k hk; simp only at hk'
          rw [start, if_pos c2, hk', Option.bind_some]
          simp only [c3, decide_false, Bool.false_eq_true, not_false_eq_true, decide_true]
          rw [f13_r18, f13_r18_B, if_pos rfl, if_pos (by omega), f13_c19, f13_c19_B, hw]
      · obtain ⟨B', g1, g2, g3⟩ := skip
        refine ⟨B', g1, g2, fun res h => Ev2.step (fun k n => ?_) (g3 res h)⟩
        rw [start, if_neg c2]
        exact no k n
theorem net_ev (a : List Int) : ∃ (N : List Pt) (E : List Ed) (B : List Pt), GoodN N ∧ 2 ≤ N.length ∧ N.length ≤ 8 ∧ GoodE N.length E ∧ E.length ≤ 16 ∧ GoodB E B ∧ B.length ≤ 3 ∧ Ev (fun k => f13 k a) ((N, (E, B)), ()) := by
  obtain ⟨a1, N, n1, n2, n3, n4⟩ := nodes_loop 8 a [] rfl ⟨List.nodup_nil, fun q hq => by cases hq⟩
  have l1 := next_lt (a := a1) (n := 17) (by omega)
  obtain ⟨c1, hc1⟩ : ∃ c : Nat, (nextF a1 17).2 = (c : Int) := ⟨(nextF a1 17).2.toNat, by omega⟩
  obtain ⟨a2, E, e1, e2, e3⟩ := edges_loop N n2 n3 c1 (by omega) c1 0 (nextF a1 17).1 [] (by omega) (by simp) (fun e he => by cases he)
  have l2 := next_lt (a := a2) (n := 4) (by omega)
  obtain ⟨c2, hc2⟩ : ∃ c : Nat, (nextF a2 4).2 = (c : Int) := ⟨(nextF a2 4).2.toNat, by omega⟩
  obtain ⟨B, b1, b2, b3⟩ := bans_loop N E (by omega) c2 (by omega) c2 0 (nextF a2 4).1 [] (by omega) (by simp) ⟨List.nodup_nil, fun b hb => by cases hb⟩
  obtain ⟨B', p1, p2⟩ := sortB_ev B (by omega)
  refine ⟨N, E, B', n1, n2, n3, e1, by omega, ⟨p1.nodup_iff.2 b1.1, fun b hb => b1.2 b (p1.mem_iff.1 hb)⟩, by have := p1.length_eq; omega, ?_⟩
  simp only [f13, f13_entry_B]
  refine (n4 _ ?_).diag
  simp only [next_eq _ a1 17 (show (1 : Int) ≤ 17 by omega) (show (17 : Int) ≤ 1000000000000 by omega), Option.bind_some, hc1]
  refine (e3 _ ?_).diag
  simp only [next_eq _ a2 4 (show (1 : Int) ≤ 4 by omega) (show (4 : Int) ≤ 1000000000000 by omega), Option.bind_some, hc2]
  refine (b3 _ ?_).diag
  simp only [f13_b6, f13_b6_B]
  exact p2.bind (Ev.pure _)
/-! ### They are valid -/
theorem nodF_zero : ∀ (l pre : List Pt), (∀ p ∈ l, okP p) → (pre ++ l).Nodup → nodF pre l = 0
  | [], _, _, _ => rfl
  | p :: l, pre, h, hn => by
    simp only [nodF]
    rw [if_pos (h p (List.mem_cons_self ..)), if_neg, nodF_zero l (pre ++ [p]) (fun q hq => h q (List.mem_cons_of_mem _ hq)) (by simpa using hn)]
    intro hp
    exact (List.nodup_append.1 hn).2.2 p hp p (List.mem_cons_self ..) rfl
theorem edF_zero {n : Nat} : ∀ {E : List Ed}, (∀ e ∈ E, ¬ badE n e ∧ e.1 ≠ e.2.1) → edF n E = 0
  | [], _ => rfl
  | e :: l, h => by
    simp only [edF]
    rw [if_neg (h e (List.mem_cons_self ..)).1, if_neg (h e (List.mem_cons_self ..)).2]
    exact edF_zero fun e' he => h e' (List.mem_cons_of_mem _ he)
theorem banF_zero {E : List Ed} : ∀ (l pre : List Pt), (∀ b ∈ l, inR b.1 E.length ∧ inR b.2 E.length ∧ toE E b.1 = fromE E b.2) → (pre ++ l).Nodup → banF E pre l = 0
  | [], _, _, _ => rfl
  | b :: l, pre, h, hn => by
    have hb := h b (List.mem_cons_self ..)
    simp only [banF]
    rw [if_pos ⟨hb.1, hb.2.1⟩, if_pos hb.2.2, if_neg, banF_zero l (pre ++ [b]) (fun q hq => h q (List.mem_cons_of_mem _ hq)) (by simpa using hn)]
    intro hp
    exact (List.nodup_append.1 hn).2.2 b hp b (List.mem_cons_self ..) rfl
theorem made_valid {N : List Pt} {E : List Ed} {B : List Pt} (h1 : GoodN N) (h2 : N.length ≤ 8) (h3 : GoodE N.length E) (h4 : E.length ≤ 16) (h5 : GoodB E B) (h6 : B.length ≤ 3) : netF (N, (E, B)) = 0 := by
  unfold netF
  simp only
  have k1 := nodF_zero N [] (fun p hp => by
    have := h1.2 p hp
    unfold okP
    rw [cut_in (by omega) (by omega), cut_in (by omega) (by omega)]
    exact ⟨rfl, rfl⟩) (by simpa using h1.1)
  have k2 : edF N.length E = 0 := edF_zero fun e he => by
    have := h3 e he
    exact ⟨fun hb => by unfold badE at hb; rcases hb with hb | hb | hb | hb <;> first | exact hb this.1 | exact hb this.2.1 | omega, this.2.2.1⟩
  have k3 := banF_zero (E := E) B [] h5.2 (by simpa using h5.1)
  rw [if_neg (by omega), if_pos k1, if_pos k2, k3]
end Go.Proofs.Ytoebjlimpnmaoaa.Rw

namespace Go.Proofs.Ytoebjlimpnmaoaa.Rw
open Go.Rx
set_option linter.unusedVariables false
set_option linter.unusedSimpArgs false
theorem ivalid_loop {N B : List Pt} {E : List Ed} (hN : N.length ≤ 1000) : ∀ (rest pre L : List Int), pre ++ rest = L → L.length ≤ 1000 → (∀ x ∈ pre, inR x N.length) →
    Ev2 (fun k n => f64_l0 k n N E B L (L.length : Int) (pre.length : Int)) (if ∀ x ∈ L, inR x N.length then 0 else 1, ())
  | [], pre, L, hpl, hL, hp => by
    have e : pre = L := by simpa using hpl
    subst e
    rw [if_pos hp]
    refine Ev2.step (g := fun _ _ => some (0, ())) (fun k n => ?_) (Ev2.pure _)
    rw [f64_l0, f64_l0_B, if_neg (by omega)]
  | x :: rest, pre, L, hpl, hL, hp => by
    have i0 : (0 : Int) ≤ (pre.length : Int) := by omega
    have hlt : pre.length < L.length := by rw [← hpl]; simp
    have i1 : (pre.length : Int) < (L.length : Int) := by omega
    have hg : L.getD ((pre.length : Int)).toNat 0 = x := by rw [← hpl]; exact getD_mid
    have hw : w64 ((pre.length : Int) + 1) = (((pre ++ [x]).length : Nat) : Int) := by
      rw [w64_id (by omega) (by omega)]; simp
    have hxL : x ∈ L := by rw [← hpl]; simp
    by_cases c : inR x N.length
    · have := ivalid_loop (E := E) (B := B) hN rest (pre ++ [x]) L (by simp [← hpl]) hL (fun y hy => by
        rcases List.mem_append.1 hy with hy | hy
        · exact hp y hy
        · simp only [List.mem_singleton] at hy; subst hy; exact c)
      refine Ev2.step (fun k n => ?_) this
      have c' := c
      unfold inR at c'
      rw [f64_l0, f64_l0_B, if_pos i1, if_pos i0, if_pos i1, hg, if_neg (by omega), decide_eq_false (by omega), f64_r7, f64_r7_B, if_neg (by simp), hw]
    · rw [if_neg (fun z => c (z x hxL))]
      refine Ev2.step (g := fun _ _ => some (1, ())) (fun k n => ?_) (Ev2.pure _)
      rw [f64_l0, f64_l0_B, if_pos i1, if_pos i0, if_pos i1, hg]
      unfold inR at c
      by_cases d : x < 0
      · rw [if_pos d, f64_r7, f64_r7_B, if_pos rfl]
      · rw [if_neg d, decide_eq_true (by omega), f64_r7, f64_r7_B, if_pos rfl]
theorem ivalid_ev (n : Nt) (L : List Int) (hL : L.length ≤ 1000) : Ev (fun k => f64 k n L) (vldF n L, ()) := by
  obtain ⟨N, E, B⟩ := n
  simp only [f64, f64_entry_B]
  refine (chk_ev (N, (E, B))).bind ?_
  unfold vldF
  by_cases c : netF (N, (E, B)) = 0
  · simp only [c, not_true_eq_false, if_false, if_true]
    exact (ivalid_loop (E := E) (B := B) (by have := (netV_of c).n1; omega) L [] L rfl hL (fun x hx => by cases hx)).diag
  · simp only [c, not_false_eq_true, if_true, if_false]
    exact Ev.pure _
/-- The nearest one so far: the least cost, then the least node. -/
def NearI (C : List Int) (P : List Int) (b : Int) : Prop :=
  (b = -1 ∧ ∀ x ∈ P, C.getD x.toNat 0 < 0) ∨ (b ∈ P ∧ 0 ≤ b ∧ 0 ≤ C.getD b.toNat 0 ∧ ∀ x ∈ P, 0 ≤ C.getD x.toNat 0 → C.getD b.toNat 0 < C.getD x.toNat 0 ∨ (C.getD b.toNat 0 = C.getD x.toNat 0 ∧ b ≤ x))
theorem NearI.skip {C P : List Int} {b x : Int} (h : NearI C P b) (hx : C.getD x.toNat 0 < 0 ∨ (0 ≤ b ∧ 0 ≤ C.getD b.toNat 0 ∧ (C.getD b.toNat 0 < C.getD x.toNat 0 ∨ (C.getD b.toNat 0 = C.getD x.toNat 0 ∧ b ≤ x)))) : NearI C (P ++ [x]) b := by
  rcases h with ⟨h1, h2⟩ | ⟨h1, h2, h3, h4⟩
  · rcases hx with hx | ⟨hx, _⟩
    · refine .inl ⟨h1, fun y hy => ?_⟩
      rcases List.mem_append.1 hy with hy | hy
      · exact h2 y hy
      · simp only [List.mem_singleton] at hy; subst hy; exact hx
    · omega
  · refine .inr ⟨List.mem_append_left _ h1, h2, h3, fun y hy h0 => ?_⟩
    rcases List.mem_append.1 hy with hy | hy
    · exact h4 y hy h0
    · simp only [List.mem_singleton] at hy; subst hy
      rcases hx with hx | ⟨_, _, hx⟩
      · omega
      · exact hx
theorem NearI.take {C P : List Int} {b x : Int} (h : NearI C P b) (hx0 : 0 ≤ x) (hc0 : 0 ≤ C.getD x.toNat 0) (hx : b < 0 ∨ C.getD x.toNat 0 < C.getD b.toNat 0 ∨ (C.getD x.toNat 0 = C.getD b.toNat 0 ∧ x < b)) : NearI C (P ++ [x]) x := by
  refine .inr ⟨List.mem_append_right _ (List.mem_singleton.2 rfl), hx0, hc0, fun y hy h0 => ?_⟩
  rcases List.mem_append.1 hy with hy | hy
  · rcases h with ⟨h1, h2⟩ | ⟨h1, h2, h3, h4⟩
    · have := h2 y hy; omega
    · have := h4 y hy h0
      omega
  · simp only [List.mem_singleton] at hy; subst hy; exact .inr ⟨rfl, Int.le_refl _⟩
theorem index_loop {x : Int} : ∀ (rest pre L : List Int), pre ++ rest = L → L.length ≤ 1000000 → x ∉ pre →
    ∃ i, (0 ≤ i ↔ x ∈ L) ∧ Ev2 (fun k m => f66_l0 k m L x (L.length : Int) (pre.length : Int)) (i, ())
  | [], pre, L, hpl, hL, hp => by
    have e : pre = L := by simpa using hpl
    subst e
    refine ⟨-1, ⟨fun h => by omega, fun h => absurd h hp⟩, Ev2.step (g := fun _ _ => some (-1, ())) (fun k m => ?_) (Ev2.pure _)⟩
    rw [f66_l0, f66_l0_B, if_neg (by omega)]
  | y :: rest, pre, L, hpl, hL, hp => by
    have i0 : (0 : Int) ≤ (pre.length : Int) := by omega
    have hlt : pre.length < L.length := by rw [← hpl]; simp
    have i1 : (pre.length : Int) < (L.length : Int) := by omega
    have hg : L.getD ((pre.length : Int)).toNat 0 = y := by rw [← hpl]; exact getD_mid
    have hw : w64 ((pre.length : Int) + 1) = (((pre ++ [y]).length : Nat) : Int) := by
      rw [w64_id (by omega) (by omega)]; simp
    by_cases c : x = y
    · refine ⟨(pre.length : Int), ⟨fun _ => by rw [← hpl, c]; simp, fun _ => i0⟩, Ev2.step (g := fun _ _ => some ((pre.length : Int), ())) (fun k m => ?_) (Ev2.pure _)⟩
      rw [f66_l0, f66_l0_B, if_pos i1, if_pos i0, if_pos i1, hg, if_pos c]
    · obtain ⟨i, j1, j2⟩ := index_loop (x := x) rest (pre ++ [y]) L (by simp [← hpl]) hL (fun h => by
        rcases List.mem_append.1 h with h | h
        · exact hp h
        · exact c (List.mem_singleton.1 h))
      refine ⟨i, j1, Ev2.step (fun k m => ?_) j2⟩
      rw [f66_l0, f66_l0_B, if_pos i1, if_pos i0, if_pos i1, hg, if_neg c, hw]
theorem has_ev {L : List Int} {x : Int} (hL : L.length ≤ 1000000) : Ev (fun k => f38 k L x) (decide (x ∈ L), ()) := by
  obtain ⟨i, h1, h2⟩ := index_loop (x := x) L [] L rfl hL (by simp)
  simp only [f38, f38_entry_B, f66, f66_entry_B]
  refine h2.diag.bind ?_
  rw [show decide (x ∈ L) = decide (0 ≤ i) from decide_eq_decide.2 h1.symm]
  exact Ev.pure _
theorem reached4_true (j : Nat) : f37 (j + 60) = some (true, ()) := by kernel_rfl
end Go.Proofs.Ytoebjlimpnmaoaa.Rw

namespace Go.Proofs.Ytoebjlimpnmaoaa.Rw
open Go.Rx
set_option linter.unusedVariables false
set_option linter.unusedSimpArgs false
/-- The places whose cost is there and not more than m. -/
def nodP (C : List Int) (m : Int) : Nat → List Int
  | 0 => []
  | i + 1 => if 0 ≤ C.getD i 0 ∧ C.getD i 0 ≤ m then nodP C m i ++ [(i : Int)] else nodP C m i
theorem nodP_len (C : List Int) (m : Int) : ∀ i, (nodP C m i).length ≤ i
  | 0 => Nat.le_refl _
  | i + 1 => by
    have := nodP_len C m i
    unfold nodP
    split
    · simp; omega
    · omega
theorem nodP_mem {C : List Int} {m x : Int} : ∀ {i : Nat}, x ∈ nodP C m i ↔ 0 ≤ x ∧ x < (i : Int) ∧ 0 ≤ C.getD x.toNat 0 ∧ C.getD x.toNat 0 ≤ m
  | 0 => ⟨fun h => by simp [nodP] at h, fun h => by omega⟩
  | i + 1 => by
    unfold nodP
    have hx : (x.toNat = i ∨ x < (i : Int)) ∨ ¬ (0 ≤ x ∧ x < ((i + 1 : Nat) : Int)) := by omega
    split
    · rename_i hc
      rw [List.mem_append, nodP_mem, List.mem_singleton]
      constructor
      · rintro (⟨h1, h2, h3⟩ | rfl)
        · exact ⟨h1, by omega, h3⟩
        · exact ⟨by omega, by omega, by simpa using hc⟩
      · rintro ⟨h1, h2, h3⟩
        by_cases e : x = (i : Int)
        · exact .inr e
        · exact .inl ⟨h1, by omega, h3⟩
    · rename_i hc
      rw [nodP_mem]
      constructor
      · rintro ⟨h1, h2, h3⟩
        exact ⟨h1, by omega, h3⟩
      · rintro ⟨h1, h2, h3⟩
        refine ⟨h1, ?_, h3⟩
        by_cases e : x = (i : Int)
        · subst e
          rw [Int.toNat_natCast] at h3
          exact (hc h3).elim
        · omega
theorem nodP_pair (C : List Int) (m : Int) : ∀ i, (nodP C m i).Pairwise (· < ·)
  | 0 => List.Pairwise.nil
  | i + 1 => by
    unfold nodP
    split
    · refine List.pairwise_append.2 ⟨nodP_pair C m i, List.pairwise_singleton _ _, fun x hx y hy => ?_⟩
      rw [List.mem_singleton] at hy
      subst hy
      exact (nodP_mem.1 hx).2.1
    · exact nodP_pair C m i
theorem inod_loop {C : List Int} (hC : C.length ≤ 1000000) (m : Int) : ∀ (d i : Nat), i + d = C.length →
    Ev2 (fun k n => f39_l0 k n C (nodP C m i) m (C.length : Int) (i : Int)) (nodP C m C.length, 0, ())
  | 0, i, hi => by
    have e : i = C.length := by omega
    subst e
    refine Ev2.step (g := fun _ _ => some (nodP C m C.length, 0, ())) (fun k n => ?_) (Ev2.pure _)
    rw [f39_l0, f39_l0_B, if_neg (by omega)]
  | d + 1, i, hi => by
    have i0 : (0 : Int) ≤ (i : Int) := by omega
    have i1 : (i : Int) < (C.length : Int) := by omega
    have hw : w64 ((i : Int) + 1) = ((i + 1 : Nat) : Int) := by rw [w64_id (by omega) (by omega)]; omega
    have hl := nodP_len C m i
    have ih := inod_loop hC m d (i + 1) (by omega)
    have r0 : ∀ k r, f39_r8 k r C (nodP C m i) (i : Int) m (C.length : Int) false = r C (nodP C m i) m (C.length : Int) ((i + 1 : Nat) : Int) := fun k r => by
      rw [f39_r8, f39_r8_B, if_neg (by simp), f39_c9, f39_c9_B, hw]
    have r1 : ∀ k r, f39_r8 k r C (nodP C m i) (i : Int) m (C.length : Int) true = r C (nodP C m i ++ [(i : Int)]) m (C.length : Int) ((i + 1 : Nat) : Int) := fun k r => by
      rw [f39_r8, f39_r8_B, if_pos rfl, if_pos (by omega), f39_c9, f39_c9_B, hw]
    refine Ev2.step (fun k n => ?_) ih
    rw [f39_l0, f39_l0_B, if_pos i1, if_pos i0, if_pos i1, Int.toNat_natCast]
    by_cases c : 0 ≤ C.getD i 0
    · rw [if_pos c]
      by_cases c2 : C.getD i 0 ≤ m
      · rw [decide_eq_true c2, r1, show nodP C m (i + 1) = nodP C m i ++ [(i : Int)] by rw [nodP, if_pos ⟨c, c2⟩]]
      · rw [decide_eq_false c2, r0, show nodP C m (i + 1) = nodP C m i by rw [nodP, if_neg (fun z => c2 z.2)]]
    · rw [if_neg c, r0, show nodP C m (i + 1) = nodP C m i by rw [nodP, if_neg (fun z => c z.1)]]
theorem vldF_one {N B : List Pt} {E : List Ed} (hv : netF (N, (E, B)) = 0) {s : Int} (hs : inR s N.length) : vldF (N, (E, B)) [s] = 0 := by
  unfold vldF
  rw [if_pos hv, if_pos]
  intro x hx
  simp only [List.mem_singleton] at hx; subst hx; exact hs
theorem nodes_ev {N B : List Pt} {E : List Ed} {s : Int} (hv : netF (N, (E, B)) = 0) (hs : inR s N.length) {C : List Int} (hC : LeastC N.length E B s C) (m : Int) :
    Ev (fun k => f39 k (N, (E, B)) s m) (nodP C m C.length, 0, ()) := by
  obtain ⟨C', d1, d2⟩ := costs_ev hv hs
  have e := hC.one d1
  subst e
  have hN := (netV_of hv).n1
  have hva := ivalid_ev (N, (E, B)) [s] (by simp)
  rw [vldF_one hv hs] at hva
  simp only [f39, f39_entry_B]
  refine hva.bind ?_
  simp only [not_true_eq_false, if_false]
  have hl : C.length ≤ 1000000 := by have := hC.len; omega
  exact d2.bind (inod_loop (C := C) hl m C.length 0 (Nat.zero_add _)).diag
/-- The parts of edges that are reached. -/
def parP (E : List Ed) (W : List (List Int)) (m : Int) : Nat → List (Int × Int)
  | 0 => []
  | i + 1 => if W.getD i [] = [] ∨ m < cW E (W.getD i []) - costE E (i : Int) then parP E W m i else parP E W m i ++ [((i : Int), min (costE E (i : Int)) (m - (cW E (W.getD i []) - costE E (i : Int))))]
theorem parP_len (E : List Ed) (W : List (List Int)) (m : Int) : ∀ i, (parP E W m i).length ≤ i
  | 0 => Nat.le_refl _
  | i + 1 => by
    have := parP_len E W m i
    unfold parP
    split
    · omega
    · simp; omega
theorem parP_mem {E : List Ed} {W : List (List Int)} {m : Int} {x : Int × Int} : ∀ {i : Nat}, x ∈ parP E W m i ↔ 0 ≤ x.1 ∧ x.1 < (i : Int) ∧ W.getD x.1.toNat [] ≠ [] ∧ cW E (W.getD x.1.toNat []) - costE E x.1 ≤ m ∧ x.2 = min (costE E x.1) (m - (cW E (W.getD x.1.toNat []) - costE E x.1))
  | 0 => ⟨fun h => by simp [parP] at h, fun h => by omega⟩
  | i + 1 => by
    unfold parP
    split
    · rename_i hc
      rw [parP_mem]
      constructor
      · rintro ⟨h1, h2, h3⟩
        exact ⟨h1, by omega, h3⟩
      · rintro ⟨h1, h2, h3, h4, h5⟩
        refine ⟨h1, ?_, h3, h4, h5⟩
        by_cases e : x.1 = (i : Int)
        · rw [e, Int.toNat_natCast] at h3 h4
          rcases hc with hc | hc
          · exact (h3 hc).elim
          · omega
        · omega
    · rename_i hc
      rw [List.mem_append, parP_mem, List.mem_singleton]
      constructor
      · rintro (⟨h1, h2, h3⟩ | rfl)
        · exact ⟨h1, by omega, h3⟩
        · refine ⟨Int.natCast_nonneg i, by show (i : Int) < ((i + 1 : Nat) : Int); omega, ?_, ?_, ?_⟩
          · simp only [Int.toNat_natCast]; exact fun z => hc (.inl z)
          · simp only [Int.toNat_natCast]
            by_cases z : m < cW E (W.getD i []) - costE E (i : Int)
            · exact (hc (.inr z)).elim
            · omega
          · simp only [Int.toNat_natCast]
      · rintro ⟨h1, h2, h3, h4, h5⟩
        by_cases e : x.1 = (i : Int)
        · refine .inr ?_
          rw [e, Int.toNat_natCast] at h5
          exact Prod.ext e h5
        · exact .inl ⟨h1, by omega, h3, h4, h5⟩
theorem Wy.last_cost {E : List Ed} {B : List Pt} {s : Int} (hc : ∀ k, Rw.inR k E.length → 0 ≤ costE E k) {w : List Int} {k : Int} (h : Wy E B s w k) : costE E k ≤ cW E w := by
  cases h with
  | one _ h1 h2 => rw [cW_one]; omega
  | snoc w j _ hw h1 h2 h3 => rw [cW_app, cW_one]; have := hw.cost hc; omega
theorem parts_loop {N B : List Pt} {E : List Ed} {s m : Int} {W : List (List Int)} (hV : NetV N E B) (hW : Opt E B s W) (hm : m ≤ 9223372036854775807) : ∀ (d i : Nat), i + d = E.length →
    Ev2 (fun k n => f40_l0 k n (W.map (endC E)) N E B (parP E W m i) m ((W.map (endC E)).length : Int) (i : Int)) (parP E W m E.length, 0, ())
  | 0, i, hi => by
    have e : i = E.length := by omega
    subst e
    refine Ev2.step (g := fun _ _ => some (parP E W m E.length, 0, ())) (fun k n => ?_) (Ev2.pure _)
    rw [f40_l0, f40_l0_B, if_neg (by rw [List.length_map, hW.len]; omega)]
  | d + 1, i, hi => by
    have hn2 := hV.n2
    have hlm : (W.map (endC E)).length = E.length := by rw [List.length_map, hW.len]
    have i0 : (0 : Int) ≤ (i : Int) := by omega
    have i1 : (i : Int) < ((W.map (endC E)).length : Int) := by omega
    have i2 : (i : Int) < (E.length : Int) := by omega
    have hi : i < E.length := by omega
    have hw : w64 ((i : Int) + 1) = ((i + 1 : Nat) : Int) := by rw [w64_id (by omega) (by omega)]; omega
    have he : (W.map (endC E)).getD i 0 = endC E (W.getD i []) := ends_at (by rw [hW.len]; exact hi)
    have hl := parP_len E W m i
    have ih := parts_loop hV hW hm d (i + 1) (by omega)
    have hco : (E.getD ((i : Int)).toNat (0, (0, (0, 0)))).2.2.1 = costE E (i : Int) := rfl
    have hc := hV.cost (i : Int) ⟨i0, i2⟩
    by_cases c : W.getD i [] = []
    · have hec : endC E (W.getD i []) = -1 := by unfold endC; rw [if_pos c]
      refine Ev2.step (fun k n => ?_) ih
      rw [f40_l0, f40_l0_B, if_pos i1, if_pos i0, if_pos i1, if_pos i0, if_pos i2]
      simp only [Int.toNat_natCast, he, hec]
      rw [if_pos (by decide), f40_r9, f40_r9_B, if_pos rfl, f40_b1, f40_b1_B, hw, show parP E W m (i + 1) = parP E W m i by rw [parP, if_pos (.inl c)]]
    · obtain ⟨y1, y2⟩ := hW.yes i hi c
      have hcc : ∀ k, Rw.inR k E.length → 0 ≤ costE E k := fun k hk => (hV.cost k hk).1
      have g1 := y1.last_cost hcc
      have g2 := cW_le (E := E) (M := 1099511627776) (by decide) (fun k hk => (hV.cost k hk).2) (W.getD i []) y1.mem
      have g3 := hW.sz i hi c
      have g4 : (1099511627776 : Int) * ((W.getD i []).length : Int) ≤ 1099511627776 * 600 := Int.mul_le_mul_of_nonneg_left (by omega) (by decide)
      have hec : endC E (W.getD i []) = cW E (W.getD i []) := by unfold endC; rw [if_neg c]
      have hw2 : w64 (cW E (W.getD i []) - costE E (i : Int)) = cW E (W.getD i []) - costE E (i : Int) := w64_id (by omega) (by omega)
      refine Ev2.step (fun k n => ?_) ih
      rw [f40_l0, f40_l0_B, if_pos i1, if_pos i0, if_pos i1, if_pos i0, if_pos i2]
      simp only [Int.toNat_natCast, he, hec]
      rw [if_neg (by omega), f40_r9, f40_r9_B]
      rw [Int.toNat_natCast] at hco
      rw [hco, hw2]
      by_cases c2 : m < cW E (W.getD i []) - costE E (i : Int)
      · rw [decide_eq_true c2, if_pos rfl, f40_b1, f40_b1_B, hw, show parP E W m (i + 1) = parP E W m i by rw [parP, if_pos (.inr c2)]]
      · rw [decide_eq_false c2, if_neg (by simp), if_pos (by omega), w64_id (n := m - (cW E (W.getD i []) - costE E (i : Int))) (by omega) (by omega), mx2_min, f40_b1, f40_b1_B, hw, show parP E W m (i + 1) = parP E W m i ++ [((i : Int), min (costE E (i : Int)) (m - (cW E (W.getD i []) - costE E (i : Int))))] by rw [parP, if_neg (fun z => z.elim c c2)]]
theorem parts_ev {N B : List Pt} {E : List Ed} {s m : Int} (hv : netF (N, (E, B)) = 0) (hs : inR s N.length) {W : List (List Int)} (hW : Opt E B s W) (hm : m ≤ 9223372036854775807) :
    Ev (fun k => f40 k (N, (E, B)) s m) (parP E W m E.length, 0, ()) := by
  obtain ⟨W', d1, d2⟩ := ends_ev hv hs
  have e := hW.one d1
  subst e
  have hva := ivalid_ev (N, (E, B)) [s] (by simp)
  rw [vldF_one hv hs] at hva
  simp only [f40, f40_entry_B]
  refine hva.bind ?_
  simp only [not_true_eq_false, if_false]
  exact d2.bind (parts_loop (netV_of hv) hW hm E.length 0 (by omega)).diag
end Go.Proofs.Ytoebjlimpnmaoaa.Rw

namespace Go.Proofs.Ytoebjlimpnmaoaa.Rw
open Go.Rx
set_option linter.unusedVariables false
set_option linter.unusedSimpArgs false
/-- The first i entries without those that are like the one ahead. -/
def cmpN (a : List Int) : Nat → List Int
  | 0 => []
  | i + 1 => if i ≠ 0 ∧ a.getD i 0 = a.getD (i - 1) 0 then cmpN a i else cmpN a i ++ [a.getD i 0]
theorem take_snoc {a : List Int} {i : Nat} (h : i < a.length) : a.take (i + 1) = a.take i ++ [a.getD i 0] := by
  rw [List.take_add_one, List.getElem?_eq_getElem h, List.getD_eq_getElem?_getD, List.getElem?_eq_getElem h]; rfl
theorem compact_two {a : List Int} (ha : a.length ≤ 1000000) {k0 : Nat} (hk : k0 < a.length) : ∀ (d m : Nat) (y : List Int) (i : Nat), k0 + m + d = a.length → 1 ≤ m → y.length = a.length → i = (cmpN a (k0 + m)).length → y.take i = cmpN a (k0 + m) → (∀ q, k0 + m ≤ q + 1 → y.getD q 0 = a.getD q 0) → i < k0 + m →
    Ev3 (fun k n l => f42_l2 k (f42_l0 k n) l y (i : Int) ((k0 : Int)).toNat ((a.length : Int).toNat - ((k0 : Int)).toNat) (m : Int)) ((cmpN a a.length, ()), ())
  | 0, m, y, i, hd, hm, hy, hi, ht, hq, hlt => by
    have e : k0 + m = a.length := by omega
    rw [e] at hi ht hlt
    refine Ev3.step (g := fun _ _ _ => some ((cmpN a a.length, ()), ())) (fun k n l => ?_) (Ev2.pure _).three
    have hcl : (clrL y (0 : Int) i (y.length - i)).length = y.length := by simp [clrL]; omega
    have htk : (clrL y (0 : Int) i (y.length - i)).take i = y.take i := by
      unfold clrL
      rw [List.append_assoc, List.take_append_of_le_length (by rw [List.length_take]; omega), List.take_take, Nat.min_self]
    rw [f42_l2, f42_l2_B, if_neg (by simp only [Int.toNat_natCast]; omega), if_pos (by omega), if_pos (by omega), if_pos (by omega)]
    simp only [Int.toNat_natCast]
    rw [if_pos (by rw [hcl]; omega), htk, ht]
  | d + 1, m, y, i, hd, hm, hy, hi, ht, hq, hlt => by
    have m0 : (0 : Int) ≤ (m : Int) := by omega
    have m1 : (m : Int) < (((a.length : Int).toNat - ((k0 : Int)).toNat : Nat) : Int) := by simp only [Int.toNat_natCast]; omega
    have hw : w64 ((m : Int) + 1) = ((m + 1 : Nat) : Int) := by rw [w64_id (by omega) (by omega)]; omega
    have hwm : w64 ((m : Int) - 1) = ((m - 1 : Nat) : Int) := by rw [w64_id (by omega) (by omega)]; omega
    have hwi : w64 ((i : Int) + 1) = ((i + 1 : Nat) : Int) := by rw [w64_id (by omega) (by omega)]; omega
    have q1 := hq (k0 + m) (by omega)
    have q2 := hq (k0 + (m - 1)) (by omega)
    have e2 : k0 + m - 1 = k0 + (m - 1) := by omega
    have e3 : k0 + (m + 1) = k0 + m + 1 := by omega
    by_cases c : a.getD (k0 + m) 0 = a.getD (k0 + (m - 1)) 0
    · have hn : cmpN a (k0 + (m + 1)) = cmpN a (k0 + m) := by rw [e3, cmpN, if_pos ⟨by omega, by rw [e2]; exact c⟩]
      have ih := compact_two ha hk d (m + 1) y i (by omega) (by omega) hy (by rw [hn]; exact hi) (by rw [hn]; exact ht) (fun q h => hq q (by omega)) (by omega)
      refine Ev3.step (fun k n l => ?_) ih
      rw [f42_l2, f42_l2_B, if_pos m1, if_pos m0, if_pos m1, hwm, if_pos (by omega), if_pos (by simp only [Int.toNat_natCast]; omega)]
      simp only [Int.toNat_natCast]
      rw [q1, q2, if_neg (fun z => z c), f42_c12, f42_c12_B, hw]
    · have hn : cmpN a (k0 + (m + 1)) = cmpN a (k0 + m) ++ [a.getD (k0 + m) 0] := by rw [e3, cmpN, if_neg (fun z => c (by rw [e2] at z; exact z.2))]
      have hil : i < y.length := by omega
      have ih := compact_two ha hk d (m + 1) (y.set i (a.getD (k0 + m) 0)) (i + 1) (by omega) (by omega) (by simpa using hy) (by rw [hn]; simp; exact hi) (by
        rw [hn, take_snoc (by simpa using hil), List.take_set_of_le (Nat.le_refl _), ht]
        congr 1
        rw [List.getD_eq_getElem?_getD, List.getElem?_set_self hil]; rfl) (fun q h => by
          rw [List.getD_eq_getElem?_getD, List.getElem?_set_ne (by omega), ← List.getD_eq_getElem?_getD]; exact hq q (by omega)) (by omega)
      refine Ev3.step (fun k n l => ?_) ih
      rw [f42_l2, f42_l2_B, if_pos m1, if_pos m0, if_pos m1, hwm, if_pos (by omega), if_pos (by simp only [Int.toNat_natCast]; omega)]
      simp only [Int.toNat_natCast] at m1 ⊢
      rw [q1, q2, if_pos c, if_pos m0, if_pos m1, if_pos (by omega), if_pos (by omega), f42_c12, f42_c12_B, hw, hwi]
theorem compact_one {a : List Int} (ha : a.length ≤ 1000000) : ∀ (d i : Nat), i + d = a.length → 1 ≤ i → cmpN a i = a.take i →
    Ev2 (fun k n => f42_l0 k n a (i : Int)) ((cmpN a a.length, ()), ())
  | 0, i, hd, h1, hc => by
    have e : i = a.length := by omega
    subst e
    rw [List.take_length] at hc
    refine Ev2.step (g := fun _ _ => some ((a, ()), ())) (fun k n => ?_) (by rw [hc]; exact Ev2.pure _)
    rw [f42_l0, f42_l0_B, if_neg (by omega)]
  | d + 1, i, hd, h1, hc => by
    have i0 : (0 : Int) ≤ (i : Int) := by omega
    have i1 : (i : Int) < (a.length : Int) := by omega
    have hw : w64 ((i : Int) + 1) = ((i + 1 : Nat) : Int) := by rw [w64_id (by omega) (by omega)]; omega
    have hwm : w64 ((i : Int) - 1) = ((i - 1 : Nat) : Int) := by rw [w64_id (by omega) (by omega)]; omega
    by_cases c : a.getD i 0 = a.getD (i - 1) 0
    · have hn : cmpN a (i + 1) = cmpN a i := by rw [cmpN, if_pos ⟨by omega, c⟩]
      have hl : (cmpN a i).length = i := by rw [hc, List.length_take]; omega
      have h2 := compact_two ha (k0 := i) (by omega) d 1 a i (by omega) (by omega) rfl (by rw [hn]; exact hl.symm) (by rw [hn]; exact hc.symm) (fun q _ => rfl) (by omega)
      refine Ev2.step (fun k n => ?_) h2.in_
      rw [f42_l0, f42_l0_B, if_pos i1, if_pos i0, if_pos i1, hwm, if_pos (by omega), if_pos (by omega)]
      rw [show ((i : Int)).toNat = i from Int.toNat_natCast i, show (((i - 1 : Nat) : Int)).toNat = i - 1 from Int.toNat_natCast _, if_pos c, if_pos i0, if_pos (by omega)]
      rfl
    · have ih := compact_one ha d (i + 1) (by omega) (by omega) (by rw [cmpN, if_neg (fun z => c z.2), hc, take_snoc (by omega)])
      refine Ev2.step (fun k n => ?_) ih
      rw [f42_l0, f42_l0_B, if_pos i1, if_pos i0, if_pos i1, hwm, if_pos (by omega), if_pos (by omega)]
      rw [show ((i : Int)).toNat = i from Int.toNat_natCast i, show (((i - 1 : Nat) : Int)).toNat = i - 1 from Int.toNat_natCast _, if_neg c, f42_c7, f42_c7_B, hw]
theorem compact_ev (a : List Int) (ha : a.length ≤ 1000000) : Ev (fun k => f42 k a) ((cmpN a a.length, ()), ()) := by
  simp only [f42, f42_entry_B]
  by_cases c : (a.length : Int) < 2
  · refine Ev.of (g := fun _ => some ((cmpN a a.length, ()), ())) (fun k => ?_) (Ev.pure _)
    rw [if_pos c]
    match a, c with
    | [], _ => rfl
    | [x], _ => simp [cmpN]
    | _ :: _ :: _, c => simp at c; omega
  · refine Ev.of (fun k => by rw [if_neg c]; rfl) (compact_one ha (a.length - 1) 1 (by omega) (by omega) ?_).diag
    rw [take_snoc (by omega), cmpN, if_neg (fun z => z.1 rfl)]
    rfl
/-- A sorted row loses its twins, and nothing else. -/
theorem cmpN_spec {a : List Int} (hs : a.Pairwise (· ≤ ·)) : ∀ i, i ≤ a.length → (cmpN a i).Pairwise (· < ·) ∧ (∀ x, x ∈ cmpN a i ↔ x ∈ a.take i) ∧ (∀ x ∈ cmpN a i, i = 0 ∨ x ≤ a.getD (i - 1) 0)
  | 0, _ => ⟨List.Pairwise.nil, fun x => by simp [cmpN], fun x h => by simp [cmpN] at h⟩
  | i + 1, hi => by
    obtain ⟨h1, h2, h3⟩ := cmpN_spec hs i (by omega)
    have hle : ∀ x ∈ a.take i, x ≤ a.getD i 0 := fun x hx => by
      obtain ⟨j, hj, rfl⟩ := List.mem_iff_getElem.1 hx
      rw [List.length_take] at hj
      rw [List.getElem_take, List.getD_eq_getElem?_getD, List.getElem?_eq_getElem (by omega : i < a.length)]
      exact List.pairwise_iff_getElem.1 hs j i (by omega) (by omega) (by omega)
    rw [cmpN]
    split
    · rename_i hc
      obtain ⟨hc0, hc⟩ := hc
      refine ⟨h1, fun x => ?_, fun x hx => .inr ?_⟩
      · rw [h2, take_snoc (by omega), List.mem_append, List.mem_singleton]
        refine ⟨.inl, fun h => h.elim id fun e => ?_⟩
        subst e
        rw [hc]
        have : a.take i = a.take (i - 1) ++ [a.getD (i - 1) 0] := by rw [← take_snoc (by omega), show i - 1 + 1 = i by omega]
        rw [this]; simp
      · rw [Nat.add_sub_cancel, hc]
        exact (h3 x hx).resolve_left hc0
    · rename_i hc
      refine ⟨List.pairwise_append.2 ⟨h1, List.pairwise_singleton _ _, fun x hx y hy => ?_⟩, fun x => ?_, fun x hx => .inr ?_⟩
      · rw [List.mem_singleton] at hy
        subst hy
        rcases h3 x hx with rfl | h
        · simp [cmpN] at hx
        · by_cases e : i = 0
          · subst e; simp [cmpN] at hx
          · have g1 := hle (a.getD (i - 1) 0) (by
              have : a.take i = a.take (i - 1) ++ [a.getD (i - 1) 0] := by rw [← take_snoc (by omega), show i - 1 + 1 = i by omega]
              rw [this]; simp)
            have g2 : a.getD i 0 ≠ a.getD (i - 1) 0 := fun z => hc ⟨e, z⟩
            omega
      · rw [take_snoc (by omega), List.mem_append, List.mem_append, h2]
      · rw [Nat.add_sub_cancel]
        rcases List.mem_append.1 hx with hx | hx
        · exact hle x ((h2 x).1 hx)
        · rw [List.mem_singleton] at hx; omega
/-- Two rows that rise and have the same entries are the same. -/
theorem rise_one : ∀ {l m : List Int}, l.Pairwise (· < ·) → m.Pairwise (· < ·) → (∀ x, x ∈ l ↔ x ∈ m) → l = m
  | [], [], _, _, _ => rfl
  | [], y :: m, _, _, h => by have := (h y).2 (by simp); cases this
  | x :: l, [], _, _, h => by have := (h x).1 (by simp); cases this
  | x :: l, y :: m, hl, hm, h => by
    obtain ⟨l1, l2⟩ := List.pairwise_cons.1 hl
    obtain ⟨m1, m2⟩ := List.pairwise_cons.1 hm
    have e : x = y := by
      rcases List.mem_cons.1 ((h x).1 (by simp)) with e | hx
      · exact e
      · rcases List.mem_cons.1 ((h y).2 (by simp)) with e | hy
        · exact e.symm
        · have := l1 y hy; have := m1 x hx; omega
    subst e
    rw [rise_one l2 m2 fun z => ?_]
    constructor
    · intro hz
      rcases List.mem_cons.1 ((h z).1 (by simp [hz])) with e | hz'
      · subst e; have := l1 _ hz; omega
      · exact hz'
    · intro hz
      rcases List.mem_cons.1 ((h z).2 (by simp [hz])) with e | hz'
      · subst e; have := m1 _ hz; omega
      · exact hz'
end Go.Proofs.Ytoebjlimpnmaoaa.Rw

namespace Go.Proofs.Ytoebjlimpnmaoaa.Rw
open Go.Rx
set_option linter.unusedVariables false
set_option linter.unusedSimpArgs false
/-- The ends of the edges that are reached whole. -/
def whoL (E : List Ed) (P : List (Int × Int)) : List Int := (P.filter fun x => decide (x.2 = costE E x.1)).map fun x => toE E x.1
theorem who_snoc (E : List Ed) (P : List (Int × Int)) (x : Int × Int) : whoL E (P ++ [x]) = if x.2 = costE E x.1 then whoL E P ++ [toE E x.1] else whoL E P := by
  unfold whoL
  rw [List.filter_append, List.map_append]
  by_cases c : x.2 = costE E x.1
  · rw [if_pos c, List.filter_cons_of_pos (by simpa using c)]; rfl
  · rw [if_neg c, List.filter_cons_of_neg (by simpa using c)]; simp
theorem who_len (E : List Ed) (P : List (Int × Int)) : (whoL E P).length ≤ P.length := by
  unfold whoL; rw [List.length_map]; exact List.length_filter_le ..
theorem sort_mem {l : List Int} {x : Int} : x ∈ sortN l ↔ x ∈ l := by unfold sortN; exact List.mem_mergeSort
theorem sort_len (l : List Int) : (sortN l).length = l.length := by unfold sortN; exact List.length_mergeSort ..
theorem sort_pair (l : List Int) : (sortN l).Pairwise (· ≤ ·) := by
  have := List.pairwise_mergeSort (le := fun a b : Int => decide (a ≤ b)) (fun a b c h1 h2 => by simp at *; omega) (fun a b => by simp; omega) l
  exact this.imp (fun h => by simpa using h)
theorem grow_last {a b w : List Int} (ha : a.length ≤ 1000) (hb : b.length ≤ 1000000) (hw : w.length ≤ 1000000) (hab : ∀ x ∈ a, x ∈ b) (hc : cmpN w w.length = a) : ∀ (rest pre : List Int), pre ++ rest = a →
    Ev2 (fun k n => f12_l2 k n a b w (a.length : Int) (pre.length : Int)) (true, ())
  | [], pre, hpl => by
    have e : pre = a := by simpa using hpl
    subst e
    have h1 := compact_ev w hw
    rw [hc] at h1
    refine Ev2.step (g := fun k _ => (f42 k w).bind fun r2 => (f20 k pre r2.1.1).bind fun r3 => some (decide (r3.1 = true), ())) (fun k n => ?_) ((h1.bind ((equal_ev pre (by omega)).bind (g := fun _ r3 => some (decide (r3.1 = true), ())) (Ev.pure _))).two)
    rw [f12_l2, f12_l2_B, if_neg (by omega)]
  | x :: rest, pre, hpl => by
    have i0 : (0 : Int) ≤ (pre.length : Int) := by omega
    have hlt : pre.length < a.length := by rw [← hpl]; simp
    have i1 : (pre.length : Int) < (a.length : Int) := by omega
    have hg : a.getD ((pre.length : Int)).toNat 0 = x := by rw [← hpl]; exact getD_mid
    have hw' : w64 ((pre.length : Int) + 1) = (((pre ++ [x]).length : Nat) : Int) := by
      rw [w64_id (by omega) (by omega)]; simp
    have hx : x ∈ b := hab x (by rw [← hpl]; simp)
    have ih := grow_last ha hb hw hab hc rest (pre ++ [x]) (by simp [← hpl])
    refine Ev2.step (g := fun k n => (f38 k b x).bind fun r1 => (if ¬ (r1.1 = true) then some (false, ()) else f12_l2 k n a b w (a.length : Int) (((pre ++ [x]).length : Nat) : Int))) (fun k n => ?_) ?_
    · rw [f12_l2, f12_l2_B, if_pos i1, if_pos i0, if_pos i1, hg, hw']
    · refine (has_ev (x := x) (L := b) hb).bind2 ?_
      simp only [decide_eq_true hx, not_true_eq_false, if_false]
      exact ih
theorem grow_fill {N B : List Pt} {E : List Ed} {P : List (Int × Int)} {a b : List Int} (hE : E.length ≤ 600) (hP : P.length ≤ 600) (hin : ∀ x ∈ P, inR x.1 E.length ∧ x.2 ≤ costE E x.1) {res : Bool × Unit}
    (hend : Ev2 (fun k _ => f12_l2 k k a b (sortN (0 :: whoL E P)) (a.length : Int) 0) res) : ∀ (rest pre : List (Int × Int)), pre ++ rest = P →
    Ev2 (fun k n => f12_l0 k n a b P (0 :: whoL E pre) N E B (P.length : Int) (pre.length : Int)) res
  | [], pre, hpl => by
    have e : pre = P := by simpa using hpl
    subst e
    refine Ev2.step (fun k n => ?_) hend
    have hl := who_len E pre
    rw [f12_l0, f12_l0_B, if_neg (by omega), f41, sortF, if_pos (by simp only [List.length_cons]; omega)]
    rfl
  | x :: rest, pre, hpl => by
    have i0 : (0 : Int) ≤ (pre.length : Int) := by omega
    have hlt : pre.length < P.length := by rw [← hpl]; simp
    have i1 : (pre.length : Int) < (P.length : Int) := by omega
    have hg : P.getD ((pre.length : Int)).toNat (0, 0) = x := by rw [← hpl]; exact getD_mid
    have hw' : w64 ((pre.length : Int) + 1) = (((pre ++ [x]).length : Nat) : Int) := by
      rw [w64_id (by omega) (by omega)]; simp
    obtain ⟨⟨x0, x1⟩, x2⟩ := hin x (by rw [← hpl]; simp)
    have hl := who_len E pre
    have ih := grow_fill (N := N) (B := B) hE hP hin hend rest (pre ++ [x]) (by simp [← hpl])
    refine Ev2.step (fun k n => ?_) ih
    have hco : (E.getD x.1.toNat (0, (0, (0, 0)))).2.2.1 = costE E x.1 := rfl
    have hto : (E.getD x.1.toNat (0, (0, (0, 0)))).2.1 = toE E x.1 := rfl
    rw [f12_l0, f12_l0_B, if_pos i1, if_pos i0, if_pos i1, hg, if_neg (by omega), if_neg (by omega), if_pos x0, if_pos x1, hco, decide_eq_false (by omega), f12_r12, f12_r12_B, if_neg (by simp), if_pos x0, if_pos x1, hco, hto]
    by_cases c : x.2 = costE E x.1
    · rw [if_pos c, if_pos x0, if_pos x1, if_pos (by simp only [List.length_cons]; omega), f12_c15, f12_c15_B, hw', who_snoc, if_pos c]; rfl
    · rw [if_neg c, f12_c15, f12_c15_B, hw', who_snoc, if_neg c]
/-- A node is reached just if it is the first one, or an edge to it is reached whole. -/
theorem reach_iff {N B : List Pt} {E : List Ed} {s m : Int} (hm : 0 ≤ m) {W : List (List Int)} {C : List Int} (hV : NetV N E B) (hs : inR s N.length) (hW : Opt E B s W) (hC : LeastC N.length E B s C) (x : Int) :
    (x = s ∨ x ∈ whoL E (parP E W m E.length)) ↔ x ∈ nodP C m C.length := by
  have hcost : ∀ k, Rw.inR k E.length → 0 ≤ costE E k := fun k hk => (hV.cost k hk).1
  have hmem : x ∈ whoL E (parP E W m E.length) ↔ ∃ k : Int, inR k E.length ∧ W.getD k.toNat [] ≠ [] ∧ cW E (W.getD k.toNat []) ≤ m ∧ toE E k = x := by
    unfold whoL
    rw [List.mem_map]
    constructor
    · rintro ⟨p, hp, rfl⟩
      rw [List.mem_filter] at hp
      obtain ⟨h1, h2⟩ := hp
      obtain ⟨g1, g2, g3, g4, g5⟩ := parP_mem.1 h1
      have h2 : p.2 = costE E p.1 := by simpa using h2
      exact ⟨p.1, ⟨g1, g2⟩, g3, by omega, rfl⟩
    · rintro ⟨k, ⟨h1, h2⟩, h3, h4, rfl⟩
      refine ⟨(k, costE E k), ?_, rfl⟩
      rw [List.mem_filter]
      have := hcost k ⟨h1, h2⟩
      exact ⟨parP_mem.2 ⟨h1, h2, h3, by show cW E (W.getD k.toNat []) - costE E k ≤ m; omega, by show costE E k = min (costE E k) (m - (cW E (W.getD k.toNat []) - costE E k)); omega⟩, by simp⟩
  rw [hmem, nodP_mem, hC.len]
  have hk : ∀ {w : List Int} {k : Int}, Wy E B s w k → k.toNat < E.length ∧ ((k.toNat : Nat) : Int) = k := fun h => by
    have := h.inR.1; have := h.inR.2; omega
  constructor
  · rintro (e | ⟨k, h1, h2, h3, rfl⟩)
    · rw [e]
      have hsn : s.toNat < N.length := by have := hs.1; have := hs.2; omega
      have es : ((s.toNat : Nat) : Int) = s := by have := hs.1; omega
      rcases hC.at_ s.toNat hsn with ⟨_, g⟩ | ⟨g1, g2, g3⟩
      · exact (g 0 (.inl ⟨es, rfl⟩)).elim
      · have := g3 0 (.inl ⟨es, rfl⟩)
        exact ⟨hs.1, hs.2, g1, by omega⟩
    · obtain ⟨_, t0, t1⟩ := hV.ends k h1
      have hkn : k.toNat < E.length := by have := h1.1; have := h1.2; omega
      have ek : ((k.toNat : Nat) : Int) = k := by have := h1.1; omega
      obtain ⟨y1, y2⟩ := hW.yes k.toNat hkn h2
      rw [ek] at y1
      have hr : Rch E B s (toE E k) (cW E (W.getD k.toNat [])) := .inr ⟨_, k, y1, rfl, rfl⟩
      have et : (((toE E k).toNat : Nat) : Int) = toE E k := by omega
      rcases hC.at_ (toE E k).toNat (by omega) with ⟨_, g⟩ | ⟨g1, g2, g3⟩
      · rw [et] at g; exact (g _ hr).elim
      · rw [et] at g3
        have := g3 _ hr
        exact ⟨t0, t1, g1, by omega⟩
  · rintro ⟨h0, h1, h2, h3⟩
    have ex : ((x.toNat : Nat) : Int) = x := by omega
    rcases hC.at_ x.toNat (by omega) with ⟨g, _⟩ | ⟨_, g2, _⟩
    · omega
    · rw [ex] at g2
      rcases g2 with ⟨rfl, _⟩ | ⟨w, k, g3, g4, g5⟩
      · exact .inl rfl
      · obtain ⟨q1, q2⟩ := hk g3
        have hne : W.getD k.toNat [] ≠ [] := fun z => hW.no k.toNat q1 z w (by rw [q2]; exact g3)
        have := wle_cost ((hW.yes k.toNat q1 hne).2 w (by rw [q2]; exact g3))
        exact .inr ⟨k, g3.inR, hne, by omega, g4⟩
theorem grow_law (a : List Int) (m1 m2 : Int) : Ev (fun k => f12 k a m1 m2) (true, ()) := by
  obtain ⟨N, E, B, n1, n2, n3, e1, e2, b1, b2, hnet⟩ := net_ev a
  have hv := made_valid n1 n3 e1 e2 b1 b2
  have hV := netV_of hv
  have h0 : inR 0 N.length := ⟨by omega, by omega⟩
  have hr : Ev (fun k => f37 k) (true, ()) := Ev.off 60 reached4_true
  have hb1 := below_lt (x := m1) (n := 60) (by omega)
  have hb2 := below_lt (x := m2) (n := 20) (by omega)
  obtain ⟨C, c1, c2⟩ := costs_ev hv h0
  obtain ⟨W, w1, w2⟩ := ends_ev hv h0
  have hCl := c1.len
  have hE := hV.n2
  have hPl := parP_len E W (belowF m1 60) E.length
  have hNl := nodP_len C (belowF m1 60) C.length
  have hN2 := nodP_len C (belowF m1 60 + belowF m2 20) C.length
  have hwl := who_len E (parP E W (belowF m1 60) E.length)
  have hsub : ∀ x ∈ nodP C (belowF m1 60) C.length, x ∈ nodP C (belowF m1 60 + belowF m2 20) C.length := fun x hx => by
    obtain ⟨g1, g2, g3, g4⟩ := nodP_mem.1 hx
    exact nodP_mem.2 ⟨g1, g2, g3, by omega⟩
  have hcmp : cmpN (sortN (0 :: whoL E (parP E W (belowF m1 60) E.length))) (sortN (0 :: whoL E (parP E W (belowF m1 60) E.length))).length = nodP C (belowF m1 60) C.length := by
    obtain ⟨g1, g2, _⟩ := cmpN_spec (sort_pair (0 :: whoL E (parP E W (belowF m1 60) E.length))) _ (Nat.le_refl _)
    refine rise_one g1 (nodP_pair ..) fun x => ?_
    rw [g2, List.take_length, sort_mem, List.mem_cons]
    exact reach_iff hb1.1 hV h0 w1 c1 x
  have hlast := (grow_last (a := nodP C (belowF m1 60) C.length) (b := nodP C (belowF m1 60 + belowF m2 20) C.length) (w := sortN (0 :: whoL E (parP E W (belowF m1 60) E.length))) (by omega) (by omega) (by rw [sort_len]; simp only [List.length_cons]; omega) hsub hcmp _ [] rfl).diag.two
  have hfill := (grow_fill (N := N) (B := B) hE (by omega) (fun x hx => by
    obtain ⟨g1, g2, _, _, g5⟩ := parP_mem.1 hx
    exact ⟨⟨g1, g2⟩, by omega⟩) hlast _ [] rfl).diag
  simp only [f12, f12_entry_B]
  refine hnet.bind ?_
  refine Ev.of (fun k => by rw [below_eq k m1 60 (by omega) (by omega), Option.bind_some]) ?_
  refine (nodes_ev hv h0 c1 (belowF m1 60)).bind ?_
  refine Ev.of (fun k => by rw [below_eq k m2 20 (by omega) (by omega), Option.bind_some, w64_id (n := belowF m1 60 + belowF m2 20) (by omega) (by omega)]) ?_
  refine (nodes_ev hv h0 c1 (belowF m1 60 + belowF m2 20)).bind ?_
  refine (parts_ev hv h0 w1 (by omega)).bind ?_
  refine hr.bind ?_
  refine Ev.of (fun k => ?_) hfill
  rw [if_neg (by simp), if_neg (by simp), if_neg (by simp), decide_eq_false (by simp), f12_r6, f12_r6_B, if_neg (by simp)]
  rfl
/-- **With more, no less is reached; a node is reached just if it is the first one or an edge to it is reached to its end.** -/
theorem pure_IsoGrows : Pure_IsoGrows := by
  rintro ⟨a, m1, m2, u⟩ hwf
  exact (grow_law a m1 m2).get
end Go.Proofs.Ytoebjlimpnmaoaa.Rw
