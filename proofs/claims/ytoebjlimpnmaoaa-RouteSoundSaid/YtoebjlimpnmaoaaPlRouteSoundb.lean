/- Plain laws for RouteSound. No condition. -/
import Derived.Test.YtoebjlimpnmaoaaPlRouteSounda
namespace Go.Proofs.Ytoebjlimpnmaoaa.Rw
open Go.Rx
set_option linter.unusedVariables false
set_option linter.unusedSimpArgs false
theorem edF_all {n : Nat} : ∀ {E : List Ed}, edF n E = 0 → ∀ i, i < E.length → ¬ badE n (E.getD i zE)
  | [], _, i, hi => by simp at hi
  | e :: l, h, i, hi => by
    unfold edF at h
    split at h
    · cases h
    · rename_i h1
      split at h
      · cases h
      · cases i with
        | zero => exact h1
        | succ i => simpa using edF_all h i (by simpa using hi)
/-- A valid network. -/
structure NetV (N : List Pt) (E : List Ed) (B : List Pt) : Prop where
  n1 : N.length ≤ 200
  n2 : E.length ≤ 600
  n3 : B.length ≤ 600
  ends : ∀ k, inR k E.length → inR (fromE E k) N.length ∧ inR (toE E k) N.length
  cost : CostOK E
theorem netV_of {N : List Pt} {E : List Ed} {B : List Pt} (h : netF (N, (E, B)) = 0) : NetV N E B := by
  unfold netF at h
  split at h
  · cases h
  · rename_i h0
    split at h
    · split at h
      · rename_i h2
        have hb : ∀ k, inR k E.length → ¬ badE N.length (E.getD k.toNat zE) := fun k hk => edF_all (show edF N.length E = 0 from h2) k.toNat (by have := hk.1; have := hk.2; omega)
        have h0' : ¬ (200 < (N.length : Int) ∨ 600 < (E.length : Int) ∨ 600 < (B.length : Int)) := h0
        refine ⟨by omega, by omega, by omega, fun k hk => ?_, fun k hk => ?_⟩
        · have := hb k hk
          unfold badE at this
          refine ⟨?_, ?_⟩
          · exact Decidable.byContradiction fun z => this (.inl z)
          · exact Decidable.byContradiction fun z => this (.inr (.inl z))
        · have := hb k hk
          unfold badE at this
          unfold costE
          constructor <;> omega
      · rename_i h2; exact absurd h h2
    · rename_i h1; exact absurd h h1
def vldF (n : Nt) (L : List Int) : Int := if netF n = 0 then (if ∀ x ∈ L, inR x n.1.length then 0 else 1) else netF n
theorem valid_loop {N B : List Pt} {E : List Ed} (hN : N.length ≤ 1000) : ∀ (rest pre L : List Int), pre ++ rest = L → L.length ≤ 1000 → (∀ x ∈ pre, inR x N.length) →
    Ev2 (fun k n => f57_l0 k n N E B L (L.length : Int) (pre.length : Int)) (if ∀ x ∈ L, inR x N.length then 0 else 1, ())
  | [], pre, L, hpl, hL, hp => by
    have e : pre = L := by simpa using hpl
    subst e
    rw [if_pos hp]
    refine Ev2.step (g := fun _ _ => some (0, ())) (fun k n => ?_) (Ev2.pure _)
    rw [f57_l0, f57_l0_B, if_neg (by omega)]
  | x :: rest, pre, L, hpl, hL, hp => by
    have i0 : (0 : Int) ≤ (pre.length : Int) := by omega
    have hlt : pre.length < L.length := by rw [← hpl]; simp
    have i1 : (pre.length : Int) < (L.length : Int) := by omega
    have hg : L.getD ((pre.length : Int)).toNat 0 = x := by rw [← hpl]; exact getD_mid
    have hw : w64 ((pre.length : Int) + 1) = (((pre ++ [x]).length : Nat) : Int) := by
      rw [w64_id (by omega) (by omega)]; simp
    have hxL : x ∈ L := by rw [← hpl]; simp
    by_cases c : inR x N.length
    · have := valid_loop (E := E) (B := B) hN rest (pre ++ [x]) L (by simp [← hpl]) hL (fun y hy => by
        rcases List.mem_append.1 hy with hy | hy
        · exact hp y hy
        · simp only [List.mem_singleton] at hy; subst hy; exact c)
      refine Ev2.step (fun k n => ?_) this
      have c' := c
      unfold inR at c'
      rw [f57_l0, f57_l0_B, if_pos i1, if_pos i0, if_pos i1, hg, if_neg (by omega), decide_eq_false (by omega), f57_r7, f57_r7_B, if_neg (by simp), hw]
    · rw [if_neg (fun z => c (z x hxL))]
      refine Ev2.step (g := fun _ _ => some (1, ())) (fun k n => ?_) (Ev2.pure _)
      rw [f57_l0, f57_l0_B, if_pos i1, if_pos i0, if_pos i1, hg]
      unfold inR at c
      by_cases d : x < 0
      · rw [if_pos d, f57_r7, f57_r7_B, if_pos rfl]
      · rw [if_neg d, decide_eq_true (by omega), f57_r7, f57_r7_B, if_pos rfl]
theorem valid_ev (n : Nt) (L : List Int) (hL : L.length ≤ 1000) : Ev (fun k => f57 k n L) (vldF n L, ()) := by
  obtain ⟨N, E, B⟩ := n
  simp only [f57, f57_entry_B]
  refine (chk_ev (N, (E, B))).bind ?_
  unfold vldF
  by_cases c : netF (N, (E, B)) = 0
  · simp only [c, not_true_eq_false, if_false, if_true]
    exact (valid_loop (E := E) (B := B) (by have := (netV_of c).n1; omega) L [] L rfl hL (fun x hx => by cases hx)).diag
  · simp only [c, not_false_eq_true, if_true, if_false]
    exact Ev.pure _
theorem row_ext2 {l m : List Int} (hl : l.length = m.length) (h : ∀ i, i < l.length → l.getD i 0 = m.getD i 0) : l = m := by
  refine List.ext_getElem hl fun i h1 h2 => ?_
  have := h i h1
  rw [List.getD_eq_getElem?_getD, List.getD_eq_getElem?_getD, List.getElem?_eq_getElem h1, List.getElem?_eq_getElem h2] at this
  exact this
/-- What Ends says of a way. -/
def endC (E : List Ed) (w : List Int) : Int := if w = [] then -1 else cW E w
theorem ends_at {E : List Ed} {W : List (List Int)} {i : Nat} (hi : i < W.length) : (W.map (endC E)).getD i 0 = endC E (W.getD i []) := by
  rw [List.getD_eq_getElem?_getD, List.getElem?_map, List.getD_eq_getElem?_getD, List.getElem?_eq_getElem hi]; rfl
theorem ends_loop {E : List Ed} {B : List Pt} {s : Int} {l : List Lb} {W : List (List Int)} (hE : E.length ≤ 600) (h : Lab E B s l W) : ∀ (d i : Nat) (R : List Int), i + d = E.length → R.length = E.length → (∀ j, j < i → R.getD j 0 = endC E (W.getD j [])) →
    Ev2 (fun k n => f29_l0 k n R l (l.length : Int) (i : Int)) (W.map (endC E), ())
  | 0, i, R, hi, hR, hj => by
    have e : i = E.length := by omega
    subst e
    rw [show W.map (endC E) = R from (row_ext2 (by rw [hR, List.length_map, h.l2]) (fun j hj' => by rw [ends_at (by rw [h.l2]; omega)]; exact hj j (by omega))).symm]
    refine Ev2.step (g := fun _ _ => some (R, ())) (fun k n => ?_) (Ev2.pure _)
    rw [f29_l0, f29_l0_B, if_neg (by rw [h.l1]; omega)]
  | d + 1, i, R, hi, hR, hj => by
    have hiE : i < E.length := by omega
    have a0 : (0 : Int) ≤ (i : Int) := by omega
    have a1 : (i : Int) < (l.length : Int) := by rw [h.l1]; omega
    have a2 : (i : Int) < (R.length : Int) := by omega
    have hiR : i < R.length := by omega
    have hw : w64 ((i : Int) + 1) = ((i + 1 : Nat) : Int) := by rw [w64_id (by omega) (by omega)]; omega
    have hkn : (l.getD ((i : Int)).toNat (0, (0, (0, (false, false))))).2.2.2.1 = knL l i := by rw [Int.toNat_natCast]; rfl
    by_cases c : W.getD i [] = []
    · have hk := (h.un i hiE c).1
      have := ends_loop hE h d (i + 1) (R.set i (-1)) (by omega) (by simpa using hR) (fun j hj' => by
        rw [gsetN]
        by_cases e : i = j
        · subst e; rw [if_pos ⟨rfl, hiR⟩]; unfold endC; rw [if_pos c]
        · rw [if_neg (fun z => e z.1)]; exact hj j (by omega))
      refine Ev2.step (fun k n => ?_) this
      rw [f29_l0, f29_l0_B, if_pos a1, if_pos a0, if_pos a1, if_pos a0, if_pos a2, hkn, hk, if_neg (by simp), f29_c11, f29_c11_B, hw, Int.toNat_natCast]
    · obtain ⟨hk, c1, _⟩ := h.kn i hiE c
      have c1 : (l.getD ((i : Int)).toNat (0, (0, (0, (false, false))))).1 = cW E (W.getD i []) := by rw [Int.toNat_natCast]; exact c1
      have := ends_loop hE h d (i + 1) ((R.set i (-1)).set i (cW E (W.getD i []))) (by omega) (by simpa using hR) (fun j hj' => by
        rw [gsetN]
        by_cases e : i = j
        · subst e; rw [if_pos ⟨rfl, by simpa using hiR⟩]; unfold endC; rw [if_neg c]
        · rw [if_neg (fun z => e z.1), gsetN, if_neg (fun z => e z.1)]; exact hj j (by omega))
      refine Ev2.step (fun k n => ?_) this
      rw [f29_l0, f29_l0_B, if_pos a1, if_pos a0, if_pos a1, if_pos a0, if_pos a2, hkn, hk, if_pos rfl, if_pos a0, if_pos (by simpa using a2), c1, f29_c11, f29_c11_B, hw, Int.toNat_natCast]
theorem ends_ev {N : List Pt} {E : List Ed} {B : List Pt} (hv : netF (N, (E, B)) = 0) {s : Int} (hs : inR s N.length) : ∃ W, Opt E B s W ∧ Ev (fun k => f29 k (N, (E, B)) s) (W.map (endC E), ()) := by
  have hV := netV_of hv
  have hE := hV.n2
  obtain ⟨nx, n1, n2⟩ := start_ev N (E := E) (B := B) hV.n2 (by have := hV.n3; omega)
  obtain ⟨lf, W, z1, z2, z3⟩ := run_ev (N := N) (B := B) s hV.n2 hV.cost n1
  refine ⟨W, z2, ?_⟩
  simp only [f29, f29_entry_B]
  refine (valid_ev (N, (E, B)) [s] (by simp)).bind ?_
  have hvl : vldF (N, (E, B)) [s] = 0 := by unfold vldF; rw [if_pos hv, if_pos (by simpa using hs)]
  simp only [hvl, not_true_eq_false, if_false]
  have a0 : (0 : Int) ≤ (E.length : Int) := by omega
  have a1 : (E.length : Int) ≤ 1073741824 := by omega
  refine n2.bind (z3.bind ?_)
  simp only [if_pos a0, if_pos a1, Int.toNat_natCast]
  exact (ends_loop hE z1 E.length 0 (List.replicate E.length 0) (by omega) (by simp) (fun j hj => by omega)).diag
/-- A node can be reached at a cost. -/
def Rch (E : List Ed) (B : List Pt) (s v c : Int) : Prop := (v = s ∧ c = 0) ∨ ∃ w k, Wy E B s w k ∧ toE E k = v ∧ cW E w = c
/-- The least costs of all nodes, or -1. -/
structure LeastC (n : Nat) (E : List Ed) (B : List Pt) (s : Int) (C : List Int) : Prop where
  len : C.length = n
  at_ : ∀ v, v < n → (C.getD v 0 = -1 ∧ ∀ c, ¬ Rch E B s (v : Int) c) ∨ (0 ≤ C.getD v 0 ∧ Rch E B s (v : Int) (C.getD v 0) ∧ ∀ c, Rch E B s (v : Int) c → C.getD v 0 ≤ c)
  hi : ∀ v, v < n → C.getD v 0 ≤ 659706976665600
theorem LeastC.one {n : Nat} {E : List Ed} {B : List Pt} {s : Int} {C D : List Int} (h : LeastC n E B s C) (k : LeastC n E B s D) : C = D :=
  row_ext2 (by rw [h.len, k.len]) fun v hv => by
    have hv : v < n := by rw [← h.len]; exact hv
    rcases h.at_ v hv with ⟨h1, h2⟩ | ⟨h1, h2, h3⟩
    · rcases k.at_ v hv with ⟨k1, k2⟩ | ⟨k1, k2, k3⟩
      · omega
      · exact (h2 _ k2).elim
    · rcases k.at_ v hv with ⟨k1, k2⟩ | ⟨k1, k2, k3⟩
      · exact (k2 _ h2).elim
      · have := h3 _ k2; have := k3 _ h2; omega
/-- What the row says after some edges. -/
def CostI (n : Nat) (E : List Ed) (W : List (List Int)) (i : Nat) (R : List Int) : Prop := R.length = n ∧ ∀ v, v < n →
  (R.getD v 0 = -1 ∧ ∀ j : Nat, j < i → toE E (j : Int) = (v : Int) → W.getD j [] = []) ∨
  (0 ≤ R.getD v 0 ∧ (∃ j : Nat, j < i ∧ toE E (j : Int) = (v : Int) ∧ W.getD j [] ≠ [] ∧ R.getD v 0 = cW E (W.getD j [])) ∧ ∀ j : Nat, j < i → toE E (j : Int) = (v : Int) → W.getD j [] ≠ [] → R.getD v 0 ≤ cW E (W.getD j []))
theorem CostI.skip {n : Nat} {E : List Ed} {W : List (List Int)} {i : Nat} {R : List Int} (h : CostI n E W i R) (hn : ∀ v : Nat, v < n → toE E (i : Int) = (v : Int) → W.getD i [] ≠ [] → 0 ≤ R.getD v 0 ∧ R.getD v 0 ≤ cW E (W.getD i [])) : CostI n E W (i + 1) R := by
  refine ⟨h.1, fun v hv => ?_⟩
  rcases h.2 v hv with ⟨h1, h2⟩ | ⟨h1, ⟨j, j1, j2⟩, h3⟩
  · refine .inl ⟨h1, fun j hj ht => ?_⟩
    by_cases e : j = i
    · subst e
      by_cases g : W.getD j [] = []
      · exact g
      · have := hn v hv ht g; omega
    · exact h2 j (by omega) ht
  · refine .inr ⟨h1, ⟨j, by omega, j2⟩, fun j hj ht hw => ?_⟩
    by_cases e : j = i
    · subst e; exact (hn v hv ht hw).2
    · exact h3 j (by omega) ht hw
theorem CostI.set {n : Nat} {E : List Ed} {W : List (List Int)} {i v : Nat} {R : List Int} (h : CostI n E W i R) (hv : v < n) (ht : toE E (i : Int) = (v : Int)) (hw : W.getD i [] ≠ []) (h0 : 0 ≤ cW E (W.getD i [])) (hc : R.getD v 0 < 0 ∨ cW E (W.getD i []) < R.getD v 0) : CostI n E W (i + 1) (R.set v (cW E (W.getD i []))) := by
  have hvR : v < R.length := by rw [h.1]; exact hv
  refine ⟨by simpa using h.1, fun u hu => ?_⟩
  rw [gsetN]
  by_cases e : v = u
  · subst e
    rw [if_pos ⟨rfl, hvR⟩]
    refine .inr ⟨h0, ⟨i, by omega, ht, hw, rfl⟩, fun j hj htj hwj => ?_⟩
    by_cases e : j = i
    · subst e; exact Int.le_refl _
    · rcases h.2 v hv with ⟨h1, h2⟩ | ⟨h1, _, h3⟩
      · exact (hwj (h2 j (by omega) htj)).elim
      · have := h3 j (by omega) htj hwj; omega
  · rw [if_neg (fun z => e z.1)]
    rcases h.2 u hu with ⟨h1, h2⟩ | ⟨h1, ⟨j, j1, j2⟩, h3⟩
    · refine .inl ⟨h1, fun j hj htj => ?_⟩
      by_cases e' : j = i
      · subst e'; omega
      · exact h2 j (by omega) htj
    · refine .inr ⟨h1, ⟨j, by omega, j2⟩, fun j hj htj hwj => ?_⟩
      by_cases e' : j = i
      · subst e'; omega
      · exact h3 j (by omega) htj hwj
theorem costs_loop {N : List Pt} {E : List Ed} {B : List Pt} (hV : NetV N E B) {s : Int} (hs : inR s N.length) {W : List (List Int)} (hW : Opt E B s W) : ∀ (d i : Nat) (R : List Int), i + d = E.length → CostI N.length E W i R →
    ∃ R', CostI N.length E W E.length R' ∧ Ev2 (fun k n => f28_l0 k n R N E B (W.map (endC E)) s ((W.map (endC E)).length : Int) (i : Int)) (R'.set s.toNat 0, ())
  | 0, i, R, hi, hR => by
    have e : i = E.length := by omega
    subst e
    refine ⟨R, hR, Ev2.step (g := fun _ _ => some (R.set s.toNat 0, ())) (fun k n => ?_) (Ev2.pure _)⟩
    rw [f28_l0, f28_l0_B, if_neg (by rw [List.length_map, hW.len]; omega), if_pos hs.1, if_pos (by rw [hR.1]; exact hs.2)]
  | d + 1, i, R, hi, hR => by
    have hiE : i < E.length := by omega
    have hn2 := hV.n2
    have hlm : (W.map (endC E)).length = E.length := by rw [List.length_map, hW.len]
    have a0 : (0 : Int) ≤ (i : Int) := by omega
    have a1 : (i : Int) < ((W.map (endC E)).length : Int) := by omega
    have a2 : (i : Int) < (E.length : Int) := by omega
    have hw : w64 ((i : Int) + 1) = ((i + 1 : Nat) : Int) := by rw [w64_id (by omega) (by omega)]; omega
    have he : (W.map (endC E)).getD ((i : Int)).toNat 0 = endC E (W.getD i []) := by rw [Int.toNat_natCast]; exact ends_at (by rw [hW.len]; exact hiE)
    have ht : (E.getD ((i : Int)).toNat (0, (0, (0, 0)))).2.1 = toE E (i : Int) := rfl
    obtain ⟨_, t0, t1⟩ := hV.ends (i : Int) ⟨a0, a2⟩
    have tn : (toE E (i : Int)).toNat < N.length := by omega
    have et : (((toE E (i : Int)).toNat : Nat) : Int) = toE E (i : Int) := by omega
    have hRl : (R.length : Int) = (N.length : Int) := by rw [hR.1]
    by_cases c : W.getD i [] = []
    · obtain ⟨R', r1, r2⟩ := costs_loop hV hs hW d (i + 1) R (by omega) (hR.skip (fun v _ _ hw => (hw c).elim))
      refine ⟨R', r1, Ev2.step (fun k n => ?_) r2⟩
      rw [f28_l0, f28_l0_B, if_pos a1, if_pos a0, if_pos a1, if_pos a0, if_pos a2, he]
      have : endC E (W.getD i []) = -1 := by unfold endC; rw [if_pos c]
      rw [this, if_neg (by decide), f28_r8, f28_r8_B, if_neg (by simp), f28_c9, f28_c9_B, hw]
    · obtain ⟨y1, y2⟩ := hW.yes i hiE c
      have h0 := y1.cost (fun k hk => (hV.cost k hk).1)
      have hec : endC E (W.getD i []) = cW E (W.getD i []) := by unfold endC; rw [if_neg c]
      have pre : ∀ k n, f28_l0 k (n + 1) R N E B (W.map (endC E)) s ((W.map (endC E)).length : Int) (i : Int) = f28_r8 k (f28_l0 k n) R N E B (W.map (endC E)) s ((W.map (endC E)).length : Int) (i : Int) (decide (R.getD (toE E (i : Int)).toNat 0 < 0 ∨ cW E (W.getD i []) < R.getD (toE E (i : Int)).toNat 0)) (cW E (W.getD i [])) (toE E (i : Int)) := fun k n => by
        rw [f28_l0, f28_l0_B, if_pos a1, if_pos a0, if_pos a1, if_pos a0, if_pos a2, he, hec, if_pos h0, ht, if_pos t0, if_pos (by omega)]
        by_cases g : R.getD (toE E (i : Int)).toNat 0 < 0
        · rw [if_pos g, decide_eq_true (Or.inl g)]
        · rw [if_neg g, if_pos t0, if_pos (by omega)]
          rw [show decide (cW E (W.getD i []) < R.getD (toE E (i : Int)).toNat 0) = decide (R.getD (toE E (i : Int)).toNat 0 < 0 ∨ cW E (W.getD i []) < R.getD (toE E (i : Int)).toNat 0) from decide_eq_decide.2 ⟨.inr, fun z => z.resolve_left g⟩]
      by_cases g : R.getD (toE E (i : Int)).toNat 0 < 0 ∨ cW E (W.getD i []) < R.getD (toE E (i : Int)).toNat 0
      · obtain ⟨R', r1, r2⟩ := costs_loop hV hs hW d (i + 1) _ (by omega) (hR.set tn et.symm c h0 g)
        refine ⟨R', r1, Ev2.step (fun k n => ?_) r2⟩
        rw [pre, decide_eq_true g, f28_r8, f28_r8_B, if_pos rfl, if_pos t0, if_pos (by omega), f28_c9, f28_c9_B, hw]
      · obtain ⟨R', r1, r2⟩ := costs_loop hV hs hW d (i + 1) R (by omega) (hR.skip (fun v hv htv _ => by
          have : v = (toE E (i : Int)).toNat := by omega
          subst this
          omega))
        refine ⟨R', r1, Ev2.step (fun k n => ?_) r2⟩
        rw [pre, decide_eq_false g, f28_r8, f28_r8_B, if_neg (by simp), f28_c9, f28_c9_B, hw]
theorem least_of {N : List Pt} {E : List Ed} {B : List Pt} (hV : NetV N E B) {s : Int} (hs : inR s N.length) {W : List (List Int)} (hW : Opt E B s W) {R : List Int} (hR : CostI N.length E W E.length R) : LeastC N.length E B s (R.set s.toNat 0) := by
  have hsR : s.toNat < R.length := by rw [hR.1]; have := hs.1; have := hs.2; omega
  refine ⟨by simpa using hR.1, fun v hv => ?_, fun v hv => ?_⟩
  rotate_left
  · rw [gsetN]
    split
    · decide
    · rcases hR.2 v hv with ⟨h1, _⟩ | ⟨_, ⟨j, j1, _, j3, j4⟩, _⟩
      · omega
      · have h1 := hW.sz j j1 j3
        have h2 := hV.n2
        have h3 := cW_le (E := E) (M := 1099511627776) (by decide) (fun k hk => (hV.cost k hk).2) (W.getD j []) (hW.yes j j1 j3).1.mem
        have h4 : (1099511627776 : Int) * ((W.getD j []).length : Int) ≤ 1099511627776 * 600 := Int.mul_le_mul_of_nonneg_left (by omega) (by decide)
        omega
  rw [gsetN]
  have hcost : ∀ w k, Wy E B s w k → 0 ≤ cW E w := fun w k h => h.cost (fun k hk => (hV.cost k hk).1)
  by_cases e : s.toNat = v
  · subst e
    rw [if_pos ⟨rfl, hsR⟩]
    have es : ((s.toNat : Nat) : Int) = s := by have := hs.1; omega
    refine .inr ⟨by decide, .inl ⟨es, rfl⟩, fun c hc => ?_⟩
    rcases hc with ⟨_, rfl⟩ | ⟨w, k, h1, _, rfl⟩
    · decide
    · exact hcost w k h1
  · rw [if_neg (fun z => e z.1)]
    have hvs : ¬ (v : Int) = s := fun z => by omega
    have hk : ∀ w k, Wy E B s w k → k.toNat < E.length ∧ ((k.toNat : Nat) : Int) = k := fun w k h => by
      have := h.inR.1; have := h.inR.2; omega
    rcases hR.2 v hv with ⟨h1, h2⟩ | ⟨h1, ⟨j, j1, j2, j3, j4⟩, h3⟩
    · refine .inl ⟨h1, fun c hc => ?_⟩
      rcases hc with ⟨z, _⟩ | ⟨w, k, g1, g2, _⟩
      · exact hvs z
      · obtain ⟨q1, q2⟩ := hk w k g1
        exact hW.no k.toNat q1 (h2 k.toNat q1 (by rw [q2]; exact g2)) w (by rw [q2]; exact g1)
    · refine .inr ⟨h1, .inr ⟨_, _, (hW.yes j j1 j3).1, j2, j4.symm⟩, fun c hc => ?_⟩
      rcases hc with ⟨z, _⟩ | ⟨w, k, g1, g2, rfl⟩
      · exact (hvs z).elim
      · obtain ⟨q1, q2⟩ := hk w k g1
        have hne : W.getD k.toNat [] ≠ [] := fun z => hW.no k.toNat q1 z w (by rw [q2]; exact g1)
        have := h3 k.toNat q1 (by rw [q2]; exact g2) hne
        have := wle_cost ((hW.yes k.toNat q1 hne).2 w (by rw [q2]; exact g1))
        omega
theorem costs_ev {N : List Pt} {E : List Ed} {B : List Pt} (hv : netF (N, (E, B)) = 0) {s : Int} (hs : inR s N.length) : ∃ C, LeastC N.length E B s C ∧ Ev (fun k => f28 k (N, (E, B)) s) (C, ()) := by
  have hV := netV_of hv
  have hn1 := hV.n1
  obtain ⟨W, w1, w2⟩ := ends_ev hv hs
  have hI : CostI N.length E W 0 (List.replicate N.length (-1)) := ⟨by simp, fun v hv => .inl ⟨by rw [List.getD_eq_getElem?_getD, List.getElem?_replicate, if_pos hv]; rfl, fun j hj => by omega⟩⟩
  obtain ⟨R', r1, r2⟩ := costs_loop hV hs w1 E.length 0 _ (by omega) hI
  refine ⟨_, least_of hV hs w1 r1, ?_⟩
  simp only [f28, f28_entry_B]
  refine (valid_ev (N, (E, B)) [s] (by simp)).bind ?_
  have hvl : vldF (N, (E, B)) [s] = 0 := by unfold vldF; rw [if_pos hv, if_pos (by simpa using hs)]
  simp only [hvl, not_true_eq_false, if_false]
  exact (repeat_ev (-1) N.length (by omega)).bind (w2.bind r2.diag)
end Go.Proofs.Ytoebjlimpnmaoaa.Rw

namespace Go.Proofs.Ytoebjlimpnmaoaa.Rw
open Go.Rx
set_option linter.unusedVariables false
set_option linter.unusedSimpArgs false
def belowF (x n : Int) : Int := if x.tmod n < 0 then x.tmod n + n else x.tmod n
theorem below_lt {x n : Int} (h : 1 ≤ n) : 0 ≤ belowF x n ∧ belowF x n < n := by
  have h1 := Int.lt_tmod_of_pos x (show 0 < n by omega)
  have h2 := Int.tmod_lt_of_pos x (show 0 < n by omega)
  unfold belowF
  split <;> omega
theorem below_eq (k : Nat) (x n : Int) (h : 1 ≤ n) (h2 : n ≤ 1000000000000) : f15 k x n = some (belowF x n, ()) := by
  have g1 := Int.lt_tmod_of_pos x (show 0 < n by omega)
  have g2 := Int.tmod_lt_of_pos x (show 0 < n by omega)
  simp only [f15, f15_entry_B, f15_c3, f15_c3_B, belowF]
  rw [if_pos (by omega)]
  split
  · rw [w64_id (by omega) (by omega)]
  · rfl
def nextF (a : List Int) (n : Int) : List Int × Int := if a.length = 0 then (a, 0) else (a.drop 1, belowF (a.getD 0 0) n)
theorem next_lt {a : List Int} {n : Int} (h : 1 ≤ n) : 0 ≤ (nextF a n).2 ∧ (nextF a n).2 < n := by
  unfold nextF
  split
  · exact ⟨by simp, by simp; omega⟩
  · exact below_lt h
theorem next_eq (k : Nat) (a : List Int) (n : Int) (h : 1 ≤ n) (h2 : n ≤ 1000000000000) : f43 k a n = some ((((nextF a n).1, ()), ()), ((nextF a n).2, ())) := by
  have h3 : ¬ n < 1 := by omega
  simp only [f43, f43_entry_B, f43_r1, f43_r1_B, nextF]
  by_cases h0 : a.length = 0
  · simp [h0]
  · rw [if_neg (by omega), decide_eq_false h3, if_neg (by simp), if_pos (by omega), if_pos (by omega), below_eq k _ n h h2, if_neg h0]
    rfl
end Go.Proofs.Ytoebjlimpnmaoaa.Rw

namespace Go.Proofs.Ytoebjlimpnmaoaa.Rw
open Go.Rx
set_option linter.unusedVariables false
set_option linter.unusedSimpArgs false
def cmpB (p q : Pt) : Int := if p.1 = q.1 then w64 (p.2 - q.2) else w64 (p.1 - q.1)
theorem cmpB_eq (k : Nat) (p q : Pt) : f48 k p q = some (cmpB p q, ()) := by
  simp only [f48, f48_entry_B, cmpB]
  by_cases h : p.1 = q.1 <;> simp [h]
theorem swap_perm (y : List Pt) {i j : Nat} (hi : i < y.length) (hj : j < y.length) (z : Pt) : ((y.set i (y.getD j z)).set j (y.getD i z)).Perm y := by
  rw [List.getD_eq_getElem?_getD, List.getElem?_eq_getElem hj, List.getD_eq_getElem?_getD, List.getElem?_eq_getElem hi]
  exact List.set_set_perm hi hj
theorem ins_in {b i : Nat} (hi : (i : Int) ≤ 1000000) : ∀ (j : Nat) (y : List Pt), j ≤ i → j < y.length →
    ∃ y', y'.Perm y ∧ ∀ res, Ev2 (fun k n => f96_l0 k n y' 0 (b : Int) ((i + 1 : Nat) : Int)) res → Ev3 (fun k n m => f96_l2 k (f96_l0 k n) m y 0 (b : Int) (i : Int) (j : Int)) res
  | 0, y, hji, hj => by
    have hw : w64 ((i : Int) + 1) = ((i + 1 : Nat) : Int) := by rw [w64_id (by omega) (by omega)]; omega
    refine ⟨y, List.Perm.refl _, fun res h => Ev3.step (fun k n m => ?_) h.three⟩
    rw [f96_l2, f96_l2_B, if_neg (by omega), f96_r4, f96_r4_B, if_neg (by simp), hw]
  | j + 1, y, hji, hj => by
    have hw : w64 ((i : Int) + 1) = ((i + 1 : Nat) : Int) := by rw [w64_id (by omega) (by omega)]; omega
    have hw1 : w64 (((j + 1 : Nat) : Int) - 1) = (j : Int) := by rw [w64_id (by omega) (by omega)]; omega
    have c0 : (0 : Int) < ((j + 1 : Nat) : Int) := by omega
    have c1 : (0 : Int) ≤ ((j + 1 : Nat) : Int) := by omega
    have c2 : ((j + 1 : Nat) : Int) < (y.length : Int) := by omega
    have c3 : (0 : Int) ≤ (j : Int) := by omega
    have c4 : (j : Int) < (y.length : Int) := by omega
    by_cases hc : cmpB (y.getD (j + 1) (0, 0)) (y.getD j (0, 0)) < 0
    · obtain ⟨y', p1, p2⟩ := ins_in hi j ((y.set (j + 1) (y.getD j (0, 0))).set j (y.getD (j + 1) (0, 0))) (by omega) (by simp; omega)
      refine ⟨y', p1.trans (swap_perm y hj (by omega) (0, 0)), fun res h => Ev3.step (fun k n m => ?_) (p2 res h)⟩
      rw [f96_l2, f96_l2_B, if_pos c0, if_pos c1, if_pos c2, hw1, if_pos c3, if_pos c4]
      simp only [Int.toNat_natCast, cmpB_eq, Option.bind_some]
      rw [show decide (cmpB (y.getD (j + 1) (0, 0)) (y.getD j (0, 0)) < 0) = true from decide_eq_true hc, f96_r4, f96_r4_B, if_pos rfl, hw1, if_pos c3, if_pos c4, if_pos c1, if_pos c2, if_pos c1, if_pos c2, if_pos c3, if_pos (by simp only [List.length_set]; exact c4)]
      simp only [Int.toNat_natCast]
    · refine ⟨y, List.Perm.refl _, fun res h => Ev3.step (fun k n m => ?_) h.three⟩
      rw [f96_l2, f96_l2_B, if_pos c0, if_pos c1, if_pos c2, hw1, if_pos c3, if_pos c4]
      simp only [Int.toNat_natCast, cmpB_eq, Option.bind_some]
      rw [show decide (cmpB (y.getD (j + 1) (0, 0)) (y.getD j (0, 0)) < 0) = false from decide_eq_false hc, f96_r4, f96_r4_B, if_neg (by simp), hw]
theorem ins_out {b : Nat} (hb : b ≤ 1000) : ∀ (d i : Nat) (y : List Pt), b ≤ i + d → y.length = b → i ≤ 1000 →
    ∃ y', y'.Perm y ∧ Ev2 (fun k n => f96_l0 k n y 0 (b : Int) (i : Int)) ((y', ()), ())
  | 0, i, y, hd, hl, hi => ⟨y, List.Perm.refl _, Ev2.step (g := fun _ _ => some ((y, ()), ())) (fun k n => by rw [f96_l0, f96_l0_B, if_neg (by omega)]) (Ev2.pure _)⟩
  | d + 1, i, y, hd, hl, hi => by
    by_cases h : i < b
    · obtain ⟨y1, p1, p2⟩ := ins_in (b := b) (i := i) (by omega) i y (Nat.le_refl _) (by omega)
      obtain ⟨y2, q1, q2⟩ := ins_out hb d (i + 1) y1 (by omega) (p1.length_eq.trans hl) (by omega)
      refine ⟨y2, q1.trans p1, Ev2.step (fun k n => ?_) (p2 _ q2).in_⟩
      rw [f96_l0, f96_l0_B, if_pos (by omega)]
    · exact ⟨y, List.Perm.refl _, Ev2.step (g := fun _ _ => some ((y, ()), ())) (fun k n => by rw [f96_l0, f96_l0_B, if_neg (by omega)]) (Ev2.pure _)⟩
theorem len3 (n : Nat) (h : n ≤ 3) : ∃ r, ∀ k, f68 k (IntKind.u64.wrap (n : Int)) = some (r, ()) := by
  match n, h with
  | 0, _ => exact ⟨0, fun k => by kernel_rfl⟩
  | 1, _ => exact ⟨1, fun k => by kernel_rfl⟩
  | 2, _ => exact ⟨2, fun k => by kernel_rfl⟩
  | 3, _ => exact ⟨2, fun k => by kernel_rfl⟩
theorem sortB_ev (y : List Pt) (h : y.length ≤ 3) : ∃ y', y'.Perm y ∧ Ev (fun k => f47 k y ()) ((y', ()), ()) := by
  obtain ⟨r, hr⟩ := len3 y.length h
  obtain ⟨y', p1, p2⟩ := ins_out (b := y.length) (by omega) y.length 1 y (by omega) rfl (by omega)
  refine ⟨y', p1, ?_⟩
  simp only [f47, f47_entry_B, hr, Option.bind_some]
  have hw : w64 ((y.length : Int) - 0) = (y.length : Int) := by rw [w64_id (by omega) (by omega)]; omega
  have hp : Ev (fun k => f71 k y 0 (y.length : Int) r ()) ((y', ()), ()) := by
    simp only [f71, f71_entry_B]
    refine Ev2.diag (f := fun k n => f71_l0 k n y 0 (y.length : Int) r) ?_
    have hi : Ev (fun k => f96 k y 0 (y.length : Int) ()) ((y', ()), ()) := by
      simp only [f96, f96_entry_B]
      exact p2.diag
    refine Ev2.step (g := fun k _ => (f96 k y 0 (y.length : Int) ()).bind fun r1 => some ((r1.1.1, ()), ())) (fun k n => ?_) (Ev.two (hi.bind (Ev.pure _)))
    rw [f71_l0, f71_l0_B, hw, if_pos (by omega)]
  exact hp.bind (Ev.pure _)
end Go.Proofs.Ytoebjlimpnmaoaa.Rw

namespace Go.Proofs.Ytoebjlimpnmaoaa.Rw
open Go.Rx
set_option linter.unusedVariables false
set_option linter.unusedSimpArgs false
def GoodN (N : List Pt) : Prop := N.Nodup ∧ ∀ q ∈ N, -100 ≤ q.1 ∧ q.1 ≤ 100 ∧ -100 ≤ q.2 ∧ q.2 ≤ 100
def GoodE (n : Nat) (E : List Ed) : Prop := ∀ e ∈ E, inR e.1 n ∧ inR e.2.1 n ∧ e.1 ≠ e.2.1 ∧ 1 ≤ e.2.2.1 ∧ e.2.2.1 ≤ 20
def GoodB (E : List Ed) (B : List Pt) : Prop := B.Nodup ∧ ∀ b ∈ B, inR b.1 E.length ∧ inR b.2 E.length ∧ toE E b.1 = fromE E b.2
theorem point_eq (a : List Int) : ∃ (a' : List Int) (p : Pt), (∀ k, f44 k a = some (((a', ()), ()), (p, ()))) ∧ -40 ≤ p.1 ∧ p.1 ≤ 40 ∧ -40 ≤ p.2 ∧ p.2 ≤ 40 := by
  have h1 := next_lt (a := a) (n := 81) (by omega)
  have h2 := next_lt (a := (nextF a 81).1) (n := 81) (by omega)
  refine ⟨(nextF (nextF a 81).1 81).1, ((nextF a 81).2 - 40, (nextF (nextF a 81).1 81).2 - 40), fun k => ?_, by simp only; omega, by simp only; omega, by simp only; omega, by simp only; omega⟩
  simp only [f44, f44_entry_B, next_eq k _ 81 (by omega) (by omega), Option.bind_some]
  rw [w64_id (by omega) (by omega), w64_id (by omega) (by omega)]
theorem shift_loop (N : List Pt) (a : List Int) (y : Int) (hN : N.length ≤ 8) : ∀ (d : Nat) (x : Int), (N.filter (fun q => decide (x ≤ q.1))).length ≤ d → -40 ≤ x → x + d ≤ 60 →
    ∃ x', x ≤ x' ∧ x' ≤ x + d ∧ (x', y) ∉ N ∧ ∀ res, Ev2 (fun k n => f13_l0 k n a (N ++ [(x', y)])) res → Ev3 (fun k n m => f13_l2 k (f13_l0 k n) m a N x y) res
  | 0, x, hd, h0, h1 => by
    have hm : (x, y) ∉ N := fun h => by
      have : (x, y) ∈ N.filter (fun q => decide (x ≤ q.1)) := List.mem_filter.2 ⟨h, by simp⟩
      have := List.length_pos_of_mem this
      omega
    refine ⟨x, by omega, by omega, hm, fun res h => ?_⟩
    obtain ⟨K, hK⟩ := conP_ev N (x, y) (by omega)
    refine Ev3.stepE K (fun k n m hk => ?_) h.three
    have hk' := hK k hk; simp only at hk'
    rw [f13_l2, f13_l2_B, hk', Option.bind_some, if_neg (by simp [hm]), if_pos (by omega)]
  | d + 1, x, hd, h0, h1 => by
    obtain ⟨K, hK⟩ := conP_ev N (x, y) (by omega)
    by_cases hm : (x, y) ∈ N
    · have hlt : (N.filter (fun q => decide (x + 1 ≤ q.1))).length < (N.filter (fun q => decide (x ≤ q.1))).length := by
        have hsub : N.filter (fun q => decide (x + 1 ≤ q.1)) = (N.filter (fun q => decide (x ≤ q.1))).filter (fun q => decide (x + 1 ≤ q.1)) := by
          rw [List.filter_filter]
          refine List.filter_congr fun q _ => ?_
          by_cases g : x + 1 ≤ q.1
          · simp [g]; omega
          · simp [g]
        rw [hsub]
        refine List.length_filter_lt_length_iff_exists.2 ⟨(x, y), List.mem_filter.2 ⟨hm, by simp⟩, by simp; omega⟩
      obtain ⟨x', k1, k2, k3, k4⟩ := shift_loop N a y hN d (x + 1) (by omega) (by omega) (by omega)
      refine ⟨x', by omega, by omega, k3, fun res h => Ev3.stepE K (fun k n m hk => ?_) (k4 res h)⟩
      have hk' := hK k hk; simp only at hk'
      rw [f13_l2, f13_l2_B, hk', Option.bind_some, if_pos (by simp [hm]), w64_id (by omega) (by omega)]
    · refine ⟨x, by omega, by omega, hm, fun res h => Ev3.stepE K (fun k n m hk => ?_) h.three⟩
      have hk' := hK k hk; simp only at hk'
      rw [f13_l2, f13_l2_B, hk', Option.bind_some, if_neg (by simp [hm]), if_pos (by omega)]
theorem nodes_loop : ∀ (d : Nat) (a : List Int) (N : List Pt), N.length + d = 8 → GoodN N →
    ∃ (a' : List Int) (N' : List Pt), GoodN N' ∧ 2 ≤ N'.length ∧ N'.length ≤ 8 ∧ ∀ res, Ev (fun k => (f43 k a' 17).bind fun r2 => f13_l4 k k r2.1.1.1 N' ([] : List Ed) r2.2.1 0) res → Ev2 (fun k n => f13_l0 k n a N) res
  | 0, a, N, hl, hN => by
    have h1 := next_lt (a := a) (n := 7) (by omega)
    have hw : w64 (2 + (nextF a 7).2) = 2 + (nextF a 7).2 := w64_id (by omega) (by omega)
    refine ⟨(nextF a 7).1, N, hN, by omega, by omega, fun res h => Ev2.step (fun k n => ?_) h.two⟩
    rw [f13_l0, f13_l0_B]
    simp only [next_eq k a 7 (by omega) (by omega), Option.bind_some]
    rw [hw, if_neg (by omega), decide_eq_false (by omega), f13_r3, f13_r3_B, if_neg (by simp)]
  | d + 1, a, N, hl, hN => by
    have h1 := next_lt (a := a) (n := 7) (by omega)
    have hw : w64 (2 + (nextF a 7).2) = 2 + (nextF a 7).2 := w64_id (by omega) (by omega)
    by_cases c : (N.length : Int) < 2 + (nextF a 7).2 ∨ (N.length : Int) < 2
    · obtain ⟨b, p, hp, p1, p2, p3, p4⟩ := point_eq (nextF a 7).1
      have hf : (N.filter (fun q => decide (p.1 ≤ q.1))).length ≤ 8 := by
        have := List.length_filter_le (fun q => decide (p.1 ≤ q.1)) N
        omega
      obtain ⟨x', k1, k2, k3, k4⟩ := shift_loop N b p.2 (by omega) 8 p.1 hf p1 (by omega)
      have hN' : GoodN (N ++ [(x', p.2)]) := by
        refine ⟨List.nodup_append.2 ⟨hN.1, by simp, fun q hq r hr e => ?_⟩, fun q hq => ?_⟩
        · simp only [List.mem_singleton] at hr
          subst hr; subst e; exact k3 hq
        · rcases List.mem_append.1 hq with hq | hq
          · exact hN.2 q hq
          · simp only [List.mem_singleton] at hq
            subst hq; simp only; omega
      obtain ⟨a', N', g1, g2, g3, g4⟩ := nodes_loop d b (N ++ [(x', p.2)]) (by simp; omega) hN'
      refine ⟨a', N', g1, g2, g3, fun res h => Ev2.step (fun k n => ?_) (k4 res (g4 res h)).in_⟩
      rw [f13_l0, f13_l0_B]
      simp only [next_eq k a 7 (by omega) (by omega), Option.bind_some]
      rw [hw]
      have fin : f13_r3 k (f13_l0 k n) (nextF a 7).1 N true = f13_l2 k (f13_l0 k n) k b N p.1 p.2 := by
        rw [f13_r3, f13_r3_B, if_pos rfl, hp k, Option.bind_some]
      by_cases c1 : (N.length : Int) < 2 + (nextF a 7).2
      · rw [if_pos c1, fin]
      · rw [if_neg c1, decide_eq_true (by omega), fin]
    · refine ⟨(nextF a 7).1, N, hN, by omega, by omega, fun res h => Ev2.step (fun k n => ?_) h.two⟩
      rw [f13_l0, f13_l0_B]
      simp only [next_eq k a 7 (by omega) (by omega), Option.bind_some]
      rw [hw, if_neg (by omega), decide_eq_false (by omega), f13_r3, f13_r3_B, if_neg (by simp)]
theorem edges_loop (N : List Pt) (h2 : 2 ≤ N.length) (h8 : N.length ≤ 8) (cnt : Nat) (hc : cnt ≤ 100) : ∀ (d i : Nat) (a : List Int) (E : List Ed), i + d = cnt → E.length ≤ i → GoodE N.length E →
    ∃ (a' : List Int) (E' : List Ed), GoodE N.length E' ∧ E'.length ≤ cnt ∧ ∀ res, Ev (fun k => (f43 k a' 4).bind fun r5 => f13_l6 k k r5.1.1.1 ([] : List Pt) N E' r5.2.1 0) res → Ev2 (fun k n => f13_l4 k n a N E (cnt : Int) (i : Int)) res
  | 0, i, a, E, hi, hE, hG => by
    refine ⟨a, E, hG, by omega, fun res h => Ev2.step (fun k n => ?_) h.two⟩
    rw [f13_l4, f13_l4_B, if_neg (by omega)]
  | d + 1, i, a, E, hi, hE, hG => by
    have hw : w64 ((i : Int) + 1) = ((i + 1 : Nat) : Int) := by rw [w64_id (by omega) (by omega)]; omega
    have c1 : (i : Int) < (cnt : Int) := by omega
    have l1 := next_lt (a := a) (n := (N.length : Int)) (by omega)
    have l2 := next_lt (a := (nextF a (N.length : Int)).1) (n := (N.length : Int)) (by omega)
    generalize hr1 : nextF a (N.length : Int) = r1 at l1 l2
    generalize hr2 : nextF r1.1 (N.length : Int) = r2 at l2
    by_cases c2 : r1.2 = r2.2
    · obtain ⟨a', E', g1, g2, g3⟩ := edges_loop N h2 h8 cnt hc d (i + 1) r2.1 E (by omega) (by omega) hG
      refine ⟨a', E', g1, g2, fun res h => Ev2.step (fun k n => ?_) (g3 res h)⟩
      rw [f13_l4, f13_l4_B, if_pos c1]
      simp only [next_eq k _ (N.length : Int) (by omega) (by omega), Option.bind_some, hr1, hr2]
      rw [if_neg (by simpa using c2), f13_c12, f13_c12_B, hw]
    · have l3 := next_lt (a := r2.1) (n := 20) (by omega)
      generalize hr3 : nextF r2.1 20 = r3 at l3
      generalize hr4 : nextF r3.1 5 = r4
      have hw1 : w64 (1 + r3.2) = 1 + r3.2 := w64_id (by omega) (by omega)
      have hG' : GoodE N.length (E ++ [(r1.2, (r2.2, (1 + r3.2, r4.2)))]) := fun e he => by
        rcases List.mem_append.1 he with he | he
        · exact hG e he
        · simp only [List.mem_singleton] at he
          subst he
          unfold inR
          simp only
          omega
      obtain ⟨a', E', g1, g2, g3⟩ := edges_loop N h2 h8 cnt hc d (i + 1) r4.1 _ (by omega) (by simp; omega) hG'
      refine ⟨a', E', g1, g2, fun res h => Ev2.step (fun k n => ?_) (g3 res h)⟩
      rw [f13_l4, f13_l4_B, if_pos c1]
      simp only [next_eq k _ (N.length : Int) (by omega) (by omega), Option.bind_some, hr1, hr2]
      rw [if_pos (by simpa using c2)]
      simp only [next_eq k _ 20 (by omega) (by omega), next_eq k _ 5 (by omega) (by omega), Option.bind_some, hr3, hr4, hw1]
      rw [if_pos (by omega), f13_c12, f13_c12_B, hw]
theorem bans_loop (N : List Pt) (E : List Ed) (hE : E.length ≤ 1000) (cnt : Nat) (hc : cnt ≤ 3) : ∀ (d i : Nat) (a : List Int) (B : List Pt), i + d = cnt → B.length ≤ i → GoodB E B →
    ∃ (B' : List Pt), GoodB E B' ∧ B'.length ≤ cnt ∧ ∀ res, Ev (fun k => f13_b6 k B' N E) res → Ev2 (fun k n => f13_l6 k n a B N E (cnt : Int) (i : Int)) res
  | 0, i, a, B, hi, hB, hG => by
    refine ⟨B, hG, by omega, fun res h => Ev2.step (fun k n => ?_) h.two⟩
    rw [f13_l6, f13_l6_B, if_neg (by omega)]
  | d + 1, i, a, B, hi, hB, hG => by
    have hw : w64 ((i : Int) + 1) = ((i + 1 : Nat) : Int) := by rw [w64_id (by omega) (by omega)]; omega
    have c1 : (i : Int) < (cnt : Int) := by omega
    by_cases c0 : (E.length : Int) = 0
    · refine ⟨B, hG, by omega, fun res h => Ev2.step (fun k n => ?_) h.two⟩
      rw [f13_l6, f13_l6_B, if_pos c1, if_pos c0]
    · have l1 := next_lt (a := a) (n := (E.length : Int)) (by omega)
      have l2 := next_lt (a := (nextF a (E.length : Int)).1) (n := (E.length : Int)) (by omega)
      generalize hr1 : nextF a (E.length : Int) = r1 at l1 l2
      generalize hr2 : nextF r1.1 (E.length : Int) = r2 at l2
      have start : ∀ k n, f13_l6 k (n + 1) a B N E (cnt : Int) (i : Int) = if (((E.getD ((r1.2).toNat) zE).2).1) = ((E.getD ((r2.2).toNat) zE).1) then ((f46 k B (r1.2, r2.2)).bind fun r3 => f13_r18 k (f13_l6 k n) r2.1 B N E r1.2 r2.2 (decide (¬ (r3.1 = true))) (cnt : Int) (i : Int)) else f13_r18 k (f13_l6 k n) r2.1 B N E r1.2 r2.2 false (cnt : Int) (i : Int) := fun k n => by
        rw [f13_l6, f13_l6_B, if_pos c1, if_neg c0]
        simp only [next_eq k _ (E.length : Int) (by omega) (by omega), Option.bind_some, hr1, hr2]
        rw [if_pos l1.1, if_pos l1.2, if_pos l2.1, if_pos l2.2]
        rfl
      have no : ∀ k n, f13_r18 k (f13_l6 k n) r2.1 B N E r1.2 r2.2 false (cnt : Int) (i : Int) = f13_l6 k n r2.1 B N E (cnt : Int) ((i + 1 : Nat) : Int) := fun k n => by
        rw [f13_r18, f13_r18_B, if_neg (by simp), f13_c19, f13_c19_B, hw]
      have skip : ∃ (B' : List Pt), GoodB E B' ∧ B'.length ≤ cnt ∧ ∀ res, Ev (fun k => f13_b6 k B' N E) res → Ev2 (fun k n => f13_l6 k n r2.1 B N E (cnt : Int) ((i + 1 : Nat) : Int)) res := bans_loop N E hE cnt hc d (i + 1) r2.1 B (by omega) (by omega) hG
      by_cases c2 : (((E.getD ((r1.2).toNat) zE).2).1) = ((E.getD ((r2.2).toNat) zE).1)
      · obtain ⟨K, hK⟩ := conB_ev B (r1.2, r2.2) (by omega)
        by_cases c3 : (r1.2, r2.2) ∈ B
        · obtain ⟨B', g1, g2, g3⟩ := skip
          refine ⟨B', g1, g2, fun res h => Ev2.stepE K (fun k n hk => ?_) (g3 res h)⟩
          have hk' := hK k hk; simp only at hk'
          rw [start, if_pos c2, hk', Option.bind_some]
          simp only [c3, decide_true, not_true_eq_false, decide_false]
          exact no k n
        · have hG' : GoodB E (B ++ [(r1.2, r2.2)]) := by
            refine ⟨List.nodup_append.2 ⟨hG.1, by simp, fun q hq r hr e => ?_⟩, fun q hq => ?_⟩
            · simp only [List.mem_singleton] at hr
              subst hr; subst e; exact c3 hq
            · rcases List.mem_append.1 hq with hq | hq
              · exact hG.2 q hq
              · simp only [List.mem_singleton] at hq
                subst hq
                exact ⟨⟨l1.1, l1.2⟩, ⟨l2.1, l2.2⟩, c2⟩
          obtain ⟨B', g1, g2, g3⟩ := bans_loop N E hE cnt hc d (i + 1) r2.1 _ (by omega) (by simp; omega) hG'
          refine ⟨B', g1, g2, fun res h => Ev2.stepE K (fun k n hk => ?_) (g3 res h)⟩
          have hk' := hK k hk; simp only at hk'
          rw [start, if_pos c2, hk', Option.bind_some]
          simp only [c3, decide_false, Bool.false_eq_true, not_false_eq_true, decide_true]
          rw [f13_r18, f13_r18_B, if_pos rfl, if_pos (by omega), f13_c19, f13_c19_B, hw]
      · obtain ⟨B', g1, g2, g3⟩ := skip
        refine ⟨B', g1, g2, fun res h => Ev2.step (fun k n => ?_) (g3 res h)⟩
        rw [start, if_neg c2]
        exact no k n
theorem net_ev (a : List Int) : ∃ (N : List Pt) (E : List Ed) (B : List Pt), GoodN N ∧ 2 ≤ N.length ∧ N.length ≤ 8 ∧ GoodE N.length E ∧ E.length ≤ 16 ∧ GoodB E B ∧ B.length ≤ 3 ∧ Ev (fun k => f13 k a) ((N, (E, B)), ()) := by
  obtain ⟨a1, N, n1, n2, n3, n4⟩ := nodes_loop 8 a [] rfl ⟨List.nodup_nil, fun q hq => by cases hq⟩
  have l1 := next_lt (a := a1) (n := 17) (by omega)
  obtain ⟨c1, hc1⟩ : ∃ c : Nat, (nextF a1 17).2 = (c : Int) := ⟨(nextF a1 17).2.toNat, by omega⟩
  obtain ⟨a2, E, e1, e2, e3⟩ := edges_loop N n2 n3 c1 (by omega) c1 0 (nextF a1 17).1 [] (by omega) (by simp) (fun e he => by cases he)
  have l2 := next_lt (a := a2) (n := 4) (by omega)
  obtain ⟨c2, hc2⟩ : ∃ c : Nat, (nextF a2 4).2 = (c : Int) := ⟨(nextF a2 4).2.toNat, by omega⟩
  obtain ⟨B, b1, b2, b3⟩ := bans_loop N E (by omega) c2 (by omega) c2 0 (nextF a2 4).1 [] (by omega) (by simp) ⟨List.nodup_nil, fun b hb => by cases hb⟩
  obtain ⟨B', p1, p2⟩ := sortB_ev B (by omega)
  refine ⟨N, E, B', n1, n2, n3, e1, by omega, ⟨p1.nodup_iff.2 b1.1, fun b hb => b1.2 b (p1.mem_iff.1 hb)⟩, by have := p1.length_eq; omega, ?_⟩
  simp only [f13, f13_entry_B]
  refine (n4 _ ?_).diag
  simp only [next_eq _ a1 17 (show (1 : Int) ≤ 17 by omega) (show (17 : Int) ≤ 1000000000000 by omega), Option.bind_some, hc1]
  refine (e3 _ ?_).diag
  simp only [next_eq _ a2 4 (show (1 : Int) ≤ 4 by omega) (show (4 : Int) ≤ 1000000000000 by omega), Option.bind_some, hc2]
  refine (b3 _ ?_).diag
  simp only [f13_b6, f13_b6_B]
  exact p2.bind (Ev.pure _)
/-! ### They are valid -/
theorem nodF_zero : ∀ (l pre : List Pt), (∀ p ∈ l, okP p) → (pre ++ l).Nodup → nodF pre l = 0
  | [], _, _, _ => rfl
  | p :: l, pre, h, hn => by
    simp only [nodF]
    rw [if_pos (h p (List.mem_cons_self ..)), if_neg, nodF_zero l (pre ++ [p]) (fun q hq => h q (List.mem_cons_of_mem _ hq)) (by simpa using hn)]
    intro hp
    exact (List.nodup_append.1 hn).2.2 p hp p (List.mem_cons_self ..) rfl
theorem edF_zero {n : Nat} : ∀ {E : List Ed}, (∀ e ∈ E, ¬ badE n e ∧ e.1 ≠ e.2.1) → edF n E = 0
  | [], _ => rfl
  | e :: l, h => by
    simp only [edF]
    rw [if_neg (h e (List.mem_cons_self ..)).1, if_neg (h e (List.mem_cons_self ..)).2]
    exact edF_zero fun e' he => h e' (List.mem_cons_of_mem _ he)
theorem banF_zero {E : List Ed} : ∀ (l pre : List Pt), (∀ b ∈ l, inR b.1 E.length ∧ inR b.2 E.length ∧ toE E b.1 = fromE E b.2) → (pre ++ l).Nodup → banF E pre l = 0
  | [], _, _, _ => rfl
  | b :: l, pre, h, hn => by
    have hb := h b (List.mem_cons_self ..)
    simp only [banF]
    rw [if_pos ⟨hb.1, hb.2.1⟩, if_pos hb.2.2, if_neg, banF_zero l (pre ++ [b]) (fun q hq => h q (List.mem_cons_of_mem _ hq)) (by simpa using hn)]
    intro hp
    exact (List.nodup_append.1 hn).2.2 b hp b (List.mem_cons_self ..) rfl
theorem made_valid {N : List Pt} {E : List Ed} {B : List Pt} (h1 : GoodN N) (h2 : N.length ≤ 8) (h3 : GoodE N.length E) (h4 : E.length ≤ 16) (h5 : GoodB E B) (h6 : B.length ≤ 3) : netF (N, (E, B)) = 0 := by
  unfold netF
  simp only
  have k1 := nodF_zero N [] (fun p hp => by
    have := h1.2 p hp
    unfold okP
    rw [cut_in (by omega) (by omega), cut_in (by omega) (by omega)]
    exact ⟨rfl, rfl⟩) (by simpa using h1.1)
  have k2 : edF N.length E = 0 := edF_zero fun e he => by
    have := h3 e he
    exact ⟨fun hb => by unfold badE at hb; rcases hb with hb | hb | hb | hb <;> first | exact hb this.1 | exact hb this.2.1 | omega, this.2.2.1⟩
  have k3 := banF_zero (E := E) B [] h5.2 (by simpa using h5.1)
  rw [if_neg (by omega), if_pos k1, if_pos k2, k3]
end Go.Proofs.Ytoebjlimpnmaoaa.Rw

namespace Go.Proofs.Ytoebjlimpnmaoaa.Rw
open Go.Rx
set_option linter.unusedVariables false
set_option linter.unusedSimpArgs false
theorem routed4_true (j : Nat) : f31 (j + 60) = some (true, ()) := by kernel_rfl
end Go.Proofs.Ytoebjlimpnmaoaa.Rw

namespace Go.Proofs.Ytoebjlimpnmaoaa.Rw
open Go.Rx
set_option linter.unusedVariables false
set_option linter.unusedSimpArgs false
theorem dec_not_t {p : Prop} [Decidable p] (h : ¬ p) : decide (¬ p) = true := decide_eq_true h
theorem dec_not_f {p : Prop} [Decidable p] (h : p) : decide (¬ p) = false := decide_eq_false (fun z => z h)
/-- No edge leads anywhere cheaper. -/
def Pot (E : List Ed) (X : List Int) (k : Int) : Prop := 0 ≤ X.getD (fromE E k).toNat 0 → 0 ≤ X.getD (toE E k).toNat 0 ∧ X.getD (toE E k).toNat 0 ≤ X.getD (fromE E k).toNat 0 + costE E k
instance (E : List Ed) (X : List Int) (k : Int) : Decidable (Pot E X k) := by unfold Pot; infer_instance
theorem pot_le {E : List Ed} {B : List Pt} {s : Int} {X : List Int} (hs : X.getD s.toNat 0 = 0) (h : ∀ k, inR k E.length → Pot E X k) {w : List Int} {k : Int} (hw : Wy E B s w k) : 0 ≤ X.getD (toE E k).toNat 0 ∧ X.getD (toE E k).toNat 0 ≤ cW E w := by
  induction hw with
  | one k h1 h2 =>
    have := h k h1
    unfold Pot at this
    rw [h2, hs] at this
    rw [cW_one]
    have := this (by omega)
    omega
  | snoc w j k hw h1 h2 h3 ih =>
    have := h k h1
    unfold Pot at this
    rw [← h2] at this
    have := this ih.1
    rw [cW_app, cW_one]
    omega
theorem pot_rch {E : List Ed} {B : List Pt} {s : Int} {X : List Int} (hs : X.getD s.toNat 0 = 0) (h : ∀ k, inR k E.length → Pot E X k) {v c : Int} (hr : Rch E B s v c) : 0 ≤ X.getD v.toNat 0 ∧ X.getD v.toNat 0 ≤ c := by
  rcases hr with ⟨rfl, rfl⟩ | ⟨w, k, h1, rfl, rfl⟩
  · omega
  · exact pot_le hs h h1
theorem LeastC.first {n : Nat} {E : List Ed} {B : List Pt} {s : Int} {C : List Int} (h : LeastC n E B s C) (hs : inR s n) : C.getD s.toNat 0 = 0 := by
  have es : ((s.toNat : Nat) : Int) = s := by have := hs.1; omega
  have hn : s.toNat < n := by have := hs.1; have := hs.2; omega
  have hr : Rch E B s s 0 := .inl ⟨rfl, rfl⟩
  rcases h.at_ s.toNat hn with ⟨_, g⟩ | ⟨g1, _, g3⟩
  · rw [es] at g; exact (g 0 hr).elim
  · rw [es] at g3; have := g3 0 hr; omega
theorem LeastC.pot {N : List Pt} {E : List Ed} {s : Int} {C : List Int} (hV : NetV N E []) (h : LeastC N.length E [] s C) {k : Int} (hk : inR k E.length) : Pot E C k := fun h0 => by
  obtain ⟨⟨f1, f2⟩, t1, t2⟩ := hV.ends k hk
  have ef : (((fromE E k).toNat : Nat) : Int) = fromE E k := by omega
  have et : (((toE E k).toNat : Nat) : Int) = toE E k := by omega
  rcases h.at_ (fromE E k).toNat (by omega) with ⟨g, _⟩ | ⟨_, g2, _⟩
  · omega
  · rw [ef] at g2
    have hr : Rch E [] s (toE E k) (C.getD (fromE E k).toNat 0 + costE E k) := by
      rcases g2 with ⟨g3, g4⟩ | ⟨w, j, g3, g4, g5⟩
      · exact .inr ⟨[k], k, .one k hk g3, rfl, by rw [cW_one]; omega⟩
      · exact .inr ⟨w ++ [k], k, .snoc w j k g3 hk g4 (by simp), rfl, by rw [cW_app, cW_one]; omega⟩
    rcases h.at_ (toE E k).toNat (by omega) with ⟨_, g⟩ | ⟨g6, _, g7⟩
    · rw [et] at g; exact (g _ hr).elim
    · rw [et] at g7; exact ⟨g6, g7 _ hr⟩
/-- What is reached over edges that are tight. -/
structure Tight (n : Nat) (E : List Ed) (s : Int) (X : List Int) (Y : List Bool) : Prop where
  len : Y.length = n
  st : Y.getD s.toNat false = true
  rch : ∀ v : Nat, Y.getD v false = true → 0 ≤ X.getD v 0 ∧ Rch E [] s (v : Int) (X.getD v 0)
def Shut2 (E : List Ed) (X : List Int) (Y : List Bool) (k : Int) : Prop := Y.getD (fromE E k).toNat false = true → X.getD (toE E k).toNat 0 = X.getD (fromE E k).toNat 0 + costE E k → Y.getD (toE E k).toNat false = true
theorem tight_all {N : List Pt} {E : List Ed} {s : Int} {C : List Int} (hV : NetV N E []) (h : LeastC N.length E [] s C) (hs : inR s N.length) {Y : List Bool} (hY : Tight N.length E s C Y) (hS : ∀ k, inR k E.length → Shut2 E C Y k) {w : List Int} {k : Int} (hw : Wy E [] s w k) : C.getD (toE E k).toNat 0 = cW E w → Y.getD (toE E k).toNat false = true := by
  have h0 := h.first hs
  induction hw with
  | one k h1 h2 =>
    intro hc
    refine hS k h1 (by rw [h2]; exact hY.st) ?_
    rw [hc, h2, h0, cW_one]; omega
  | snoc w j k hw h1 h2 h3 ih =>
    intro hc
    rw [cW_app, cW_one] at hc
    have p1 := pot_le h0 (fun k hk => h.pot hV hk) hw
    have p2 := h.pot hV h1
    unfold Pot at p2
    rw [← h2] at p2
    have := p2 p1.1
    have hj : C.getD (toE E j).toNat 0 = cW E w := by omega
    refine hS k h1 (by rw [← h2]; exact ih hj) ?_
    rw [hc, ← h2, hj]
theorem sound_iff {N : List Pt} {E : List Ed} {s : Int} {C X : List Int} (hV : NetV N E []) (h : LeastC N.length E [] s C) (hs : inR s N.length) (hl : X.length = N.length) (h0 : X.getD s.toNat 0 = 0) (hr : ∀ v, v < N.length → -1 ≤ X.getD v 0 ∧ X.getD v 0 ≤ 659706976665600) (hp : ∀ k, inR k E.length → Pot E X k) {Y : List Bool} (hY : Tight N.length E s X Y) (hS : ∀ k, inR k E.length → Shut2 E X Y k) :
    (∀ v, v < N.length → Y.getD v false = decide (0 ≤ X.getD v 0)) ↔ X = C := by
  constructor
  · intro hv
    refine LeastC.one (n := N.length) (E := E) (B := []) (s := s) ⟨hl, fun v hvn => ?_, fun v hvn => (hr v hvn).2⟩ h
    have hle : ∀ c, Rch E [] s (v : Int) c → 0 ≤ X.getD v 0 ∧ X.getD v 0 ≤ c := fun c hc => by
      have := pot_rch h0 hp hc
      simpa using this
    by_cases c : 0 ≤ X.getD v 0
    · exact .inr ⟨c, (hY.rch v (by rw [hv v hvn]; exact decide_eq_true c)).2, fun c hc => (hle c hc).2⟩
    · have := (hr v hvn).1
      exact .inl ⟨by omega, fun c' hc => c (hle c' hc).1⟩
  · rintro rfl v hvn
    by_cases c : 0 ≤ X.getD v 0
    · rw [decide_eq_true c]
      rcases h.at_ v hvn with ⟨g, _⟩ | ⟨_, g2, _⟩
      · omega
      · rcases g2 with ⟨g3, _⟩ | ⟨w, k, g3, g4, g5⟩
        · have : v = s.toNat := by omega
          rw [this]; exact hY.st
        · have := tight_all hV h hs hY hS g3 (by rw [g4, Int.toNat_natCast]; exact g5.symm)
          rw [g4, Int.toNat_natCast] at this; exact this
    · rw [decide_eq_false c]
      cases hb : Y.getD v false with
      | false => rfl
      | true => exact (c (hY.rch v hb).1).elim
/-! ### The last check -/
theorem sound_l8 {X : List Int} {Y : List Bool} {n : Nat} (hn : n ≤ 200) (hX : X.length = n) (hY : Y.length = n) : ∀ (d i : Nat), i + d = n → (∀ v, v < i → Y.getD v false = decide (0 ≤ X.getD v 0)) →
    ∃ b : Bool, (b = true ↔ ∀ v, v < n → Y.getD v false = decide (0 ≤ X.getD v 0)) ∧ Ev2 (fun k m => f34_l8 k m Y X (X.length : Int) (i : Int)) (b, ())
  | 0, i, hi, h => by
    have e : i = n := by omega
    subst e
    refine ⟨true, ⟨fun _ => h, fun _ => rfl⟩, Ev2.step (g := fun _ _ => some (true, ())) (fun k n => ?_) (Ev2.pure _)⟩
    rw [f34_l8, f34_l8_B, if_neg (by omega)]
  | d + 1, i, hi, h => by
    have i0 : (0 : Int) ≤ (i : Int) := by omega
    have i1 : (i : Int) < (X.length : Int) := by omega
    have i2 : (i : Int) < (Y.length : Int) := by omega
    have hw1 : w64 ((i : Int) + 1) = ((i + 1 : Nat) : Int) := by rw [w64_id (by omega) (by omega)]; omega
    have hd : decide (Y.getD ((i : Int)).toNat false = true) = Y.getD i false := by rw [Int.toNat_natCast]; simp
    by_cases c : Y.getD i false = decide (0 ≤ X.getD i 0)
    · obtain ⟨b, b1, b2⟩ := sound_l8 hn hX hY d (i + 1) (by omega) (fun v hv => by
        by_cases e : v = i
        · subst e; exact c
        · exact h v (by omega))
      refine ⟨b, b1, Ev2.step (fun k m => ?_) b2⟩
      rw [f34_l8, f34_l8_B, if_pos i1, if_pos i0, if_pos i1, if_pos i0, if_pos i2, hd, Int.toNat_natCast, if_neg (fun z => z c), hw1]
    · refine ⟨false, ⟨fun z => (by cases z), fun z => (c (z i (by omega))).elim⟩, Ev2.step (g := fun _ _ => some (false, ())) (fun k m => ?_) (Ev2.pure _)⟩
      rw [f34_l8, f34_l8_B, if_pos i1, if_pos i0, if_pos i1, if_pos i0, if_pos i2, hd, Int.toNat_natCast, if_pos c]
def cntF (Y : List Bool) : Nat := Y.countP (fun b => !b)
theorem cntF_set : ∀ {Y : List Bool} {i : Nat}, i < Y.length → Y.getD i false = false → cntF (Y.set i true) < cntF Y
  | [], i, h, _ => by simp at h
  | b :: Y, 0, _, h => by
    have h : b = false := by simpa using h
    subst h
    simp [cntF]
  | b :: Y, i + 1, h, hb => by
    have := cntF_set (Y := Y) (i := i) (by simpa using h) (by simpa using hb)
    unfold cntF at this ⊢
    simp only [List.set_cons_succ, List.countP_cons]
    omega
/-- One pass over the edges. -/
theorem sound_pass {RL : Nat → Nat → List Pt → List Ed → List Pt → List Bool → Bool → List Int → Option (Bool × Unit)} {N B : List Pt} {E : List Ed} (hV : NetV N E []) {s : Int} {X : List Int} (hX : X.length = N.length) (hr : ∀ v, v < N.length → -1 ≤ X.getD v 0 ∧ X.getD v 0 ≤ 659706976665600) : ∀ (d i : Nat) (Y : List Bool) (f : Bool), i + d = E.length → Tight N.length E s X Y →
    ∃ Y' f', Tight N.length E s X Y' ∧ (f' = true → f = true ∨ cntF Y' < cntF Y) ∧ (f' = false → f = false ∧ Y' = Y ∧ ∀ j : Nat, i ≤ j → j < E.length → Shut2 E X Y (j : Int)) ∧ cntF Y' ≤ cntF Y ∧
      ∀ res, Ev2 (fun k n => RL k n N E B Y' f' X) res → Ev3 (fun k n m => f34_l6 k (RL k n) m N E B Y (E.length : Int) (i : Int) f X) res
  | 0, i, Y, f, hi, h => by
    have e : i = E.length := by omega
    subst e
    refine ⟨Y, f, h, fun z => .inl z, fun z => ⟨z, rfl, fun j h1 h2 => by omega⟩, Nat.le_refl _, fun res hres => Ev3.step (g := fun k n _ => RL k n N E B Y f X) (fun k n m => ?_) hres.three⟩
    rw [f34_l6, f34_l6_B, if_neg (by omega)]
    simp
  | d + 1, i, Y, f, hi, h => by
    have hn2 := hV.n2
    have i0 : (0 : Int) ≤ (i : Int) := by omega
    have i1 : (i : Int) < (E.length : Int) := by omega
    have hik : inR (i : Int) E.length := ⟨i0, i1⟩
    obtain ⟨⟨f1, f2⟩, t1, t2⟩ := hV.ends (i : Int) hik
    have hcost := hV.cost (i : Int) hik
    have ef : (E.getD ((i : Int)).toNat (0, (0, (0, 0)))).1 = fromE E (i : Int) := rfl
    have et : (E.getD ((i : Int)).toNat (0, (0, (0, 0)))).2.1 = toE E (i : Int) := rfl
    have ec : (E.getD ((i : Int)).toNat (0, (0, (0, 0)))).2.2.1 = costE E (i : Int) := rfl
    have hw1 : w64 ((i : Int) + 1) = ((i + 1 : Nat) : Int) := by rw [w64_id (by omega) (by omega)]; omega
    have yf : fromE E (i : Int) < (Y.length : Int) := by rw [h.len]; exact f2
    have yt : toE E (i : Int) < (Y.length : Int) := by rw [h.len]; exact t2
    have xf : fromE E (i : Int) < (X.length : Int) := by rw [hX]; exact f2
    have xt : toE E (i : Int) < (X.length : Int) := by rw [hX]; exact t2
    have hrf := hr (fromE E (i : Int)).toNat (by omega)
    have hsum : w64 (X.getD (fromE E (i : Int)).toNat 0 + costE E (i : Int)) = X.getD (fromE E (i : Int)).toNat 0 + costE E (i : Int) := w64_id (by omega) (by omega)
    have r23f : ∀ k RM m (a b c q : Int), f34_r23 k (f34_l6 k RM m) RM a b c q N E B Y (E.length : Int) (i : Int) (decide (f = true)) false X = f34_l6 k RM m N E B Y (E.length : Int) ((i + 1 : Nat) : Int) f X := fun k RM m a b c q => by
      rw [f34_r23, f34_r23_B, if_neg (by simp), f34_c24, f34_c24_B, hw1]
      simp
    -- the edge adds nothing
    have keep : Shut2 E X Y (i : Int) → (∀ k n m, f34_l6 k (RL k n) (m + 1) N E B Y (E.length : Int) (i : Int) f X = f34_l6 k (RL k n) m N E B Y (E.length : Int) ((i + 1 : Nat) : Int) f X) → ∃ Y' f', Tight N.length E s X Y' ∧ (f' = true → f = true ∨ cntF Y' < cntF Y) ∧ (f' = false → f = false ∧ Y' = Y ∧ ∀ j : Nat, i ≤ j → j < E.length → Shut2 E X Y (j : Int)) ∧ cntF Y' ≤ cntF Y ∧
        ∀ res, Ev2 (fun k n => RL k n N E B Y' f' X) res → Ev3 (fun k n m => f34_l6 k (RL k n) m N E B Y (E.length : Int) (i : Int) f X) res := fun hsh hst => by
      obtain ⟨Y', f', g1, g2, g3, g4, g5⟩ := sound_pass (RL := RL) (B := B) hV hX hr d (i + 1) Y f (by omega) h
      refine ⟨Y', f', g1, g2, fun z => ?_, g4, fun res hres => Ev3.step hst (g5 res hres)⟩
      obtain ⟨q1, q2, q3⟩ := g3 z
      refine ⟨q1, q2, fun j h1 h2 => ?_⟩
      by_cases e : j = i
      · subst e; exact hsh
      · exact q3 j (by omega) h2
    cases hyf : Y.getD (fromE E (i : Int)).toNat false with
    | false =>
      refine keep (fun z => by rw [hyf] at z; cases z) (fun k n m => ?_)
      rw [f34_l6, f34_l6_B, if_pos i1, if_pos i0, if_pos i1, ef, if_pos f1, if_pos yf, hyf, if_neg (by simp), r23f]
    | true =>
      cases hyt : Y.getD (toE E (i : Int)).toNat false with
      | true =>
        refine keep (fun _ _ => hyt) (fun k n m => ?_)
        rw [f34_l6, f34_l6_B, if_pos i1, if_pos i0, if_pos i1, ef, if_pos f1, if_pos yf, hyf, if_pos rfl, et, if_pos t1, if_pos yt, hyt, if_neg (by simp), r23f]
      | false =>
        by_cases c : X.getD (toE E (i : Int)).toNat 0 = X.getD (fromE E (i : Int)).toNat 0 + costE E (i : Int)
        · have hYl : (toE E (i : Int)).toNat < Y.length := by rw [h.len]; omega
          have hT : Tight N.length E s X (Y.set (toE E (i : Int)).toNat true) := by
            refine ⟨by simpa using h.len, ?_, fun v hv => ?_⟩
            · rw [gsetN]; split
              · rfl
              · exact h.st
            · rw [gsetN] at hv
              by_cases e : (toE E (i : Int)).toNat = v
              · obtain ⟨q1, q2⟩ := h.rch _ hyf
                have ev : (v : Int) = toE E (i : Int) := by omega
                have ef' : (((fromE E (i : Int)).toNat : Nat) : Int) = fromE E (i : Int) := by omega
                rw [← e, c]
                refine ⟨by omega, ?_⟩
                rw [e, ev]
                rw [ef'] at q2
                rcases q2 with ⟨g3, g4⟩ | ⟨w, j, g3, g4, g5⟩
                · exact .inr ⟨[(i : Int)], (i : Int), .one _ hik g3, rfl, by rw [cW_one]; omega⟩
                · exact .inr ⟨w ++ [(i : Int)], (i : Int), .snoc w j _ g3 hik g4 (by simp), rfl, by rw [cW_app, cW_one]; omega⟩
              · rw [if_neg (fun z => e z.1)] at hv; exact h.rch v hv
          obtain ⟨Y', f', g1, g2, g3, g4, g5⟩ := sound_pass (RL := RL) (B := B) hV hX hr d (i + 1) _ true (by omega) hT
          have hlt := cntF_set hYl hyt
          refine ⟨Y', f', g1, fun _ => .inr (by omega), fun z => (by have := (g3 z).1; cases this), by omega, fun res hres => Ev3.step (fun k n m => ?_) (g5 res hres)⟩
          rw [f34_l6, f34_l6_B, if_pos i1, if_pos i0, if_pos i1, ef, if_pos f1, if_pos yf, hyf, if_pos rfl, et, if_pos t1, if_pos yt, hyt, if_pos (by simp), if_pos t1, if_pos xt, if_pos f1, if_pos xf, ec, hsum, decide_eq_true c, f34_r23, f34_r23_B, if_pos rfl, if_pos t1, if_pos yt, f34_c24, f34_c24_B, hw1]
          simp
        · refine keep (fun _ z => (c z).elim) (fun k n m => ?_)
          rw [f34_l6, f34_l6_B, if_pos i1, if_pos i0, if_pos i1, ef, if_pos f1, if_pos yf, hyf, if_pos rfl, et, if_pos t1, if_pos yt, hyt, if_pos (by simp), if_pos t1, if_pos xt, if_pos f1, if_pos xf, ec, hsum, decide_eq_false c, r23f]
theorem sound_l4 {N B : List Pt} {E : List Ed} (hV : NetV N E []) {s : Int} {X : List Int} (hX : X.length = N.length) (hr : ∀ v, v < N.length → -1 ≤ X.getD v 0 ∧ X.getD v 0 ≤ 659706976665600) : ∀ (d : Nat) (Y : List Bool), cntF Y < d → Tight N.length E s X Y →
    ∃ Y', Tight N.length E s X Y' ∧ (∀ k, inR k E.length → Shut2 E X Y' k) ∧ ∀ b, Ev (fun k => f34_l8 k k Y' X (X.length : Int) 0) (b, ()) → Ev2 (fun k n => f34_l4 k n N E B Y true X) (b, ())
  | 0, Y, hd, _ => by omega
  | d + 1, Y, hd, h => by
    obtain ⟨Y', f', g1, g2, g3, g4, g5⟩ := sound_pass (RL := fun k n => f34_l4 k n) (B := B) hV hX hr E.length 0 Y false (by omega) h
    cases f' with
    | false =>
      obtain ⟨_, q2, q3⟩ := g3 rfl
      subst q2
      refine ⟨Y', h, fun k hk => ?_, fun b hb => ?_⟩
      · have := q3 k.toNat (by omega) (by have := hk.1; have := hk.2; omega)
        rw [show ((k.toNat : Nat) : Int) = k by have := hk.1; omega] at this
        exact this
      · have hend : Ev2 (fun k n => f34_l4 k n N E B Y' false X) (b, ()) := by
          refine Ev2.step (g := fun k _ => f34_l8 k k Y' X (X.length : Int) 0) (fun k n => ?_) hb.two
          rw [f34_l4, f34_l4_B, if_neg (by simp)]
        refine Ev2.step (fun k n => ?_) (g5 _ hend).in_
        rw [f34_l4, f34_l4_B, if_pos rfl]
        rfl
    | true =>
      have hlt := (g2 rfl).resolve_left (by simp)
      obtain ⟨Z, z1, z2, z3⟩ := sound_l4 (B := B) hV hX hr d Y' (by omega) g1
      refine ⟨Z, z1, z2, fun b hb => ?_⟩
      refine Ev2.step (fun k n => ?_) (g5 _ (z3 b hb)).in_
      rw [f34_l4, f34_l4_B, if_pos rfl]
      rfl
theorem sound_l2 {N B : List Pt} {E : List Ed} (hV : NetV N E []) {s : Int} (hs : inR s N.length) {C X : List Int} (h : LeastC N.length E [] s C) (hX : X.length = N.length) (h0 : X.getD s.toNat 0 = 0) (hr : ∀ v, v < N.length → -1 ≤ X.getD v 0 ∧ X.getD v 0 ≤ 659706976665600) : ∀ (d i : Nat), i + d = E.length → (∀ j : Nat, j < i → Pot E X (j : Int)) →
    Ev2 (fun k n => f34_l2 k n N E B s X (E.length : Int) (i : Int)) (decide (X = C), ())
  | 0, i, hi, hp => by
    have e : i = E.length := by omega
    subst e
    have hn1 := hV.n1
    have hp' : ∀ k, inR k E.length → Pot E X k := fun k hk => by
      have := hp k.toNat (by have := hk.1; have := hk.2; omega)
      rw [show ((k.toNat : Nat) : Int) = k by have := hk.1; omega] at this
      exact this
    have hsn : s.toNat < N.length := by have := hs.1; have := hs.2; omega
    have hT : Tight N.length E s X ((List.replicate N.length false).set s.toNat true) := by
      refine ⟨by simp, by rw [gsetN, if_pos ⟨rfl, by simpa using hsn⟩], fun v hv => ?_⟩
      rw [gsetN] at hv
      by_cases e : s.toNat = v
      · subst e
        rw [h0]
        exact ⟨Int.le_refl _, .inl ⟨by have := hs.1; omega, rfl⟩⟩
      · rw [if_neg (fun z => e z.1), List.getD_eq_getElem?_getD, List.getElem?_replicate] at hv
        split at hv <;> cases hv
    obtain ⟨Y, y1, y2, y3⟩ := sound_l4 (B := B) hV hX hr _ _ (Nat.lt_succ_self _) hT
    obtain ⟨b, b1, b2⟩ := sound_l8 (by omega) hX y1.len N.length 0 (by omega) (fun v hv => by omega)
    have hb := b1.trans (sound_iff hV h hs hX h0 hr hp' y1 y2)
    have e : b = decide (X = C) := by
      cases b with
      | true => exact (decide_eq_true (hb.1 rfl)).symm
      | false => exact (decide_eq_false (fun z => by have := hb.2 z; cases this)).symm
    rw [← e]
    refine Ev2.step (fun k n => ?_) ((y3 b b2.diag).diag.two)
    have a0 : (0 : Int) ≤ (X.length : Int) := by omega
    have a1 : (X.length : Int) ≤ 1073741824 := by omega
    rw [f34_l2, f34_l2_B, if_neg (by omega), if_pos a0, if_pos a1, if_pos hs.1, if_pos (by rw [List.length_replicate, Int.toNat_natCast, hX]; exact hs.2), Int.toNat_natCast, hX]
  | d + 1, i, hi, hp => by
    have hn2 := hV.n2
    have i0 : (0 : Int) ≤ (i : Int) := by omega
    have i1 : (i : Int) < (E.length : Int) := by omega
    have hik : inR (i : Int) E.length := ⟨i0, i1⟩
    obtain ⟨⟨f1, f2⟩, t1, t2⟩ := hV.ends (i : Int) hik
    have hcost := hV.cost (i : Int) hik
    have ef : (E.getD ((i : Int)).toNat (0, (0, (0, 0)))).1 = fromE E (i : Int) := rfl
    have et : (E.getD ((i : Int)).toNat (0, (0, (0, 0)))).2.1 = toE E (i : Int) := rfl
    have ec : (E.getD ((i : Int)).toNat (0, (0, (0, 0)))).2.2.1 = costE E (i : Int) := rfl
    have hw1 : w64 ((i : Int) + 1) = ((i + 1 : Nat) : Int) := by rw [w64_id (by omega) (by omega)]; omega
    have xf : fromE E (i : Int) < (X.length : Int) := by rw [hX]; exact f2
    have xt : toE E (i : Int) < (X.length : Int) := by rw [hX]; exact t2
    have hrf := hr (fromE E (i : Int)).toNat (by omega)
    have hsum : w64 (X.getD (fromE E (i : Int)).toNat 0 + costE E (i : Int)) = X.getD (fromE E (i : Int)).toNat 0 + costE E (i : Int) := w64_id (by omega) (by omega)
    have pre : ∀ k n, f34_l2 k (n + 1) N E B s X (E.length : Int) (i : Int) = f34_r12 k (f34_l2 k n) N E B s X (E.length : Int) (i : Int) (decide (¬ Pot E X (i : Int))) := fun k n => by
      rw [f34_l2, f34_l2_B, if_pos i1, if_pos i0, if_pos i1, ef, if_pos f1, if_pos xf, et, ec]
      by_cases c1 : 0 ≤ X.getD (fromE E (i : Int)).toNat 0
      · rw [if_pos c1, if_pos t1, if_pos xt]
        by_cases c2 : X.getD (toE E (i : Int)).toNat 0 < 0
        · rw [if_pos c2]
          congr 1
          exact (dec_not_t (fun z : Pot E X (i : Int) => by have := z c1; omega)).symm
        · rw [if_neg c2, if_pos t1, if_pos xt, if_pos f1, if_pos xf, hsum]
          congr 1
          by_cases c3 : X.getD (fromE E (i : Int)).toNat 0 + costE E (i : Int) < X.getD (toE E (i : Int)).toNat 0
          · rw [decide_eq_true c3]
            exact (dec_not_t (fun z : Pot E X (i : Int) => by have := z c1; omega)).symm
          · rw [decide_eq_false c3]
            exact (dec_not_f (show Pot E X (i : Int) from fun _ => by omega)).symm
      · rw [if_neg c1]
        congr 1
        exact (dec_not_f (show Pot E X (i : Int) from fun y => (c1 y).elim)).symm
    by_cases c : Pot E X (i : Int)
    · have ih := sound_l2 (B := B) hV hs h hX h0 hr d (i + 1) (by omega) (fun j hj => by
        by_cases e : j = i
        · subst e; exact c
        · exact hp j (by omega))
      refine Ev2.step (fun k n => ?_) ih
      rw [pre, show decide (¬ Pot E X (i : Int)) = false from decide_eq_false (fun z => z c), f34_r12, f34_r12_B, if_neg (by simp), hw1]
    · have hne : ¬ X = C := fun z => c (by rw [z]; exact h.pot hV hik)
      rw [decide_eq_false hne]
      refine Ev2.step (g := fun _ _ => some (false, ())) (fun k n => ?_) (Ev2.pure _)
      rw [pre, decide_eq_true c, f34_r12, f34_r12_B, if_pos rfl]
theorem sound_l0 {N B : List Pt} {E : List Ed} (hV : NetV N E []) {s : Int} (hs : inR s N.length) {C X : List Int} (h : LeastC N.length E [] s C) (hX : X.length = N.length) (h0 : X.getD s.toNat 0 = 0) : ∀ (d i : Nat), i + d = N.length → (∀ v, v < i → -1 ≤ X.getD v 0 ∧ X.getD v 0 ≤ 659706976665600) →
    Ev2 (fun k n => f34_l0 k n N E B s X (X.length : Int) (i : Int)) (decide (X = C), ())
  | 0, i, hi, hp => by
    have e : i = N.length := by omega
    subst e
    refine Ev2.step (g := fun k _ => f34_l2 k k N E B s X (E.length : Int) 0) (fun k n => ?_) (sound_l2 hV hs h hX h0 hp E.length 0 (by omega) (fun j hj => by omega)).diag.two
    rw [f34_l0, f34_l0_B, if_neg (by omega)]
  | d + 1, i, hi, hp => by
    have hn1 := hV.n1
    have i0 : (0 : Int) ≤ (i : Int) := by omega
    have i1 : (i : Int) < (X.length : Int) := by omega
    have hw1 : w64 ((i : Int) + 1) = ((i + 1 : Nat) : Int) := by rw [w64_id (by omega) (by omega)]; omega
    have pre : ∀ k n, f34_l0 k (n + 1) N E B s X (X.length : Int) (i : Int) = f34_r6 k (f34_l0 k n) N E B s X (X.length : Int) (i : Int) (decide (¬ (-1 ≤ X.getD i 0 ∧ X.getD i 0 ≤ 659706976665600))) := fun k n => by
      rw [f34_l0, f34_l0_B, if_pos i1, if_pos i0, if_pos i1, Int.toNat_natCast]
      by_cases c1 : X.getD i 0 < -1
      · rw [if_pos c1]
        congr 1
        exact (dec_not_t (by omega)).symm
      · rw [if_neg c1]
        congr 1
        by_cases c3 : 659706976665600 < X.getD i 0
        · rw [decide_eq_true c3]
          exact (dec_not_t (by omega)).symm
        · rw [decide_eq_false c3]
          exact (dec_not_f ⟨by omega, by omega⟩).symm
    by_cases c : -1 ≤ X.getD i 0 ∧ X.getD i 0 ≤ 659706976665600
    · have ih := sound_l0 (B := B) hV hs h hX h0 d (i + 1) (by omega) (fun j hj => by
        by_cases e : j = i
        · subst e; exact c
        · exact hp j (by omega))
      refine Ev2.step (fun k n => ?_) ih
      rw [pre, show decide (¬ (-1 ≤ X.getD i 0 ∧ X.getD i 0 ≤ 659706976665600)) = false from decide_eq_false (fun z => z c), f34_r6, f34_r6_B, if_neg (by simp), hw1]
    · have hne : ¬ X = C := fun z => c (by
        rw [z]
        have := h.hi i (by omega)
        rcases h.at_ i (by omega) with ⟨g, _⟩ | ⟨g, _⟩
        · omega
        · omega)
      rw [decide_eq_false hne]
      refine Ev2.step (g := fun _ _ => some (false, ())) (fun k n => ?_) (Ev2.pure _)
      rw [pre, decide_eq_true c, f34_r6, f34_r6_B, if_pos rfl]
/-- Sound in a valid network, for all costs. -/
theorem sound_ev {N : List Pt} {E : List Ed} {B : List Pt} (hv : netF (N, (E, B)) = 0) {s : Int} (hs : inR s N.length) {C : List Int} (h : LeastC N.length E B s C) (X : List Int) :
    Ev (fun k => f34 k (N, (E, B)) s X) (decide (B = [] ∧ X = C), ()) := by
  have hV := netV_of hv
  simp only [f34, f34_entry_B]
  refine (valid_ev (N, (E, B)) [s] (by simp)).bind ?_
  have hvl : vldF (N, (E, B)) [s] = 0 := by unfold vldF; rw [if_pos hv, if_pos (by simpa using hs)]
  simp only [hvl, not_true_eq_false, if_false]
  have stop : ∀ k, f34_r1 k N E B s X true = some (false, ()) := fun k => by
    rw [f34_r1, f34_r1_B, if_pos rfl]
  by_cases c1 : B = []
  · subst c1
    simp only [List.length_nil, show ¬ (0 : Int) < ((0 : Nat) : Int) from by decide, if_false, true_and]
    by_cases c2 : (X.length : Int) = (N.length : Int)
    · have hX : X.length = N.length := by omega
      have hs1 : s < (X.length : Int) := by rw [c2]; exact hs.2
      simp only [c2, not_true_eq_false, if_false, if_pos hs.1, if_pos hs.2]
      by_cases c3 : X.getD s.toNat 0 = 0
      · simp only [c3, not_true_eq_false, decide_false]
        refine Ev.of (fun k => ?_) (sound_l0 (B := []) hV hs h hX c3 N.length 0 (by omega) (fun v hv => by omega)).diag
        rw [f34_r1, f34_r1_B, if_neg (by simp)]
        rfl
      · have hne : ¬ X = C := fun z => c3 (by rw [z]; exact h.first hs)
        simp only [c3, not_false_eq_true, decide_true, hne, decide_false]
        exact Ev.of stop (Ev.pure _)
    · have hne : ¬ X = C := fun z => c2 (by rw [z, h.len])
      simp only [c2, not_false_eq_true, if_true, hne, decide_false]
      exact Ev.of stop (Ev.pure _)
  · have hb : (0 : Int) < (B.length : Int) := by
      have : B.length ≠ 0 := fun z => c1 (List.length_eq_zero_iff.1 z)
      omega
    simp only [if_pos hb, c1, false_and, decide_false]
    exact Ev.of stop (Ev.pure _)
end Go.Proofs.Ytoebjlimpnmaoaa.Rw

namespace Go.Proofs.Ytoebjlimpnmaoaa.Rw
open Go.Rx
set_option linter.unusedVariables false
set_option linter.unusedSimpArgs false
theorem set_ne {C : List Int} {i : Nat} {x : Int} (hi : i < C.length) (h : x ≠ C.getD i 0) : C.set i x ≠ C := fun e => h (by
  have this : (C.set i x).getD i 0 = C.getD i 0 := by rw [e]
  rw [gsetN, if_pos ⟨rfl, hi⟩] at this
  exact this)
theorem sound_law (a : List Int) (at_ by_ : Int) : Ev (fun k => f10 k a at_ by_) (true, ()) := by
  obtain ⟨N, E, B, n1, n2, n3, e1, e2, b1, b2, hnet⟩ := net_ev a
  have hval0 : netF (N, (E, ([] : List Pt))) = 0 := made_valid n1 n3 e1 e2 ⟨List.nodup_nil, fun b hb => by cases hb⟩ (by simp)
  have h0 : inR 0 N.length := ⟨by omega, by omega⟩
  obtain ⟨C, c1, c2⟩ := costs_ev hval0 h0
  have hr : Ev (fun k => f31 k) (true, ()) := Ev.off 60 routed4_true
  have hp : Ev (fun k => f23 k a) ((N, (E, ([] : List Pt))), ()) := by
    simp only [f23, f23_entry_B]
    exact hnet.bind (Ev.pure _)
  have hl : (C.length : Int) = (N.length : Int) := by rw [c1.len]
  have hcl := c1.len
  have l1 := below_lt (x := at_) (n := (C.length : Int)) (by omega)
  have l2 := below_lt (x := by_) (n := 5) (by omega)
  have q1 : (1 : Int) ≤ (C.length : Int) := by omega
  have q2 : (C.length : Int) ≤ 1000000000000 := by omega
  generalize hi : belowF at_ (C.length : Int) = i at l1
  generalize hj : belowF by_ 5 = j at l2
  have hin : i.toNat < N.length := by omega
  have hrange : -1 ≤ C.getD i.toNat 0 ∧ C.getD i.toNat 0 ≤ 659706976665600 := by
    have := c1.hi i.toNat hin
    rcases c1.at_ i.toNat hin with ⟨g, _⟩ | ⟨g, _⟩ <;> omega
  have w1 : w64 (1 + j) = 1 + j := w64_id (by omega) (by omega)
  have w2 : w64 (C.getD i.toNat 0 + (1 + j)) = C.getD i.toNat 0 + (1 + j) := w64_id (by omega) (by omega)
  have w3 : w64 (C.getD i.toNat 0 - 1) = C.getD i.toNat 0 - 1 := w64_id (by omega) (by omega)
  have s1 := sound_ev hval0 h0 c1 C
  have s2 := sound_ev hval0 h0 c1 (C.set i.toNat (C.getD i.toNat 0 + (1 + j)))
  have s3 := sound_ev hval0 h0 c1 ((C.set i.toNat (C.getD i.toNat 0 + (1 + j))).set i.toNat (C.getD i.toNat 0 - 1))
  rw [decide_eq_true ⟨rfl, rfl⟩] at s1
  rw [decide_eq_false (fun z => set_ne (by omega) (by omega) z.2)] at s2
  rw [List.set_set] at s3
  rw [decide_eq_false (fun z => set_ne (by omega) (by omega) z.2)] at s3
  simp only [f10, f10_entry_B]
  refine hp.bind (c2.bind (hr.bind ?_))
  have hx : ¬ ¬ (C.length : Int) = (N.length : Int) := fun z => z hl
  simp only [not_true_eq_false, if_false, if_neg hx]
  refine s1.bind ?_
  simp only [not_true_eq_false, decide_false]
  refine Ev.of (fun k => by
    rw [f10_r3, f10_r3_B, if_neg (by simp), clone_eq k C (by omega), Option.bind_some, below_eq k at_ (C.length : Int) q1 q2, Option.bind_some, hi, if_pos l1.1, if_pos l1.2, below_eq k by_ 5 (by omega) (by omega), Option.bind_some, hj, if_pos l1.1, if_pos l1.2, w1, w2]) ?_
  refine s2.bind ?_
  have g1 : i < ((C.set i.toNat (C.getD i.toNat 0 + (1 + j))).length : Int) := by rw [List.length_set]; exact l1.2
  simp only [Bool.false_eq_true, if_false, if_pos l1.1, if_pos l1.2, if_pos g1, w3, List.set_set]
  exact s3.bind (Ev.pure _)
/-- **The costs of a network without bans are sound; changed in one place they are not.** -/
theorem pure_RouteSound : Pure_RouteSound := by
  rintro ⟨a, i, j, u⟩ hwf
  exact (sound_law a i j).get
end Go.Proofs.Ytoebjlimpnmaoaa.Rw
