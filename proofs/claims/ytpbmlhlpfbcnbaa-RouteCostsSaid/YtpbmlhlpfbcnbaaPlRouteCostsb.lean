/- Plain laws for RouteCosts. No condition. -/
import Derived.Test.YtpbmlhlpfbcnbaaPlRouteCostsa
namespace Go.Proofs.Ytpbmlhlpfbcnbaa.Rw
open Go.Rx
set_option linter.unusedVariables false
set_option linter.unusedSimpArgs false
theorem edF_all {n : Nat} : ∀ {E : List Ed}, edF n E = 0 → ∀ i, i < E.length → ¬ badE n (E.getD i zE)
  | [], _, i, hi => by simp at hi
  | e :: l, h, i, hi => by
    unfold edF at h
    split at h
    · cases h
    · rename_i h1
      split at h
      · cases h
      · cases i with
        | zero => exact h1
        | succ i => simpa using edF_all h i (by simpa using hi)
/-- A valid network. -/
structure NetV (N : List Pt) (E : List Ed) (B : List Pt) : Prop where
  n1 : N.length ≤ 200
  n2 : E.length ≤ 600
  n3 : B.length ≤ 600
  ends : ∀ k, inR k E.length → inR (fromE E k) N.length ∧ inR (toE E k) N.length
  cost : CostOK E
theorem netV_of {N : List Pt} {E : List Ed} {B : List Pt} (h : netF (N, (E, B)) = 0) : NetV N E B := by
  unfold netF at h
  split at h
  · cases h
  · rename_i h0
    split at h
    · split at h
      · rename_i h2
        have hb : ∀ k, inR k E.length → ¬ badE N.length (E.getD k.toNat zE) := fun k hk => edF_all (show edF N.length E = 0 from h2) k.toNat (by have := hk.1; have := hk.2; omega)
        have h0' : ¬ (200 < (N.length : Int) ∨ 600 < (E.length : Int) ∨ 600 < (B.length : Int)) := h0
        refine ⟨by omega, by omega, by omega, fun k hk => ?_, fun k hk => ?_⟩
        · have := hb k hk
          unfold badE at this
          refine ⟨?_, ?_⟩
          · exact Decidable.byContradiction fun z => this (.inl z)
          · exact Decidable.byContradiction fun z => this (.inr (.inl z))
        · have := hb k hk
          unfold badE at this
          unfold costE
          constructor <;> omega
      · rename_i h2; exact absurd h h2
    · rename_i h1; exact absurd h h1
def vldF (n : Nt) (L : List Int) : Int := if netF n = 0 then (if ∀ x ∈ L, inR x n.1.length then 0 else 1) else netF n
theorem valid_loop {N B : List Pt} {E : List Ed} (hN : N.length ≤ 1000) : ∀ (rest pre L : List Int), pre ++ rest = L → L.length ≤ 1000 → (∀ x ∈ pre, inR x N.length) →
    Ev2 (fun k n => f96_l0 k n N E B L (L.length : Int) (pre.length : Int)) (if ∀ x ∈ L, inR x N.length then 0 else 1, ())
  | [], pre, L, hpl, hL, hp => by
    have e : pre = L := by simpa using hpl
    subst e
    rw [if_pos hp]
    refine Ev2.step (g := fun _ _ => some (0, ())) (fun k n => ?_) (Ev2.pure _)
    rw [f96_l0, f96_l0_B, if_neg (by omega)]
  | x :: rest, pre, L, hpl, hL, hp => by
    have i0 : (0 : Int) ≤ (pre.length : Int) := by omega
    have hlt : pre.length < L.length := by rw [← hpl]; simp
    have i1 : (pre.length : Int) < (L.length : Int) := by omega
    have hg : L.getD ((pre.length : Int)).toNat 0 = x := by rw [← hpl]; exact getD_mid
    have hw : w64 ((pre.length : Int) + 1) = (((pre ++ [x]).length : Nat) : Int) := by
      rw [w64_id (by omega) (by omega)]; simp
    have hxL : x ∈ L := by rw [← hpl]; simp
    by_cases c : inR x N.length
    · have := valid_loop (E := E) (B := B) hN rest (pre ++ [x]) L (by simp [← hpl]) hL (fun y hy => by
        rcases List.mem_append.1 hy with hy | hy
        · exact hp y hy
        · simp only [List.mem_singleton] at hy; subst hy; exact c)
      refine Ev2.step (fun k n => ?_) this
      have c' := c
      unfold inR at c'
      rw [f96_l0, f96_l0_B, if_pos i1, if_pos i0, if_pos i1, hg, if_neg (by omega), decide_eq_false (by omega), f96_r7, f96_r7_B, if_neg (by simp), hw]
    · rw [if_neg (fun z => c (z x hxL))]
      refine Ev2.step (g := fun _ _ => some (1, ())) (fun k n => ?_) (Ev2.pure _)
      rw [f96_l0, f96_l0_B, if_pos i1, if_pos i0, if_pos i1, hg]
      unfold inR at c
      by_cases d : x < 0
      · rw [if_pos d, f96_r7, f96_r7_B, if_pos rfl]
      · rw [if_neg d, decide_eq_true (by omega), f96_r7, f96_r7_B, if_pos rfl]
theorem valid_ev (n : Nt) (L : List Int) (hL : L.length ≤ 1000) : Ev (fun k => f96 k n L) (vldF n L, ()) := by
  obtain ⟨N, E, B⟩ := n
  simp only [f96, f96_entry_B]
  refine (chk_ev (N, (E, B))).bind ?_
  unfold vldF
  by_cases c : netF (N, (E, B)) = 0
  · simp only [c, not_true_eq_false, if_false, if_true]
    exact (valid_loop (E := E) (B := B) (by have := (netV_of c).n1; omega) L [] L rfl hL (fun x hx => by cases hx)).diag
  · simp only [c, not_false_eq_true, if_true, if_false]
    exact Ev.pure _
theorem row_ext2 {l m : List Int} (hl : l.length = m.length) (h : ∀ i, i < l.length → l.getD i 0 = m.getD i 0) : l = m := by
  refine List.ext_getElem hl fun i h1 h2 => ?_
  have := h i h1
  rw [List.getD_eq_getElem?_getD, List.getD_eq_getElem?_getD, List.getElem?_eq_getElem h1, List.getElem?_eq_getElem h2] at this
  exact this
/-- What Ends says of a way. -/
def endC (E : List Ed) (w : List Int) : Int := if w = [] then -1 else cW E w
theorem ends_at {E : List Ed} {W : List (List Int)} {i : Nat} (hi : i < W.length) : (W.map (endC E)).getD i 0 = endC E (W.getD i []) := by
  rw [List.getD_eq_getElem?_getD, List.getElem?_map, List.getD_eq_getElem?_getD, List.getElem?_eq_getElem hi]; rfl
theorem ends_loop {E : List Ed} {B : List Pt} {s : Int} {l : List Lb} {W : List (List Int)} (hE : E.length ≤ 600) (h : Lab E B s l W) : ∀ (d i : Nat) (R : List Int), i + d = E.length → R.length = E.length → (∀ j, j < i → R.getD j 0 = endC E (W.getD j [])) →
    Ev2 (fun k n => f45_l0 k n R l (l.length : Int) (i : Int)) (W.map (endC E), ())
  | 0, i, R, hi, hR, hj => by
    have e : i = E.length := by omega
    subst e
    rw [show W.map (endC E) = R from (row_ext2 (by rw [hR, List.length_map, h.l2]) (fun j hj' => by rw [ends_at (by rw [h.l2]; omega)]; exact hj j (by omega))).symm]
    refine Ev2.step (g := fun _ _ => some (R, ())) (fun k n => ?_) (Ev2.pure _)
    rw [f45_l0, f45_l0_B, if_neg (by rw [h.l1]; omega)]
  | d + 1, i, R, hi, hR, hj => by
    have hiE : i < E.length := by omega
    have a0 : (0 : Int) ≤ (i : Int) := by omega
    have a1 : (i : Int) < (l.length : Int) := by rw [h.l1]; omega
    have a2 : (i : Int) < (R.length : Int) := by omega
    have hiR : i < R.length := by omega
    have hw : w64 ((i : Int) + 1) = ((i + 1 : Nat) : Int) := by rw [w64_id (by omega) (by omega)]; omega
    have hkn : (l.getD ((i : Int)).toNat (0, (0, (0, (false, false))))).2.2.2.1 = knL l i := by rw [Int.toNat_natCast]; rfl
    by_cases c : W.getD i [] = []
    · have hk := (h.un i hiE c).1
      have := ends_loop hE h d (i + 1) (R.set i (-1)) (by omega) (by simpa using hR) (fun j hj' => by
        rw [gsetN]
        by_cases e : i = j
        · subst e; rw [if_pos ⟨rfl, hiR⟩]; unfold endC; rw [if_pos c]
        · rw [if_neg (fun z => e z.1)]; exact hj j (by omega))
      refine Ev2.step (fun k n => ?_) this
      rw [f45_l0, f45_l0_B, if_pos a1, if_pos a0, if_pos a1, if_pos a0, if_pos a2, hkn, hk, if_neg (by simp), f45_c11, f45_c11_B, hw, Int.toNat_natCast]
    · obtain ⟨hk, c1, _⟩ := h.kn i hiE c
      have c1 : (l.getD ((i : Int)).toNat (0, (0, (0, (false, false))))).1 = cW E (W.getD i []) := by rw [Int.toNat_natCast]; exact c1
      have := ends_loop hE h d (i + 1) ((R.set i (-1)).set i (cW E (W.getD i []))) (by omega) (by simpa using hR) (fun j hj' => by
        rw [gsetN]
        by_cases e : i = j
        · subst e; rw [if_pos ⟨rfl, by simpa using hiR⟩]; unfold endC; rw [if_neg c]
        · rw [if_neg (fun z => e z.1), gsetN, if_neg (fun z => e z.1)]; exact hj j (by omega))
      refine Ev2.step (fun k n => ?_) this
      rw [f45_l0, f45_l0_B, if_pos a1, if_pos a0, if_pos a1, if_pos a0, if_pos a2, hkn, hk, if_pos rfl, if_pos a0, if_pos (by simpa using a2), c1, f45_c11, f45_c11_B, hw, Int.toNat_natCast]
theorem ends_ev {N : List Pt} {E : List Ed} {B : List Pt} (hv : netF (N, (E, B)) = 0) {s : Int} (hs : inR s N.length) : ∃ W, Opt E B s W ∧ Ev (fun k => f45 k (N, (E, B)) s) (W.map (endC E), ()) := by
  have hV := netV_of hv
  have hE := hV.n2
  obtain ⟨nx, n1, n2⟩ := start_ev N (E := E) (B := B) hV.n2 (by have := hV.n3; omega)
  obtain ⟨lf, W, z1, z2, z3⟩ := run_ev (N := N) (B := B) s hV.n2 hV.cost n1
  refine ⟨W, z2, ?_⟩
  simp only [f45, f45_entry_B]
  refine (valid_ev (N, (E, B)) [s] (by simp)).bind ?_
  have hvl : vldF (N, (E, B)) [s] = 0 := by unfold vldF; rw [if_pos hv, if_pos (by simpa using hs)]
  simp only [hvl, not_true_eq_false, if_false]
  have a0 : (0 : Int) ≤ (E.length : Int) := by omega
  have a1 : (E.length : Int) ≤ 1073741824 := by omega
  refine n2.bind (z3.bind ?_)
  simp only [if_pos a0, if_pos a1, Int.toNat_natCast]
  exact (ends_loop hE z1 E.length 0 (List.replicate E.length 0) (by omega) (by simp) (fun j hj => by omega)).diag
/-- A node can be reached at a cost. -/
def Rch (E : List Ed) (B : List Pt) (s v c : Int) : Prop := (v = s ∧ c = 0) ∨ ∃ w k, Wy E B s w k ∧ toE E k = v ∧ cW E w = c
/-- The least costs of all nodes, or -1. -/
structure LeastC (n : Nat) (E : List Ed) (B : List Pt) (s : Int) (C : List Int) : Prop where
  len : C.length = n
  at_ : ∀ v, v < n → (C.getD v 0 = -1 ∧ ∀ c, ¬ Rch E B s (v : Int) c) ∨ (0 ≤ C.getD v 0 ∧ Rch E B s (v : Int) (C.getD v 0) ∧ ∀ c, Rch E B s (v : Int) c → C.getD v 0 ≤ c)
  hi : ∀ v, v < n → C.getD v 0 ≤ 659706976665600
theorem LeastC.one {n : Nat} {E : List Ed} {B : List Pt} {s : Int} {C D : List Int} (h : LeastC n E B s C) (k : LeastC n E B s D) : C = D :=
  row_ext2 (by rw [h.len, k.len]) fun v hv => by
    have hv : v < n := by rw [← h.len]; exact hv
    rcases h.at_ v hv with ⟨h1, h2⟩ | ⟨h1, h2, h3⟩
    · rcases k.at_ v hv with ⟨k1, k2⟩ | ⟨k1, k2, k3⟩
      · omega
      · exact (h2 _ k2).elim
    · rcases k.at_ v hv with ⟨k1, k2⟩ | ⟨k1, k2, k3⟩
      · exact (k2 _ h2).elim
      · have := h3 _ k2; have := k3 _ h2; omega
/-- What the row says after some edges. -/
def CostI (n : Nat) (E : List Ed) (W : List (List Int)) (i : Nat) (R : List Int) : Prop := R.length = n ∧ ∀ v, v < n →
  (R.getD v 0 = -1 ∧ ∀ j : Nat, j < i → toE E (j : Int) = (v : Int) → W.getD j [] = []) ∨
  (0 ≤ R.getD v 0 ∧ (∃ j : Nat, j < i ∧ toE E (j : Int) = (v : Int) ∧ W.getD j [] ≠ [] ∧ R.getD v 0 = cW E (W.getD j [])) ∧ ∀ j : Nat, j < i → toE E (j : Int) = (v : Int) → W.getD j [] ≠ [] → R.getD v 0 ≤ cW E (W.getD j []))
theorem CostI.skip {n : Nat} {E : List Ed} {W : List (List Int)} {i : Nat} {R : List Int} (h : CostI n E W i R) (hn : ∀ v : Nat, v < n → toE E (i : Int) = (v : Int) → W.getD i [] ≠ [] → 0 ≤ R.getD v 0 ∧ R.getD v 0 ≤ cW E (W.getD i [])) : CostI n E W (i + 1) R := by
  refine ⟨h.1, fun v hv => ?_⟩
  rcases h.2 v hv with ⟨h1, h2⟩ | ⟨h1, ⟨j, j1, j2⟩, h3⟩
  · refine .inl ⟨h1, fun j hj ht => ?_⟩
    by_cases e : j = i
    · subst e
      by_cases g : W.getD j [] = []
      · exact g
      · have := hn v hv ht g; omega
    · exact h2 j (by omega) ht
  · refine .inr ⟨h1, ⟨j, by omega, j2⟩, fun j hj ht hw => ?_⟩
    by_cases e : j = i
    · subst e; exact (hn v hv ht hw).2
    · exact h3 j (by omega) ht hw
theorem CostI.set {n : Nat} {E : List Ed} {W : List (List Int)} {i v : Nat} {R : List Int} (h : CostI n E W i R) (hv : v < n) (ht : toE E (i : Int) = (v : Int)) (hw : W.getD i [] ≠ []) (h0 : 0 ≤ cW E (W.getD i [])) (hc : R.getD v 0 < 0 ∨ cW E (W.getD i []) < R.getD v 0) : CostI n E W (i + 1) (R.set v (cW E (W.getD i []))) := by
  have hvR : v < R.length := by rw [h.1]; exact hv
  refine ⟨by simpa using h.1, fun u hu => ?_⟩
  rw [gsetN]
  by_cases e : v = u
  · subst e
    rw [if_pos ⟨rfl, hvR⟩]
    refine .inr ⟨h0, ⟨i, by omega, ht, hw, rfl⟩, fun j hj htj hwj => ?_⟩
    by_cases e : j = i
    · subst e; exact Int.le_refl _
    · rcases h.2 v hv with ⟨h1, h2⟩ | ⟨h1, _, h3⟩
      · exact (hwj (h2 j (by omega) htj)).elim
      · have := h3 j (by omega) htj hwj; omega
  · rw [if_neg (fun z => e z.1)]
    rcases h.2 u hu with ⟨h1, h2⟩ | ⟨h1, ⟨j, j1, j2⟩, h3⟩
    · refine .inl ⟨h1, fun j hj htj => ?_⟩
      by_cases e' : j = i
      · subst e'; omega
      · exact h2 j (by omega) htj
    · refine .inr ⟨h1, ⟨j, by omega, j2⟩, fun j hj htj hwj => ?_⟩
      by_cases e' : j = i
      · subst e'; omega
      · exact h3 j (by omega) htj hwj
theorem costs_loop {N : List Pt} {E : List Ed} {B : List Pt} (hV : NetV N E B) {s : Int} (hs : inR s N.length) {W : List (List Int)} (hW : Opt E B s W) : ∀ (d i : Nat) (R : List Int), i + d = E.length → CostI N.length E W i R →
    ∃ R', CostI N.length E W E.length R' ∧ Ev2 (fun k n => f46_l0 k n R N E B (W.map (endC E)) s ((W.map (endC E)).length : Int) (i : Int)) (R'.set s.toNat 0, ())
  | 0, i, R, hi, hR => by
    have e : i = E.length := by omega
    subst e
    refine ⟨R, hR, Ev2.step (g := fun _ _ => some (R.set s.toNat 0, ())) (fun k n => ?_) (Ev2.pure _)⟩
    rw [f46_l0, f46_l0_B, if_neg (by rw [List.length_map, hW.len]; omega), if_pos hs.1, if_pos (by rw [hR.1]; exact hs.2)]
  | d + 1, i, R, hi, hR => by
    have hiE : i < E.length := by omega
    have hn2 := hV.n2
    have hlm : (W.map (endC E)).length = E.length := by rw [List.length_map, hW.len]
    have a0 : (0 : Int) ≤ (i : Int) := by omega
    have a1 : (i : Int) < ((W.map (endC E)).length : Int) := by omega
    have a2 : (i : Int) < (E.length : Int) := by omega
    have hw : w64 ((i : Int) + 1) = ((i + 1 : Nat) : Int) := by rw [w64_id (by omega) (by omega)]; omega
    have he : (W.map (endC E)).getD ((i : Int)).toNat 0 = endC E (W.getD i []) := by rw [Int.toNat_natCast]; exact ends_at (by rw [hW.len]; exact hiE)
    have ht : (E.getD ((i : Int)).toNat (0, (0, (0, 0)))).2.1 = toE E (i : Int) := rfl
    obtain ⟨_, t0, t1⟩ := hV.ends (i : Int) ⟨a0, a2⟩
    have tn : (toE E (i : Int)).toNat < N.length := by omega
    have et : (((toE E (i : Int)).toNat : Nat) : Int) = toE E (i : Int) := by omega
    have hRl : (R.length : Int) = (N.length : Int) := by rw [hR.1]
    by_cases c : W.getD i [] = []
    · obtain ⟨R', r1, r2⟩ := costs_loop hV hs hW d (i + 1) R (by omega) (hR.skip (fun v _ _ hw => (hw c).elim))
      refine ⟨R', r1, Ev2.step (fun k n => ?_) r2⟩
      rw [f46_l0, f46_l0_B, if_pos a1, if_pos a0, if_pos a1, if_pos a0, if_pos a2, he]
      have : endC E (W.getD i []) = -1 := by unfold endC; rw [if_pos c]
      rw [this, if_neg (by decide), f46_r8, f46_r8_B, if_neg (by simp), f46_c9, f46_c9_B, hw]
    · obtain ⟨y1, y2⟩ := hW.yes i hiE c
      have h0 := y1.cost (fun k hk => (hV.cost k hk).1)
      have hec : endC E (W.getD i []) = cW E (W.getD i []) := by unfold endC; rw [if_neg c]
      have pre : ∀ k n, f46_l0 k (n + 1) R N E B (W.map (endC E)) s ((W.map (endC E)).length : Int) (i : Int) = f46_r8 k (f46_l0 k n) R N E B (W.map (endC E)) s ((W.map (endC E)).length : Int) (i : Int) (decide (R.getD (toE E (i : Int)).toNat 0 < 0 ∨ cW E (W.getD i []) < R.getD (toE E (i : Int)).toNat 0)) (cW E (W.getD i [])) (toE E (i : Int)) := fun k n => by
        rw [f46_l0, f46_l0_B, if_pos a1, if_pos a0, if_pos a1, if_pos a0, if_pos a2, he, hec, if_pos h0, ht, if_pos t0, if_pos (by omega)]
        by_cases g : R.getD (toE E (i : Int)).toNat 0 < 0
        · rw [if_pos g, decide_eq_true (Or.inl g)]
        · rw [if_neg g, if_pos t0, if_pos (by omega)]
          rw [show decide (cW E (W.getD i []) < R.getD (toE E (i : Int)).toNat 0) = decide (R.getD (toE E (i : Int)).toNat 0 < 0 ∨ cW E (W.getD i []) < R.getD (toE E (i : Int)).toNat 0) from decide_eq_decide.2 ⟨.inr, fun z => z.resolve_left g⟩]
      by_cases g : R.getD (toE E (i : Int)).toNat 0 < 0 ∨ cW E (W.getD i []) < R.getD (toE E (i : Int)).toNat 0
      · obtain ⟨R', r1, r2⟩ := costs_loop hV hs hW d (i + 1) _ (by omega) (hR.set tn et.symm c h0 g)
        refine ⟨R', r1, Ev2.step (fun k n => ?_) r2⟩
        rw [pre, decide_eq_true g, f46_r8, f46_r8_B, if_pos rfl, if_pos t0, if_pos (by omega), f46_c9, f46_c9_B, hw]
      · obtain ⟨R', r1, r2⟩ := costs_loop hV hs hW d (i + 1) R (by omega) (hR.skip (fun v hv htv _ => by
          have : v = (toE E (i : Int)).toNat := by omega
          subst this
          omega))
        refine ⟨R', r1, Ev2.step (fun k n => ?_) r2⟩
        rw [pre, decide_eq_false g, f46_r8, f46_r8_B, if_neg (by simp), f46_c9, f46_c9_B, hw]
theorem least_of {N : List Pt} {E : List Ed} {B : List Pt} (hV : NetV N E B) {s : Int} (hs : inR s N.length) {W : List (List Int)} (hW : Opt E B s W) {R : List Int} (hR : CostI N.length E W E.length R) : LeastC N.length E B s (R.set s.toNat 0) := by
  have hsR : s.toNat < R.length := by rw [hR.1]; have := hs.1; have := hs.2; omega
  refine ⟨by simpa using hR.1, fun v hv => ?_, fun v hv => ?_⟩
  rotate_left
  · rw [gsetN]
    split
    · decide
    · rcases hR.2 v hv with ⟨h1, _⟩ | ⟨_, ⟨j, j1, _, j3, j4⟩, _⟩
      · omega
      · have h1 := hW.sz j j1 j3
        have h2 := hV.n2
        have h3 := cW_le (E := E) (M := 1099511627776) (by decide) (fun k hk => (hV.cost k hk).2) (W.getD j []) (hW.yes j j1 j3).1.mem
        have h4 : (1099511627776 : Int) * ((W.getD j []).length : Int) ≤ 1099511627776 * 600 := Int.mul_le_mul_of_nonneg_left (by omega) (by decide)
        omega
  rw [gsetN]
  have hcost : ∀ w k, Wy E B s w k → 0 ≤ cW E w := fun w k h => h.cost (fun k hk => (hV.cost k hk).1)
  by_cases e : s.toNat = v
  · subst e
    rw [if_pos ⟨rfl, hsR⟩]
    have es : ((s.toNat : Nat) : Int) = s := by have := hs.1; omega
    refine .inr ⟨by decide, .inl ⟨es, rfl⟩, fun c hc => ?_⟩
    rcases hc with ⟨_, rfl⟩ | ⟨w, k, h1, _, rfl⟩
    · decide
    · exact hcost w k h1
  · rw [if_neg (fun z => e z.1)]
    have hvs : ¬ (v : Int) = s := fun z => by omega
    have hk : ∀ w k, Wy E B s w k → k.toNat < E.length ∧ ((k.toNat : Nat) : Int) = k := fun w k h => by
      have := h.inR.1; have := h.inR.2; omega
    rcases hR.2 v hv with ⟨h1, h2⟩ | ⟨h1, ⟨j, j1, j2, j3, j4⟩, h3⟩
    · refine .inl ⟨h1, fun c hc => ?_⟩
      rcases hc with ⟨z, _⟩ | ⟨w, k, g1, g2, _⟩
      · exact hvs z
      · obtain ⟨q1, q2⟩ := hk w k g1
        exact hW.no k.toNat q1 (h2 k.toNat q1 (by rw [q2]; exact g2)) w (by rw [q2]; exact g1)
    · refine .inr ⟨h1, .inr ⟨_, _, (hW.yes j j1 j3).1, j2, j4.symm⟩, fun c hc => ?_⟩
      rcases hc with ⟨z, _⟩ | ⟨w, k, g1, g2, rfl⟩
      · exact (hvs z).elim
      · obtain ⟨q1, q2⟩ := hk w k g1
        have hne : W.getD k.toNat [] ≠ [] := fun z => hW.no k.toNat q1 z w (by rw [q2]; exact g1)
        have := h3 k.toNat q1 (by rw [q2]; exact g2) hne
        have := wle_cost ((hW.yes k.toNat q1 hne).2 w (by rw [q2]; exact g1))
        omega
theorem costs_ev {N : List Pt} {E : List Ed} {B : List Pt} (hv : netF (N, (E, B)) = 0) {s : Int} (hs : inR s N.length) : ∃ C, LeastC N.length E B s C ∧ Ev (fun k => f46 k (N, (E, B)) s) (C, ()) := by
  have hV := netV_of hv
  have hn1 := hV.n1
  obtain ⟨W, w1, w2⟩ := ends_ev hv hs
  have hI : CostI N.length E W 0 (List.replicate N.length (-1)) := ⟨by simp, fun v hv => .inl ⟨by rw [List.getD_eq_getElem?_getD, List.getElem?_replicate, if_pos hv]; rfl, fun j hj => by omega⟩⟩
  obtain ⟨R', r1, r2⟩ := costs_loop hV hs w1 E.length 0 _ (by omega) hI
  refine ⟨_, least_of hV hs w1 r1, ?_⟩
  simp only [f46, f46_entry_B]
  refine (valid_ev (N, (E, B)) [s] (by simp)).bind ?_
  have hvl : vldF (N, (E, B)) [s] = 0 := by unfold vldF; rw [if_pos hv, if_pos (by simpa using hs)]
  simp only [hvl, not_true_eq_false, if_false]
  exact (repeat_ev (-1) N.length (by omega)).bind (w2.bind r2.diag)
end Go.Proofs.Ytpbmlhlpfbcnbaa.Rw

namespace Go.Proofs.Ytpbmlhlpfbcnbaa.Rw
open Go.Rx
set_option linter.unusedVariables false
set_option linter.unusedSimpArgs false
theorem wle_pre {E : List Ed} (a : List Int) {q : List Int} (h : 0 ≤ cW E q) : wle E a (a ++ q) := by
  unfold wle
  rw [cW_app, List.length_append]
  cases q with
  | nil => rw [List.append_nil, cmpI_self]; simp only [cW]; omega
  | cons x l => simp only [List.length_cons]; omega
theorem cW_nn {E : List Ed} (hc : ∀ k, inR k E.length → 0 ≤ costE E k) : ∀ {w : List Int}, (∀ x ∈ w, inR x E.length) → 0 ≤ cW E w
  | [], _ => Int.le_refl 0
  | q :: w, h => by
    have h1 := cW_nn hc (w := w) (fun x hx => h x (List.mem_cons_of_mem _ hx))
    have h2 := hc q (h q (List.mem_cons_self ..))
    simp only [cW]; omega
/-- What holds of the ways at all times. -/
structure WI (E : List Ed) (B : List Pt) (s : Int) (W : List (List Int)) : Prop where
  len : W.length = E.length
  way : ∀ i, i < E.length → W.getD i [] ≠ [] → Wy E B s (W.getD i []) (i : Int) ∧ (W.getD i []).Nodup
  pre : ∀ i, i < E.length → ∀ p x q, W.getD i [] = p ++ x :: q → W.getD x.toNat [] ≠ [] ∧ wle E (W.getD x.toNat []) (p ++ [x])
  one : ∀ i, i < E.length → fromE E (i : Int) = s → W.getD i [] ≠ [] ∧ wle E (W.getD i []) [(i : Int)]
theorem WI.set {E : List Ed} {B : List Pt} {s : Int} {W : List (List Int)} (h : WI E B s W) (hC : ∀ k, inR k E.length → 0 ≤ costE E k) {a b : Nat} (ha : a < E.length) (hb : b < E.length) (hne : W.getD a [] ≠ []) (hg : Goes E B (a : Int) (b : Int)) (hu : W.getD b [] = [] ∨ ¬ wle E (W.getD b []) (W.getD a [] ++ [(b : Int)])) :
    WI E B s (W.set b (W.getD a [] ++ [(b : Int)])) := by
  have hbW : b < W.length := by rw [h.len]; exact hb
  obtain ⟨wa, na⟩ := h.way a ha hne
  have hg' : ∀ j, (W.set b (W.getD a [] ++ [(b : Int)])).getD j [] = if b = j then W.getD a [] ++ [(b : Int)] else W.getD j [] := fun j => by
    rw [gsetN]
    by_cases e : b = j
    · rw [if_pos ⟨e, hbW⟩, if_pos e]
    · rw [if_neg (fun z => e z.1), if_neg e]
  have hup : ∀ (j : Nat) (v : List Int), W.getD j [] ≠ [] ∧ wle E (W.getD j []) v → (W.set b (W.getD a [] ++ [(b : Int)])).getD j [] ≠ [] ∧ wle E ((W.set b (W.getD a [] ++ [(b : Int)])).getD j []) v := fun j v ⟨h1, h2⟩ => by
    rw [hg']
    by_cases e : b = j
    · rw [if_pos e]
      refine ⟨by simp, ?_⟩
      rcases hu with hu | hu
      · rw [← e] at h1; exact absurd hu h1
      · rw [← e] at h2
        rcases wle_total E (W.getD b []) (W.getD a [] ++ [(b : Int)]) with g | g
        · exact absurd g hu
        · exact wle_trans g h2
    · rw [if_neg e]; exact ⟨h1, h2⟩
  have hin := wa.mem
  have hnb : (b : Int) ∉ W.getD a [] := fun hm => by
    obtain ⟨p, q, e⟩ := List.append_of_mem hm
    obtain ⟨g1, g2⟩ := h.pre a ha p (b : Int) q e
    rw [Int.toNat_natCast] at g1 g2
    rcases hu with hu | hu
    · exact g1 hu
    · refine hu (wle_trans g2 ?_)
      rw [e, show p ++ (b : Int) :: q ++ [(b : Int)] = (p ++ [(b : Int)]) ++ (q ++ [(b : Int)]) by simp]
      refine wle_pre _ (cW_nn hC fun x hx => ?_)
      rcases List.mem_append.1 hx with hx | hx
      · exact hin x (by rw [e]; exact List.mem_append_right _ (List.mem_cons_of_mem _ hx))
      · rw [List.mem_singleton.1 hx]; exact hg.1
  refine ⟨by rw [List.length_set]; exact h.len, fun i hi hn => ?_, fun i hi p x q e => ?_, fun i hi hs => hup i _ (h.one i hi hs)⟩
  · rw [hg'] at hn ⊢
    by_cases e : b = i
    · rw [if_pos e, ← e]
      refine ⟨.snoc _ _ _ wa hg.1 hg.2.1 hg.2.2, ?_⟩
      rw [List.nodup_append]
      refine ⟨na, by simp, fun x hx y hy => ?_⟩
      rw [List.mem_singleton.1 hy]
      exact fun z => hnb (z ▸ hx)
    · rw [if_neg e] at hn ⊢; exact h.way i hi hn
  · rw [hg'] at e
    by_cases c : b = i
    · rw [if_pos c] at e
      rcases List.eq_nil_or_concat q with z | ⟨q', y, z⟩
      · subst z
        obtain ⟨e1, e2⟩ := List.append_inj' e rfl
        obtain rfl : (b : Int) = x := by simpa using e2
        rw [hg', Int.toNat_natCast, if_pos rfl, ← e1]
        exact ⟨by simp, wle_refl _ _⟩
      · subst z
        have e' : W.getD a [] ++ [(b : Int)] = (p ++ x :: q') ++ [y] := by rw [e]; simp
        obtain ⟨e1, _⟩ := List.append_inj' e' rfl
        exact hup _ _ (h.pre a ha p x q' e1)
    · rw [if_neg c] at e
      exact hup _ _ (h.pre i hi p x q e)
theorem WI.sz {E : List Ed} {B : List Pt} {s : Int} {W : List (List Int)} (h : WI E B s W) (i : Nat) (hi : i < E.length) : (W.getD i []).length ≤ E.length := by
  by_cases c : W.getD i [] = []
  · rw [c]; simp
  · obtain ⟨h1, h2⟩ := h.way i hi c
    exact nodup_len _ h2 h1.mem
theorem WI.mem {E : List Ed} {B : List Pt} {s : Int} {W : List (List Int)} (h : WI E B s W) (i : Nat) (hi : i < E.length) : ∀ x ∈ W.getD i [], inR x E.length := by
  by_cases c : W.getD i [] = []
  · rw [c]; intro x hx; cases hx
  · exact (h.way i hi c).1.mem
/-- Over a pair of edges nothing can be improved. -/
def Cl (E : List Ed) (B : List Pt) (W : List (List Int)) (a b : Nat) : Prop := W.getD a [] ≠ [] → Goes E B (a : Int) (b : Int) → W.getD b [] ≠ [] ∧ wle E (W.getD b []) (W.getD a [] ++ [(b : Int)])
theorem WI.opt {E : List Ed} {B : List Pt} {s : Int} {W : List (List Int)} (h : WI E B s W) (hc : ∀ a b, a < E.length → b < E.length → Cl E B W a b) : Opt E B s W := by
  have hall : ∀ {w : List Int} {k : Int}, Wy E B s w k → W.getD k.toNat [] ≠ [] ∧ wle E (W.getD k.toNat []) w := fun {w k} hw => by
    induction hw with
    | one k h1 h2 =>
      have e : ((k.toNat : Nat) : Int) = k := by have := h1.1; omega
      have := h.one k.toNat (by have := h1.1; have := h1.2; omega) (by rw [e]; exact h2)
      rwa [e] at this
    | snoc w j k hw h1 h2 h3 ih =>
      have hj := hw.inR
      have e : ((k.toNat : Nat) : Int) = k := by have := h1.1; omega
      have e2 : ((j.toNat : Nat) : Int) = j := by have := hj.1; omega
      have := hc j.toNat k.toNat (by have := hj.1; have := hj.2; omega) (by have := h1.1; have := h1.2; omega) ih.1 (by rw [e, e2]; exact ⟨h1, h2, h3⟩)
      rw [e] at this
      exact ⟨this.1, wle_trans this.2 (wle_snoc ih.2 k)⟩
  refine ⟨h.len, fun i hi hn w hw => ?_, fun i hi hn => ⟨(h.way i hi hn).1, fun w hw => ?_⟩, fun i hi _ => h.sz i hi⟩
  · have := (hall hw).1; rw [Int.toNat_natCast] at this; exact this hn
  · have := (hall hw).2; rwa [Int.toNat_natCast] at this
/-- Numbers of ways, in their order. -/
def hor (M : Nat) : List Int → Nat
  | [] => 0
  | x :: l => x.toNat * M ^ l.length + hor M l
theorem hor_lt {M : Nat} : ∀ {w : List Int}, (∀ x ∈ w, 0 ≤ x ∧ x < (M : Int)) → hor M w < M ^ w.length
  | [], _ => by simp [hor]
  | x :: l, h => by
    have ih := hor_lt (w := l) (fun y hy => h y (List.mem_cons_of_mem _ hy))
    have hx := h x (List.mem_cons_self ..)
    have h1 : (x.toNat + 1) * M ^ l.length ≤ M * M ^ l.length := Nat.mul_le_mul_right _ (by omega)
    simp only [hor, List.length_cons, Nat.pow_succ]
    rw [Nat.add_mul] at h1
    rw [Nat.mul_comm (M ^ l.length) M]
    omega
theorem hor_cmp {M : Nat} : ∀ {a b : List Int}, a.length = b.length → (∀ x ∈ a, 0 ≤ x ∧ x < (M : Int)) → (∀ x ∈ b, 0 ≤ x ∧ x < (M : Int)) → cmpI a b < 0 → hor M a < hor M b
  | [], [], _, _, _, h => by simp [cmpI] at h
  | [], _ :: _, h, _, _, _ => by simp at h
  | _ :: _, [], h, _, _, _ => by simp at h
  | x :: l, y :: m, hl, ha, hb, h => by
    have hl' : l.length = m.length := by simpa using hl
    have h1 := hor_lt (M := M) (w := l) (fun z hz => ha z (List.mem_cons_of_mem _ hz))
    have hx := ha x (List.mem_cons_self ..)
    have hy := hb y (List.mem_cons_self ..)
    simp only [cmpI] at h
    simp only [hor]
    rw [← hl']
    by_cases c : x < y
    · have h2 : (x.toNat + 1) * M ^ l.length ≤ y.toNat * M ^ l.length := Nat.mul_le_mul_right _ (by omega)
      rw [Nat.add_mul] at h2
      omega
    · rw [if_neg c] at h
      by_cases d : y < x
      · rw [if_pos d] at h; omega
      · rw [if_neg d] at h
        have ih := hor_cmp hl' (fun z hz => ha z (List.mem_cons_of_mem _ hz)) (fun z hz => hb z (List.mem_cons_of_mem _ hz)) h
        obtain rfl : x = y := by omega
        omega
def codW (E : List Ed) (w : List Int) : Nat := ((cW E w).toNat * (E.length + 1) + w.length) * (E.length + 1) ^ E.length + hor (E.length + 1) w
def muW (E : List Ed) (w : List Int) : Nat := if w = [] then ((1099511627776 * E.length + 1) * (E.length + 1)) * (E.length + 1) ^ E.length else codW E w
theorem hor_le {E : List Ed} {w : List Int} (hl : w.length ≤ E.length) (h : ∀ x ∈ w, inR x E.length) : hor (E.length + 1) w < (E.length + 1) ^ E.length :=
  Nat.lt_of_lt_of_le (hor_lt (M := E.length + 1) (w := w) (fun x hx => by have := h x hx; exact ⟨this.1, by have := this.2; omega⟩)) (Nat.pow_le_pow_right (by omega) hl)
theorem cod_step {A A' P h h' : Nat} (hA : A + 1 ≤ A') (hh : h < P) : A * P + h < A' * P + h' := by
  have h1 : (A + 1) * P ≤ A' * P := Nat.mul_le_mul_right _ hA
  rw [Nat.add_mul] at h1
  omega
theorem cod_lt {E : List Ed} {w v : List Int} (hw : w.length ≤ E.length) (hv : v.length ≤ E.length) (iw : ∀ x ∈ w, inR x E.length) (iv : ∀ x ∈ v, inR x E.length) (cw : 0 ≤ cW E w) (cv : 0 ≤ cW E v) (h : ¬ wle E v w) : codW E w < codW E v := by
  unfold wle at h
  unfold codW
  by_cases c1 : cW E w < cW E v
  · refine cod_step ?_ (hor_le hw iw)
    have h1 : ((cW E w).toNat + 1) * (E.length + 1) ≤ (cW E v).toNat * (E.length + 1) := Nat.mul_le_mul_right _ (by omega)
    rw [Nat.add_mul] at h1
    omega
  · have e : cW E w = cW E v := by omega
    by_cases c2 : w.length < v.length
    · refine cod_step ?_ (hor_le hw iw)
      rw [e]; omega
    · have e2 : w.length = v.length := by omega
      have hf := cmpI_flip v w
      have := hor_cmp (M := E.length + 1) e2 (fun x hx => by have := iw x hx; exact ⟨this.1, by have := this.2; omega⟩) (fun x hx => by have := iv x hx; exact ⟨this.1, by have := this.2; omega⟩) (by omega)
      rw [e, e2]; omega
theorem cod_top {E : List Ed} {w : List Int} (hw : w.length ≤ E.length) (iw : ∀ x ∈ w, inR x E.length) (hC : ∀ k, inR k E.length → 0 ≤ costE E k ∧ costE E k ≤ 1099511627776) : codW E w < ((1099511627776 * E.length + 1) * (E.length + 1)) * (E.length + 1) ^ E.length := by
  have h1 := cW_le (E := E) (M := 1099511627776) (by omega) (fun k hk => (hC k hk).2) w iw
  have h0 := cW_nn (fun k hk => (hC k hk).1) iw
  have h2 : (cW E w).toNat ≤ 1099511627776 * E.length := by omega
  have h3 : (cW E w).toNat * (E.length + 1) ≤ (1099511627776 * E.length) * (E.length + 1) := Nat.mul_le_mul_right _ h2
  have := cod_step (A := (cW E w).toNat * (E.length + 1) + w.length) (A' := (1099511627776 * E.length + 1) * (E.length + 1)) (P := (E.length + 1) ^ E.length) (h := hor (E.length + 1) w) (h' := 0) (by rw [Nat.add_mul]; omega) (hor_le hw iw)
  unfold codW
  omega
theorem sum_set (f : List Int → Nat) : ∀ (l : List (List Int)) (b : Nat) (v : List Int), b < l.length → ((l.set b v).map f).sum + f (l.getD b []) = (l.map f).sum + f v
  | [], b, v, h => by simp at h
  | x :: l, 0, v, _ => by simp; omega
  | x :: l, b + 1, v, h => by
    have := sum_set f l b v (by simpa using h)
    simp only [List.set_cons_succ, List.map_cons, List.sum_cons, List.getD_cons_succ]
    omega
def mu (E : List Ed) (W : List (List Int)) : Nat := (W.map (muW E)).sum
theorem WI.less {E : List Ed} {B : List Pt} {s : Int} {W : List (List Int)} (h : WI E B s W) (hC : ∀ k, inR k E.length → 0 ≤ costE E k ∧ costE E k ≤ 1099511627776) {a b : Nat} (ha : a < E.length) (hb : b < E.length) (hne : W.getD a [] ≠ []) (hg : Goes E B (a : Int) (b : Int)) (hu : W.getD b [] = [] ∨ ¬ wle E (W.getD b []) (W.getD a [] ++ [(b : Int)])) :
    mu E (W.set b (W.getD a [] ++ [(b : Int)])) < mu E W := by
  have hn := h.set (fun k hk => (hC k hk).1) ha hb hne hg hu
  have hbW : b < W.length := by rw [h.len]; exact hb
  have e : (W.set b (W.getD a [] ++ [(b : Int)])).getD b [] = W.getD a [] ++ [(b : Int)] := by rw [gsetN, if_pos ⟨rfl, hbW⟩]
  have l1 := hn.sz b hb
  have m1 := hn.mem b hb
  rw [e] at l1 m1
  have hs := sum_set (muW E) W b (W.getD a [] ++ [(b : Int)]) hbW
  have hlt : muW E (W.getD a [] ++ [(b : Int)]) < muW E (W.getD b []) := by
    unfold muW
    rw [if_neg (by simp)]
    by_cases c : W.getD b [] = []
    · rw [if_pos c]; exact cod_top l1 m1 hC
    · rw [if_neg c]
      rcases hu with hu | hu
      · exact absurd hu c
      · exact cod_lt l1 (h.sz b hb) m1 (h.mem b hb) (cW_nn (fun k hk => (hC k hk).1) m1) (cW_nn (fun k hk => (hC k hk).1) (h.mem b hb)) hu
  unfold mu
  omega
end Go.Proofs.Ytpbmlhlpfbcnbaa.Rw

namespace Go.Proofs.Ytpbmlhlpfbcnbaa.Rw
open Go.Rx
set_option linter.unusedVariables false
set_option linter.unusedSimpArgs false
theorem pointOK_eq (k : Nat) (p : Pt) : f30 k p = some (decide (okP p), ()) := by
  have key : ∀ x : Int, (x = cut x ↔ -1048576 ≤ x ∧ x ≤ 1048576) := fun x => by
    have := cut_range x
    exact ⟨fun h => by omega, fun h => (cut_in h.1 h.2).symm⟩
  simp only [f30, f30_entry_B, f30_r1, f30_r1_B]
  have e : decide (okP p) = decide ((-1048576 ≤ p.1 ∧ p.1 ≤ 1048576) ∧ (-1048576 ≤ p.2 ∧ p.2 ≤ 1048576)) := decide_eq_decide.2 (by unfold okP; rw [key, key])
  rw [e]
  by_cases h1 : -1048576 ≤ p.1 <;> by_cases h2 : p.1 ≤ 1048576 <;> by_cases h3 : -1048576 ≤ p.2 <;> simp [h1, h2, h3]
theorem inS_eq (k : Nat) (i : Int) (n : Nat) : f109 k i (n : Int) = some (decide (inR i n), ()) := by
  simp only [f109, f109_entry_B, f109_r1, f109_r1_B, inR]
  by_cases h : 0 ≤ i <;> simp [h]
theorem flt_bans (N : List Pt) (E : List Ed) (B : List Pt) (hB : B.length ≤ 600) : ∀ (l pre : List Pt), pre ++ l = B →
    Ev2 (fun k n => f42_l6 k n N E B pre (B.length : Int) (pre.length : Int)) (banF E pre l, ())
  | [], pre, hpl => by
    subst hpl
    exact Ev2.step (g := fun _ _ => some (0, ())) (fun k n => by rw [f42_l6, f42_l6_B, if_neg (by simp)]) (Ev2.pure _)
  | b :: l, pre, hpl => by
    have ih := flt_bans N E B hB l (pre ++ [b]) (by simp [← hpl])
    have h0 : (0 : Int) ≤ (pre.length : Int) := by omega
    have h1 : (pre.length : Int) < (B.length : Int) := by rw [← hpl]; simp; omega
    have hg : B.getD ((pre.length : Int)).toNat (0, 0) = b := by rw [← hpl]; exact getD_mid
    have hw : w64 ((pre.length : Int) + 1) = (((pre ++ [b]).length : Nat) : Int) := by
      rw [w64_id (by omega) (by omega)]; simp
    have hbb : (b.1, b.2) = b := rfl
    have opn : ∀ k n, f42_l6 k (n + 1) N E B pre (B.length : Int) (pre.length : Int) = if inR b.1 E.length ∧ inR b.2 E.length then (if toE E b.1 = fromE E b.2 then (if b ∈ pre then some (5, ()) else f42_l6 k n N E B (pre ++ [b]) (B.length : Int) (((pre ++ [b]).length : Nat) : Int)) else some (9, ())) else some (1, ()) := fun k n => by
      rw [f42_l6, f42_l6_B, if_pos h1, if_pos h0, if_pos h1, hg]
      simp only [inS_eq, Option.bind_some, f42_c30, f42_c30_B, hw, hbb]
      by_cases c1 : inR b.1 E.length
      · by_cases c2 : inR b.2 E.length
        · have d1 := c1; have d2 := c2
          unfold inR at d1 d2
          simp only [c1, c2, and_self, decide_true, if_true, not_true_eq_false, if_false, decide_false, Bool.false_eq_true, if_pos d1.1, if_pos d1.2, if_pos d2.1, if_pos d2.2]
          by_cases c3 : toE E b.1 = fromE E b.2
          · have c3' : (E.getD b.1.toNat (0, (0, (0, 0)))).2.1 = (E.getD b.2.toNat (0, (0, (0, 0)))).1 := c3
            rw [if_neg (not_not_intro c3'), if_pos c3]
          · have c3' : ¬ (E.getD b.1.toNat (0, (0, (0, 0)))).2.1 = (E.getD b.2.toNat (0, (0, (0, 0)))).1 := c3
            rw [if_pos c3', if_neg c3]
        · simp only [c1, c2, and_false, decide_false, not_true_eq_false, if_false, decide_true, Bool.false_eq_true, not_false_eq_true, if_true]
      · simp only [c1, decide_false, false_and, not_false_eq_true, if_true, if_false, Bool.false_eq_true, decide_true]
    refine Ev2.step opn ?_
    simp only [banF]
    split
    · split
      · split
        · exact Ev2.pure _
        · exact ih
      · exact Ev2.pure _
    · exact Ev2.pure _
theorem flt_edges (N : List Pt) (E : List Ed) (B : List Pt) (hE : E.length ≤ 600) {res : Int × Unit} (hB : Ev (fun k => f42_l6 k k N E B [] (B.length : Int) 0) res) : ∀ (l pre : List Ed), pre ++ l = E →
    Ev2 (fun k n => f42_l3 k n N E B (E.length : Int) (pre.length : Int)) (if edF N.length l = 0 then res else (edF N.length l, ()))
  | [], pre, hpl => by
    subst hpl
    exact Ev2.step (fun k n => by rw [f42_l3, f42_l3_B, if_neg (by simp)]) (by simpa [edF] using hB.two)
  | e :: l, pre, hpl => by
    have ih := flt_edges N E B hE hB l (pre ++ [e]) (by simp [← hpl])
    have h0 : (0 : Int) ≤ (pre.length : Int) := by omega
    have h1 : (pre.length : Int) < (E.length : Int) := by rw [← hpl]; simp; omega
    have hg : E.getD ((pre.length : Int)).toNat (0, (0, (0, 0))) = e := by rw [← hpl]; exact getD_mid
    have hw : w64 ((pre.length : Int) + 1) = (((pre ++ [e]).length : Nat) : Int) := by
      rw [w64_id (by omega) (by omega)]; simp
    have opn : ∀ k n, f42_l3 k (n + 1) N E B (E.length : Int) (pre.length : Int) = if badE N.length e then some (1, ()) else if e.1 = e.2.1 then some (11, ()) else f42_l3 k n N E B (E.length : Int) (((pre ++ [e]).length : Nat) : Int) := fun k n => by
      rw [f42_l3, f42_l3_B, if_pos h1, if_pos h0, if_pos h1, hg]
      simp only [inS_eq, Option.bind_some, f42_c18, f42_c18_B, hw]
      unfold badE
      by_cases c1 : inR e.1 N.length <;> by_cases c2 : inR e.2.1 N.length <;> by_cases c3 : e.2.2.1 < 0 <;> by_cases c4 : 1099511627776 < e.2.2.1 <;> simp [c1, c2, c3, c4]
    refine Ev2.step opn ?_
    simp only [edF]
    by_cases c1 : badE N.length e
    · simp only [if_pos c1]; exact Ev2.pure _
    · simp only [if_neg c1]
      by_cases c2 : e.1 = e.2.1
      · simp only [if_pos c2]; exact Ev2.pure _
      · simp only [if_neg c2]; exact ih
theorem flt_nodes (N : List Pt) (E : List Ed) (B : List Pt) (hN : N.length ≤ 200) {res : Int × Unit} (hE : Ev (fun k => f42_l3 k k N E B (E.length : Int) 0) res) : ∀ (l pre : List Pt), pre ++ l = N →
    Ev2 (fun k n => f42_l0 k n N E B pre (N.length : Int) (pre.length : Int)) (if nodF pre l = 0 then res else (nodF pre l, ()))
  | [], pre, hpl => by
    subst hpl
    exact Ev2.step (fun k n => by rw [f42_l0, f42_l0_B, if_neg (by simp)]) (by simpa [nodF] using hE.two)
  | p :: l, pre, hpl => by
    have ih := flt_nodes N E B hN hE l (pre ++ [p]) (by simp [← hpl])
    have h0 : (0 : Int) ≤ (pre.length : Int) := by omega
    have h1 : (pre.length : Int) < (N.length : Int) := by rw [← hpl]; simp; omega
    have hg : N.getD ((pre.length : Int)).toNat (0, 0) = p := by rw [← hpl]; exact getD_mid
    have hpp : (p.1, p.2) = p := rfl
    have hw : w64 ((pre.length : Int) + 1) = (((pre ++ [p]).length : Nat) : Int) := by
      rw [w64_id (by omega) (by omega)]; simp
    have opn : ∀ k n, f42_l0 k (n + 1) N E B pre (N.length : Int) (pre.length : Int) = if okP p then (if p ∈ pre then some (5, ()) else f42_l0 k n N E B (pre ++ [p]) (N.length : Int) (((pre ++ [p]).length : Nat) : Int)) else some (1, ()) := fun k n => by
      rw [f42_l0, f42_l0_B, if_pos h1, if_pos h0, if_pos h1, hg]
      simp only [pointOK_eq, Option.bind_some, hw, hpp]
      by_cases c1 : okP p
      · simp only [decide_eq_true c1, not_true_eq_false, if_false, if_pos c1]
      · simp only [decide_eq_false c1, Bool.false_eq_true, not_false_eq_true, if_true, if_neg c1]
    refine Ev2.step opn ?_
    simp only [nodF]
    by_cases c1 : okP p
    · simp only [if_pos c1]
      by_cases c2 : p ∈ pre
      · simp only [if_pos c2]; exact Ev2.pure _
      · simp only [if_neg c2]; exact ih
    · simp only [if_neg c1]; exact Ev2.pure _
theorem flt_ev (n : Nt) : Ev (fun k => f42 k n) (netF n, ()) := by
  obtain ⟨N, E, B⟩ := n
  unfold netF
  simp only [f42, f42_entry_B, f42_r1, f42_r1_B]
  by_cases h1 : 200 < (N.length : Int)
  · rw [if_pos (.inl h1)]; exact Ev.of (fun k => by rw [if_pos h1]; rfl) (Ev.pure _)
  · by_cases h2 : 600 < (E.length : Int)
    · rw [if_pos (.inr (.inl h2))]; exact Ev.of (fun k => by rw [if_neg h1, if_pos h2]; rfl) (Ev.pure _)
    · by_cases h3 : 600 < (B.length : Int)
      · rw [if_pos (.inr (.inr h3))]; exact Ev.of (fun k => by rw [if_neg h1, if_neg h2, decide_eq_true h3]; rfl) (Ev.pure _)
      · rw [if_neg (by omega)]
        have kB := (flt_bans N E B (by omega) B [] rfl).diag
        have kE := (flt_edges N E B (by omega) kB E [] rfl).diag
        have kN := (flt_nodes N E B (by omega) kE N [] rfl).diag
        have e : (if nodF [] N = 0 then (if edF N.length E = 0 then (banF E [] B, ()) else (edF N.length E, ())) else (nodF [] N, ()) : Int × Unit) = (if nodF [] N = 0 then (if edF N.length E = 0 then banF E [] B else edF N.length E) else nodF [] N, ()) := by
          repeat' split
          all_goals rfl
        rw [e] at kN
        exact Ev.of (fun k => by rw [if_neg h1, if_neg h2, decide_eq_false h3]; rfl) kN
end Go.Proofs.Ytpbmlhlpfbcnbaa.Rw

namespace Go.Proofs.Ytpbmlhlpfbcnbaa.Rw
open Go.Rx
set_option linter.unusedVariables false
set_option linter.unusedSimpArgs false
theorem turnOK_loop (a b : Int) : ∀ (l pre : List Pt), ((pre ++ l).length : Int) ≤ 1000000 → Ev2 (fun k n => f111_l0 k n a b (pre ++ l) ((pre ++ l).length : Int) (pre.length : Int)) (decide ((a, b) ∉ l), ())
  | [], pre, hl => Ev2.step (g := fun _ _ => some (true, ())) (fun k n => by rw [f111_l0, f111_l0_B, if_neg (by simp)]) (by simpa using Ev2.pure _)
  | x :: l, pre, hl => by
    have h0 : (0 : Int) ≤ (pre.length : Int) := by omega
    have h1 : (pre.length : Int) < ((pre ++ x :: l).length : Int) := by simp; omega
    have hw : w64 ((pre.length : Int) + 1) = (((pre ++ [x]).length : Nat) : Int) := by
      rw [w64_id (by omega) (by simp at hl; omega)]; simp
    by_cases hx : x.1 = a ∧ x.2 = b
    · refine Ev2.step (g := fun _ _ => some (false, ())) (fun k n => ?_) ?_
      · rw [f111_l0, f111_l0_B, if_pos h1, if_pos h0, if_pos h1, getD_mid]
        simp only [hx.1, hx.2, if_true, decide_true, f111_r6, f111_r6_B]
      · rw [show decide ((a, b) ∉ x :: l) = false from decide_eq_false (fun z => z (by rw [show (a, b) = x by ext <;> simp [hx.1, hx.2]]; simp))]
        exact Ev2.pure _
    · have hne : (a, b) ≠ x := fun z => hx ⟨by rw [← z], by rw [← z]⟩
      have ih := turnOK_loop a b l (pre ++ [x]) (by simpa using hl)
      rw [show pre ++ [x] ++ l = pre ++ x :: l by simp] at ih
      rw [show decide ((a, b) ∉ x :: l) = decide ((a, b) ∉ l) from decide_eq_decide.2 (by simp [hne])]
      refine Ev2.step (fun k n => ?_) ih
      rw [f111_l0, f111_l0_B, if_pos h1, if_pos h0, if_pos h1, getD_mid]
      by_cases g : x.1 = a
      · have g2 : ¬ x.2 = b := fun z => hx ⟨g, z⟩
        simp only [g, g2, if_true, decide_false, f111_r6, f111_r6_B, Bool.false_eq_true, if_false, hw]
      · simp only [g, if_false, f111_r6, f111_r6_B, Bool.false_eq_true, hw]
theorem turnOK_ev (N : List Pt) (E : List Ed) (B : List Pt) (hB : B.length ≤ 1000000) (a b : Int) : Ev (fun k => f111 k (N, (E, B)) a b) (turnF E B a b, ()) := by
  have hloop := (turnOK_loop a b B [] (by simp; omega)).diag
  simp only [f111, f111_entry_B, f111_r1, f111_r1_B, turnF, inR]
  by_cases a0 : a < 0
  · have : ¬ 0 ≤ a := by omega
    simp only [a0, this, if_true, false_and, decide_false]; exact Ev.pure _
  · by_cases b0 : b < 0
    · have : ¬ 0 ≤ b := by omega
      simp only [a0, b0, this, if_false, if_true, false_and, and_false, decide_false]; exact Ev.pure _
    · by_cases a1 : (E.length : Int) ≤ a
      · have : ¬ a < (E.length : Int) := by omega
        simp only [a0, b0, a1, this, if_false, if_true, false_and, and_false, decide_false]; exact Ev.pure _
      · by_cases b1 : (E.length : Int) ≤ b
        · have : ¬ b < (E.length : Int) := by omega
          simp only [a0, b0, a1, b1, this, if_false, if_true, false_and, and_false, decide_false]; exact Ev.pure _
        · have q1 : 0 ≤ a := by omega
          have q2 : a < (E.length : Int) := by omega
          have q3 : 0 ≤ b := by omega
          have q4 : b < (E.length : Int) := by omega
          by_cases c3 : toE E a = fromE E b
          · have c3' : (E.getD a.toNat (0, (0, (0, 0)))).2.1 = (E.getD b.toNat (0, (0, (0, 0)))).1 := c3
            simp only [a0, b0, a1, b1, q1, q2, q3, q4, c3', c3, if_false, if_true, not_true_eq_false, decide_false, Bool.false_eq_true, true_and, and_self]
            exact hloop
          · have c3' : ¬ (E.getD a.toNat (0, (0, (0, 0)))).2.1 = (E.getD b.toNat (0, (0, (0, 0)))).1 := c3
            simp only [a0, b0, a1, b1, q1, q2, q3, q4, c3', c3, if_false, if_true, not_false_eq_true, decide_true, true_and, false_and, decide_false]
            exact Ev.pure _
end Go.Proofs.Ytpbmlhlpfbcnbaa.Rw

namespace Go.Proofs.Ytpbmlhlpfbcnbaa.Rw
open Go.Rx
set_option linter.unusedVariables false
set_option linter.unusedSimpArgs false
/-- Three kinds of rounds around, one within. -/
def Ev4 {α : Type} (f : Nat → Nat → Nat → Nat → Option α) (r : α) : Prop := ∃ K, ∀ k n m p, K ≤ k → K ≤ n → K ≤ m → K ≤ p → f k n m p = some r
theorem Ev4.stepE {α : Type} {f g : Nat → Nat → Nat → Nat → Option α} {r : α} (K : Nat) (h : ∀ k n m p, K ≤ k → f k n m (p + 1) = g k n m p) (hg : Ev4 g r) : Ev4 f r := by
  obtain ⟨K', hK⟩ := hg
  refine ⟨max K K' + 1, fun k n m p hk hn hm hp => ?_⟩
  cases p with
  | zero => omega
  | succ p => rw [h k n m p (by omega)]; exact hK k n m p (by omega) (by omega) (by omega) (by omega)
theorem Ev4.in_ {α : Type} {f : Nat → Nat → Nat → Nat → Option α} {r : α} (h : Ev4 f r) : Ev3 (fun k n m => f k n m k) r := by
  obtain ⟨K, hK⟩ := h; exact ⟨K, fun k n m hk hn hm => hK k n m k hk hn hm hk⟩
theorem _root_.Go.Rx.Ev3.four {α : Type} {f : Nat → Nat → Nat → Option α} {r : α} (h : Ev3 f r) : Ev4 (fun k n m _ => f k n m) r := by
  obtain ⟨K, hK⟩ := h; exact ⟨K, fun k n m p hk hn hm _ => hK k n m hk hn hm⟩
theorem refBefore_ev {E : List Ed} (a b : List Int) (ha : (a.length : Int) ≤ 1073741824) : Ev (fun k => f102 k (cW E a, a) (cW E b, b)) (!decide (wle E b a), ()) := by
  simp only [f102, f102_entry_B]
  by_cases c1 : cW E a = cW E b
  · by_cases c2 : (a.length : Int) = (b.length : Int)
    · refine Ev.of (fun k => by rw [if_neg (fun z => z c1), if_neg (fun z => z c2)]) ?_
      refine (cmp_ev a b ha).bind ?_
      have hf := cmpI_flip a b
      have e : (!decide (wle E b a)) = decide (cmpI a b < 0) := by
        rw [← decide_not]
        refine decide_eq_decide.2 ?_
        unfold wle
        omega
      rw [e]
      exact Ev.pure _
    · refine Ev.of (fun k => by rw [if_neg (fun z => z c1), if_pos c2]) ?_
      have e : (!decide (wle E b a)) = decide ((a.length : Int) < (b.length : Int)) := by
        rw [← decide_not]
        refine decide_eq_decide.2 ?_
        unfold wle
        omega
      rw [e]
      exact Ev.pure _
  · refine Ev.of (fun k => by rw [if_pos c1]) ?_
    have e : (!decide (wle E b a)) = decide (cW E a < cW E b) := by
      rw [← decide_not]
      refine decide_eq_decide.2 ?_
      unfold wle
      omega
    rw [e]
    exact Ev.pure _
/-- The row of the program. -/
abbrev rowE (E : List Ed) (W : List (List Int)) : List (Int × List Int) := W.map (fun w => (cW E w, w))
theorem rowE_at (E : List Ed) (W : List (List Int)) (i : Nat) : (rowE E W).getD i (0, []) = (cW E (W.getD i []), W.getD i []) := by
  unfold rowE
  rw [List.getD_eq_getElem?_getD, List.getD_eq_getElem?_getD, List.getElem?_map]
  cases W[i]? with
  | none => rfl
  | some w => rfl
theorem rowE_set (E : List Ed) (W : List (List Int)) (i : Nat) (w : List Int) : (rowE E W).set i (cW E w, w) = rowE E (W.set i w) := by
  unfold rowE
  rw [List.map_set]
/-- What is known within a pass over all pairs of edges. -/
def PI (E : List Ed) (B : List Pt) (W0 W : List (List Int)) (fl : Bool) (a b : Nat) : Prop :=
  (fl = true ∧ mu E W < mu E W0) ∨ (fl = false ∧ W = W0 ∧ ∀ a' b', a' < E.length → b' < E.length → a' < a ∨ (a' = a ∧ b' < b) → Cl E B W0 a' b')
theorem PI.skip {E : List Ed} {B : List Pt} {W0 W : List (List Int)} {fl : Bool} {a b : Nat} (h : PI E B W0 W fl a b) (hc : Cl E B W a b) : PI E B W0 W fl a (b + 1) := by
  rcases h with h | ⟨h1, h2, h3⟩
  · exact .inl h
  · refine .inr ⟨h1, h2, fun a' b' ha hb h => ?_⟩
    by_cases e : a' = a ∧ b' = b
    · rw [e.1, e.2, ← h2]; exact hc
    · exact h3 a' b' ha hb (by omega)
theorem PI.next {E : List Ed} {B : List Pt} {W0 W : List (List Int)} {fl : Bool} {a : Nat} (h : PI E B W0 W fl a E.length) : PI E B W0 W fl (a + 1) 0 := by
  rcases h with h | ⟨h1, h2, h3⟩
  · exact .inl h
  · exact .inr ⟨h1, h2, fun a' b' ha hb h => h3 a' b' ha hb (by omega)⟩
theorem PI.moved {E : List Ed} {B : List Pt} {W0 W W' : List (List Int)} {fl : Bool} {a b a' b' : Nat} (h : PI E B W0 W fl a b) (hm : mu E W' < mu E W) : PI E B W0 W' true a' b' := by
  rcases h with h | ⟨h1, h2, h3⟩
  · exact .inl ⟨rfl, by omega⟩
  · exact .inl ⟨rfl, by rw [← h2]; exact hm⟩
theorem dec_b (b : Bool) : decide (b = true) = b := by cases b <;> rfl
section
variable {N B : List Pt} {E : List Ed} {s : Int} {res : (List (Int × List Int)) × Unit}
theorem ways_b (hE : E.length ≤ 600) (hB : B.length ≤ 1000000) (hC : CostOK E) {W0 : List (List Int)} {a : Nat} (ha : a < E.length)
    (hc : ∀ W' fl', WI E B s W' → PI E B W0 W' fl' (a + 1) 0 → Ev3 (fun k n m => f48_l4 k (f48_l2 k n) m (rowE E W') N E B (E.length : Int) ((a + 1 : Nat) : Int) fl') res) :
    ∀ (d b : Nat) (W : List (List Int)) (fl : Bool), b + d = E.length → WI E B s W → PI E B W0 W fl a b →
    Ev4 (fun k n m p => f48_l6 k (f48_l4 k (f48_l2 k n) m) (f48_l2 k n) p (rowE E W) N E B (E.length : Int) (a : Int) (E.length : Int) (b : Int) fl) res
  | 0, b, W, fl, hd, hW, hP => by
    have e : b = E.length := by omega
    subst e
    refine Ev4.stepE 0 (fun k n m p _ => ?_) (hc W fl hW hP.next).four
    rw [f48_l6, f48_l6_B, if_neg (by omega), w64_id (by omega) (by omega), dec_b]
    rfl
  | d + 1, b, W, fl, hd, hW, hP => by
    have hb : b < E.length := by omega
    have b0 : (0 : Int) ≤ (b : Int) := by omega
    have b1 : (b : Int) < (E.length : Int) := by omega
    have a0 : (0 : Int) ≤ (a : Int) := by omega
    have hl : (rowE E W).length = E.length := by rw [List.length_map]; exact hW.len
    have a1 : (a : Int) < ((rowE E W).length : Int) := by omega
    have b2 : (b : Int) < ((rowE E W).length : Int) := by omega
    have hw : w64 ((b : Int) + 1) = ((b + 1 : Nat) : Int) := by rw [w64_id (by omega) (by omega)]; omega
    have hbW : b < W.length := by rw [hW.len]; exact hb
    have b7 : ∀ k r4 r2 r6 Y f, f48_b7 k r6 r4 r2 Y N E B (E.length : Int) (a : Int) (E.length : Int) (b : Int) f = r6 Y N E B (E.length : Int) (a : Int) (E.length : Int) ((b + 1 : Nat) : Int) f := fun k r4 r2 r6 Y f => by
      rw [f48_b7, f48_b7_B, hw, dec_b]
    have pre : ∀ k r4 r2 p, f48_l6 k r4 r2 (p + 1) (rowE E W) N E B (E.length : Int) (a : Int) (E.length : Int) (b : Int) fl = (if ((W.getD a []).length : Int) = 0 then f48_r17 k (f48_l6 k r4 r2 p) r4 r2 ((E.getD b zE).1) ((E.getD b zE).2.1) (costE E (b : Int)) ((E.getD b zE).2.2.2) (rowE E W) N E B (b : Int) (E.length : Int) (a : Int) (E.length : Int) true fl else (f111 k (N, (E, B)) (a : Int) (b : Int)).bind fun r1 => f48_r17 k (f48_l6 k r4 r2 p) r4 r2 ((E.getD b zE).1) ((E.getD b zE).2.1) (costE E (b : Int)) ((E.getD b zE).2.2.2) (rowE E W) N E B (b : Int) (E.length : Int) (a : Int) (E.length : Int) (decide (¬ (r1.1 = true))) fl) := fun k r4 r2 p => by
      rw [f48_l6, f48_l6_B, if_pos b1, if_pos b0, if_pos b1, if_pos a0, if_pos a1]
      simp only [Int.toNat_natCast, rowE_at, dec_b]
      rfl
    by_cases c1 : W.getD a [] = []
    · have ih := ways_b hE hB hC ha hc d (b + 1) W fl (by omega) hW (hP.skip (fun z => absurd c1 z))
      refine Ev4.stepE 0 (fun k n m p _ => ?_) ih
      rw [pre, if_pos (by rw [c1]; rfl), f48_r17, f48_r17_B, if_pos rfl, dec_b, b7]
    · have hne : ¬ ((W.getD a []).length : Int) = 0 := fun z => c1 (List.length_eq_zero_iff.1 (by omega))
      obtain ⟨K, hK⟩ := turnOK_ev N E B hB (a : Int) (b : Int)
      by_cases c2 : Goes E B (a : Int) (b : Int)
      · have ht : turnF E B (a : Int) (b : Int) = true := decide_eq_true ⟨⟨a0, by omega⟩, c2⟩
        rw [ht] at hK
        have hca := hW.sz a ha
        have hcm := hW.mem a ha
        have hc0 := cW_nn (fun k hk => (hC k hk).1) hcm
        have hc1 := cW_le (E := E) (M := 1099511627776) (by omega) (fun k hk => (hC k hk).2) _ hcm
        have hcb := hC (b : Int) ⟨b0, b1⟩
        have hsum : w64 (cW E (W.getD a []) + costE E (b : Int)) = cW E (W.getD a [] ++ [(b : Int)]) := by
          rw [w64_id (by omega) (by omega), cW_app, cW_one]
        -- the two ends
        have r19t : ∀ k r4 r2 r6, f48_r19 k r6 r4 r2 (cW E (W.getD a [] ++ [(b : Int)])) (rowE E W) N E B (W.getD a [] ++ [(b : Int)]) (b : Int) (E.length : Int) (a : Int) (E.length : Int) fl true = r6 (rowE E (W.set b (W.getD a [] ++ [(b : Int)]))) N E B (E.length : Int) (a : Int) (E.length : Int) ((b + 1 : Nat) : Int) true := fun k r4 r2 r6 => by
          rw [f48_r19, f48_r19_B, if_pos rfl, if_pos b0, if_pos b2, f48_c20, f48_c20_B, b7, Int.toNat_natCast, rowE_set]
          rfl
        have r19f : ∀ k r4 r2 r6, f48_r19 k r6 r4 r2 (cW E (W.getD a [] ++ [(b : Int)])) (rowE E W) N E B (W.getD a [] ++ [(b : Int)]) (b : Int) (E.length : Int) (a : Int) (E.length : Int) fl false = r6 (rowE E W) N E B (E.length : Int) (a : Int) (E.length : Int) ((b + 1 : Nat) : Int) fl := fun k r4 r2 r6 => by
          rw [f48_r19, f48_r19_B, if_neg (by simp), f48_c20, f48_c20_B, b7, dec_b, dec_b]
        have r17 : ∀ k r4 r2 r6, f48_r17 k r6 r4 r2 ((E.getD b zE).1) ((E.getD b zE).2.1) (costE E (b : Int)) ((E.getD b zE).2.2.2) (rowE E W) N E B (b : Int) (E.length : Int) (a : Int) (E.length : Int) false fl = (if ((W.getD b []).length : Int) = 0 then f48_r19 k r6 r4 r2 (cW E (W.getD a [] ++ [(b : Int)])) (rowE E W) N E B (W.getD a [] ++ [(b : Int)]) (b : Int) (E.length : Int) (a : Int) (E.length : Int) fl true else (f102 k (cW E (W.getD a [] ++ [(b : Int)]), W.getD a [] ++ [(b : Int)]) (cW E (W.getD b []), W.getD b [])).bind fun r2_ => f48_r19 k r6 r4 r2 (cW E (W.getD a [] ++ [(b : Int)])) (rowE E W) N E B (W.getD a [] ++ [(b : Int)]) (b : Int) (E.length : Int) (a : Int) (E.length : Int) fl r2_.1) := fun k r4 r2 r6 => by
          rw [f48_r17, f48_r17_B, if_neg (by simp), if_pos a0, if_pos a1, if_pos a0, if_pos a1]
          simp only [Int.toNat_natCast, rowE_at, dec_b, hsum]
          rw [clone_eq k (W.getD a []) (by omega), Option.bind_some, if_pos (show ((W.getD a []).length + 1) * 8 ≤ 140737488355328 by omega), if_pos b0, if_pos b2, if_pos b0, if_pos b2]
        by_cases c3 : W.getD b [] = []
        · have ih := ways_b hE hB hC ha hc d (b + 1) _ true (by omega) (hW.set (fun k hk => (hC k hk).1) ha hb c1 c2 (.inl c3)) (hP.moved (hW.less hC ha hb c1 c2 (.inl c3)))
          refine Ev4.stepE K (fun k n m p hk => ?_) ih
          have hk' := hK k hk
          simp only at hk'
          rw [pre, if_neg hne, hk', Option.bind_some, dec_not_f rfl, r17, if_pos (by rw [c3]; rfl), r19t]
        · have hne3 : ¬ ((W.getD b []).length : Int) = 0 := fun z => c3 (List.length_eq_zero_iff.1 (by omega))
          obtain ⟨K2, hK2⟩ := refBefore_ev (E := E) (W.getD a [] ++ [(b : Int)]) (W.getD b []) (by rw [List.length_append]; simp only [List.length_singleton]; omega)
          by_cases c4 : wle E (W.getD b []) (W.getD a [] ++ [(b : Int)])
          · have ih := ways_b hE hB hC ha hc d (b + 1) W fl (by omega) hW (hP.skip (fun _ _ => ⟨c3, c4⟩))
            refine Ev4.stepE (max K K2) (fun k n m p hk => ?_) ih
            have hk' := hK k (by omega)
            have hk2 := hK2 k (by omega)
            simp only at hk' hk2
            rw [pre, if_neg hne, hk', Option.bind_some, dec_not_f rfl, r17, if_neg hne3, hk2, Option.bind_some, decide_eq_true c4, Bool.not_true, r19f]
          · have ih := ways_b hE hB hC ha hc d (b + 1) _ true (by omega) (hW.set (fun k hk => (hC k hk).1) ha hb c1 c2 (.inr c4)) (hP.moved (hW.less hC ha hb c1 c2 (.inr c4)))
            refine Ev4.stepE (max K K2) (fun k n m p hk => ?_) ih
            have hk' := hK k (by omega)
            have hk2 := hK2 k (by omega)
            simp only at hk' hk2
            rw [pre, if_neg hne, hk', Option.bind_some, dec_not_f rfl, r17, if_neg hne3, hk2, Option.bind_some, decide_eq_false c4, Bool.not_false, r19t]
      · have ht : turnF E B (a : Int) (b : Int) = false := decide_eq_false (fun z => c2 z.2)
        rw [ht] at hK
        have ih := ways_b hE hB hC ha hc d (b + 1) W fl (by omega) hW (hP.skip (fun _ z => absurd z c2))
        refine Ev4.stepE K (fun k n m p hk => ?_) ih
        have hk' := hK k hk
        simp only at hk'
        rw [pre, if_neg hne, hk', Option.bind_some, dec_not_t (by simp), f48_r17, f48_r17_B, if_pos rfl, dec_b, b7]
theorem ways_a (hE : E.length ≤ 600) (hB : B.length ≤ 1000000) (hC : CostOK E) {W0 : List (List Int)}
    (hc : ∀ W' fl', WI E B s W' → PI E B W0 W' fl' E.length 0 → Ev2 (fun k n => f48_l2 k n (rowE E W') N E B fl') res) :
    ∀ (d a : Nat) (W : List (List Int)) (fl : Bool), a + d = E.length → WI E B s W → PI E B W0 W fl a 0 →
    Ev3 (fun k n m => f48_l4 k (f48_l2 k n) m (rowE E W) N E B (E.length : Int) (a : Int) fl) res
  | 0, a, W, fl, hd, hW, hP => by
    have e : a = E.length := by omega
    subst e
    refine Ev3.step (g := fun k n _ => f48_l2 k n (rowE E W) N E B fl) (fun k n m => ?_) (hc W fl hW hP).three
    rw [f48_l4, f48_l4_B, if_neg (by omega), dec_b]
  | d + 1, a, W, fl, hd, hW, hP => by
    have := (ways_b (N := N) (res := res) hE hB hC (W0 := W0) (a := a) (by omega) (fun W' fl' h1 h2 => ways_a hE hB hC hc d (a + 1) W' fl' (by omega) h1 h2) E.length 0 W fl (by omega) hW hP).in_
    refine Ev3.step (fun k n m => ?_) this
    rw [f48_l4, f48_l4_B, if_pos (by omega), dec_b]
    rfl
theorem ways_l2 (hE : E.length ≤ 600) (hB : B.length ≤ 1000000) (hC : CostOK E) {Wo : List (List Int)} (ho : Opt E B s Wo) : ∀ (d : Nat) (W : List (List Int)), mu E W < d → WI E B s W →
    Ev2 (fun k n => f48_l2 k n (rowE E W) N E B true) (rowE E Wo, ())
  | 0, W, hd, hW => by omega
  | d + 1, W, hd, hW => by
    have := (ways_a (N := N) (res := (rowE E Wo, ())) hE hB hC (W0 := W) (fun W' fl' h1 h2 => by
      rcases h2 with ⟨h2, h3⟩ | ⟨h2, h3, h4⟩
      · rw [h2]
        exact ways_l2 hE hB hC ho d W' (by omega) h1
      · rw [h2, h3]
        have e : W = Wo := (hW.opt (fun a b ha hb => h4 a b ha hb (.inl ha))).one ho
        rw [e]
        refine Ev2.step (g := fun _ _ => some (rowE E Wo, ())) (fun k n => ?_) (Ev2.pure _)
        rw [f48_l2, f48_l2_B, if_neg (by simp)]) E.length 0 W false (by omega) hW (.inr ⟨rfl, rfl, fun a' b' _ _ h => by omega⟩)).in_
    refine Ev2.step (fun k n => ?_) this
    rw [f48_l2, f48_l2_B, if_pos rfl]
    rfl
theorem ways_l0 (hE : E.length ≤ 600) (hB : B.length ≤ 1000000) (hC : CostOK E) {Wo : List (List Int)} (ho : Opt E B s Wo) : ∀ (d i : Nat) (W : List (List Int)), i + d = E.length → W.length = E.length → (∀ j, j < E.length → W.getD j [] = if j < i ∧ fromE E (j : Int) = s then [(j : Int)] else []) →
    Ev2 (fun k n => f48_l0 k n (rowE E W) N E B s (E.length : Int) (i : Int)) (rowE E Wo, ())
  | 0, i, W, hd, hl, hW => by
    have e : i = E.length := by omega
    subst e
    have hWI : WI E B s W := by
      refine ⟨hl, fun j hj hn => ?_, fun j hj p x q e => ?_, fun j hj hs => ?_⟩
      · have := hW j hj
        by_cases c : fromE E (j : Int) = s
        · rw [if_pos ⟨hj, c⟩] at this
          rw [this]
          exact ⟨.one _ ⟨by omega, by omega⟩ c, by simp⟩
        · rw [if_neg (fun z => c z.2)] at this
          exact absurd this hn
      · have h := hW j hj
        by_cases c : fromE E (j : Int) = s
        · rw [if_pos ⟨hj, c⟩] at h
          rw [h] at e
          obtain ⟨rfl, rfl, rfl⟩ : p = [] ∧ x = (j : Int) ∧ q = [] := by
            cases p with
            | nil => simp at e; exact ⟨rfl, e.1.symm, e.2⟩
            | cons y p => simp at e
          rw [Int.toNat_natCast, h]
          exact ⟨by simp, wle_refl _ _⟩
        · rw [if_neg (fun z => c z.2)] at h
          rw [h] at e
          simp at e
      · rw [hW j hj, if_pos ⟨hj, hs⟩]
        exact ⟨by simp, wle_refl _ _⟩
    refine Ev2.step (fun k n => ?_) (ways_l2 (N := N) hE hB hC ho (mu E W + 1) W (by omega) hWI).diag.two
    rw [f48_l0, f48_l0_B, if_neg (by omega)]
  | d + 1, i, W, hd, hl, hW => by
    have hi : i < E.length := by omega
    have i0 : (0 : Int) ≤ (i : Int) := by omega
    have i1 : (i : Int) < (E.length : Int) := by omega
    have i2 : (i : Int) < ((rowE E W).length : Int) := by rw [List.length_map]; omega
    have hw : w64 ((i : Int) + 1) = ((i + 1 : Nat) : Int) := by rw [w64_id (by omega) (by omega)]; omega
    have hf : (E.getD ((i : Int)).toNat (0, (0, (0, 0)))).1 = fromE E (i : Int) := rfl
    have hc : (E.getD ((i : Int)).toNat (0, (0, (0, 0)))).2.2.1 = cW E [(i : Int)] := by rw [cW_one]; rfl
    by_cases c : fromE E (i : Int) = s
    · have ih := ways_l0 hE hB hC ho d (i + 1) (W.set i [(i : Int)]) (by omega) (by simpa using hl) (fun j hj => by
        rw [gsetN]
        by_cases e : i = j
        · subst e; rw [if_pos ⟨rfl, by omega⟩, if_pos ⟨by omega, c⟩]
        · rw [if_neg (fun z => e z.1), hW j hj]
          by_cases e2 : j < i ∧ fromE E (j : Int) = s
          · rw [if_pos e2, if_pos ⟨by omega, e2.2⟩]
          · rw [if_neg e2, if_neg (fun z => e2 ⟨by omega, z.2⟩)])
      refine Ev2.step (fun k n => ?_) ih
      rw [f48_l0, f48_l0_B, if_pos i1, if_pos i0, if_pos i1, hf, if_pos c, if_pos i0, if_pos i2, hc, Int.toNat_natCast, rowE_set, f48_c6, f48_c6_B, hw]
    · have ih := ways_l0 hE hB hC ho d (i + 1) W (by omega) hl (fun j hj => by
        rw [hW j hj]
        by_cases e2 : j < i ∧ fromE E (j : Int) = s
        · rw [if_pos e2, if_pos ⟨by omega, e2.2⟩]
        · rw [if_neg e2, if_neg (fun z => e2 ⟨by
            by_cases e : j = i
            · subst e; exact absurd z.2 c
            · omega, z.2⟩)])
      refine Ev2.step (fun k n => ?_) ih
      rw [f48_l0, f48_l0_B, if_pos i1, if_pos i0, if_pos i1, hf, if_neg c, f48_c6, f48_c6_B, hw]
end
theorem ways_ev {N B : List Pt} {E : List Ed} {s : Int} (hv : netF (N, (E, B)) = 0) {Wo : List (List Int)} (ho : Opt E B s Wo) : Ev (fun k => f48 k (N, (E, B)) s) (rowE E Wo, ()) := by
  have hV := netV_of hv
  have hE := hV.n2
  have := (ways_l0 (N := N) hE (by have := hV.n3; omega) hV.cost ho E.length 0 (List.replicate E.length []) (by omega) (by simp) (fun j hj => by
    rw [if_neg (fun z => by omega), List.getD_eq_getElem?_getD, List.getElem?_replicate]; split <;> rfl)).diag
  refine Ev.of (fun k => ?_) this
  rw [f48, f48_entry_B, if_pos (show (0 : Int) ≤ (E.length : Int) by omega), if_pos (show (E.length : Int) ≤ 1073741824 by omega), Int.toNat_natCast]
  congr 1
  unfold rowE
  rw [List.map_replicate]
  rfl
end Go.Proofs.Ytpbmlhlpfbcnbaa.Rw

namespace Go.Proofs.Ytpbmlhlpfbcnbaa.Rw
open Go.Rx
set_option linter.unusedVariables false
set_option linter.unusedSimpArgs false
theorem equal_loop : ∀ (x p : List Int), (p ++ x).length ≤ 1073741824 → Ev2 (fun k n => f20_l0 k n (p ++ x) (p ++ x) ((p ++ x).length : Int) (p.length : Int)) (true, ())
  | [], p, hl => Ev2.step (g := fun _ _ => some (true, ())) (fun k n => by rw [f20_l0, f20_l0_B, if_neg (by simp)]) (Ev2.pure _)
  | a :: x, p, hl => by
    have h0 : (0 : Int) ≤ (p.length : Int) := by omega
    have h1 : (p.length : Int) < ((p ++ a :: x).length : Int) := by simp; omega
    have hw : w64 ((p.length : Int) + 1) = (((p ++ [a]).length : Nat) : Int) := by
      rw [w64_id (by omega) (by simp at hl; omega)]; simp
    have ih := equal_loop x (p ++ [a]) (by simpa using hl)
    rw [show p ++ [a] ++ x = p ++ a :: x by simp] at ih
    refine Ev2.step (fun k n => ?_) ih
    rw [f20_l0, f20_l0_B, if_pos h1, if_pos h0, if_pos h1, if_pos h0, if_pos h1, if_neg (by simp), hw]
theorem equal_ev (l : List Int) (hl : l.length ≤ 1073741824) : Ev (fun k => f20 k l l) (true, ()) := by
  have h := (equal_loop l [] (by simpa using hl)).diag
  refine Ev.of (fun k => ?_) h
  simp only [f20, f20_entry_B, not_true_eq_false, if_false]
  rfl
end Go.Proofs.Ytpbmlhlpfbcnbaa.Rw

namespace Go.Proofs.Ytpbmlhlpfbcnbaa.Rw
open Go.Rx
set_option linter.unusedVariables false
set_option linter.unusedSimpArgs false
theorem routedL_true (j : Nat) : f36 (j + 60) = some (true, ()) := by kernel_rfl
theorem nodes_loop4 {N B : List Pt} {E : List Ed} (hN : netF (N, (E, B)) = 0 → N.length ≤ 1000) : ∀ (rest pre L : List Int) (f : Int), pre ++ rest = L → L.length ≤ 1000 → f = (if netF (N, (E, B)) = 0 then (if ∀ x ∈ pre, inR x N.length then 0 else 1) else netF (N, (E, B))) →
    Ev2 (fun k n => f34_l0 k n N E B L (L.length : Int) (pre.length : Int) f) (vldF (N, (E, B)) L, ())
  | [], pre, L, f, hpl, hL, hf => by
    have e : pre = L := by simpa using hpl
    subst e
    refine Ev2.step (g := fun _ _ => some (f, ())) (fun k n => ?_) (by rw [hf]; exact Ev2.pure _)
    rw [f34_l0, f34_l0_B, if_neg (by omega)]
  | x :: rest, pre, L, f, hpl, hL, hf => by
    have i0 : (0 : Int) ≤ (pre.length : Int) := by omega
    have hlt : pre.length < L.length := by rw [← hpl]; simp
    have i1 : (pre.length : Int) < (L.length : Int) := by omega
    have hg : L.getD ((pre.length : Int)).toNat 0 = x := by rw [← hpl]; exact getD_mid
    have hw : w64 ((pre.length : Int) + 1) = (((pre ++ [x]).length : Nat) : Int) := by
      rw [w64_id (by omega) (by omega)]; simp
    have r5t : ∀ k r, f34_r5 k r N E B L (L.length : Int) (pre.length : Int) true f = r N E B L (L.length : Int) (((pre ++ [x]).length : Nat) : Int) 1 := fun k r => by
      rw [f34_r5, f34_r5_B, if_pos rfl, f34_c6, f34_c6_B, hw]
    have r5f : ∀ k r, f34_r5 k r N E B L (L.length : Int) (pre.length : Int) false f = r N E B L (L.length : Int) (((pre ++ [x]).length : Nat) : Int) f := fun k r => by
      rw [f34_r5, f34_r5_B, if_neg (by simp), f34_c6, f34_c6_B, hw]
    have hmm : (∀ y ∈ pre ++ [x], inR y N.length) ↔ (∀ y ∈ pre, inR y N.length) ∧ inR x N.length := by
      simp only [List.mem_append, List.mem_singleton]
      exact ⟨fun h => ⟨fun y hy => h y (.inl hy), h x (.inr rfl)⟩, fun h y hy => by
        rcases hy with hy | rfl
        · exact h.1 y hy
        · exact h.2⟩
    by_cases c0 : netF (N, (E, B)) = 0
    · rw [if_pos c0] at hf
      by_cases c1 : ∀ y ∈ pre, inR y N.length
      · rw [if_pos c1] at hf
        by_cases c2 : inR x N.length
        · have ih := nodes_loop4 hN rest (pre ++ [x]) L f (by simp [← hpl]) hL (by rw [if_pos c0, if_pos (hmm.2 ⟨c1, c2⟩)]; exact hf)
          refine Ev2.step (fun k n => ?_) ih
          have c2' := c2
          unfold inR at c2'
          rw [f34_l0, f34_l0_B, if_pos i1, if_pos i0, if_pos i1, hg, if_pos hf, if_neg (by omega), decide_eq_false (by omega), r5f]
        · have ih := nodes_loop4 hN rest (pre ++ [x]) L 1 (by simp [← hpl]) hL (by rw [if_pos c0, if_neg (fun z => c2 (hmm.1 z).2)])
          refine Ev2.step (fun k n => ?_) ih
          rw [f34_l0, f34_l0_B, if_pos i1, if_pos i0, if_pos i1, hg, if_pos hf]
          unfold inR at c2
          by_cases d : x < 0
          · rw [if_pos d, r5t]
          · rw [if_neg d, decide_eq_true (by omega), r5t]
      · rw [if_neg c1] at hf
        have ih := nodes_loop4 hN rest (pre ++ [x]) L f (by simp [← hpl]) hL (by rw [if_pos c0, if_neg (fun z => c1 (hmm.1 z).1)]; exact hf)
        refine Ev2.step (fun k n => ?_) ih
        rw [f34_l0, f34_l0_B, if_pos i1, if_pos i0, if_pos i1, hg, if_neg (by omega), r5f]
    · rw [if_neg c0] at hf
      have ih := nodes_loop4 hN rest (pre ++ [x]) L f (by simp [← hpl]) hL (by rw [if_neg c0]; exact hf)
      refine Ev2.step (fun k n => ?_) ih
      rw [f34_l0, f34_l0_B, if_pos i1, if_pos i0, if_pos i1, hg, if_neg (by rw [hf]; exact c0), r5f]
theorem nodes_ev (n : Nt) (L : List Int) (hL : L.length ≤ 1000) : Ev (fun k => f34 k n L) (vldF n L, ()) := by
  obtain ⟨N, E, B⟩ := n
  simp only [f34, f34_entry_B]
  refine (flt_ev (N, (E, B))).bind ?_
  refine (nodes_loop4 (fun h => by have := (netV_of h).n1; omega) L [] L (netF (N, (E, B))) rfl hL ?_).diag
  split
  · rename_i h; rw [if_pos (fun x hx => by cases hx)]; exact h
  · rfl
end Go.Proofs.Ytpbmlhlpfbcnbaa.Rw

namespace Go.Proofs.Ytpbmlhlpfbcnbaa.Rw
open Go.Rx
set_option linter.unusedVariables false
set_option linter.unusedSimpArgs false
/-- No edge leads anywhere cheaper. -/
def Pot (E : List Ed) (X : List Int) (k : Int) : Prop := 0 ≤ X.getD (fromE E k).toNat 0 → 0 ≤ X.getD (toE E k).toNat 0 ∧ X.getD (toE E k).toNat 0 ≤ X.getD (fromE E k).toNat 0 + costE E k
instance (E : List Ed) (X : List Int) (k : Int) : Decidable (Pot E X k) := by unfold Pot; infer_instance
theorem pot_le {E : List Ed} {B : List Pt} {s : Int} {X : List Int} (hs : X.getD s.toNat 0 = 0) (h : ∀ k, inR k E.length → Pot E X k) {w : List Int} {k : Int} (hw : Wy E B s w k) : 0 ≤ X.getD (toE E k).toNat 0 ∧ X.getD (toE E k).toNat 0 ≤ cW E w := by
  induction hw with
  | one k h1 h2 =>
    have := h k h1
    unfold Pot at this
    rw [h2, hs] at this
    rw [cW_one]
    have := this (by omega)
    omega
  | snoc w j k hw h1 h2 h3 ih =>
    have := h k h1
    unfold Pot at this
    rw [← h2] at this
    have := this ih.1
    rw [cW_app, cW_one]
    omega
theorem pot_rch {E : List Ed} {B : List Pt} {s : Int} {X : List Int} (hs : X.getD s.toNat 0 = 0) (h : ∀ k, inR k E.length → Pot E X k) {v c : Int} (hr : Rch E B s v c) : 0 ≤ X.getD v.toNat 0 ∧ X.getD v.toNat 0 ≤ c := by
  rcases hr with ⟨rfl, rfl⟩ | ⟨w, k, h1, rfl, rfl⟩
  · omega
  · exact pot_le hs h h1
theorem LeastC.first {n : Nat} {E : List Ed} {B : List Pt} {s : Int} {C : List Int} (h : LeastC n E B s C) (hs : inR s n) : C.getD s.toNat 0 = 0 := by
  have es : ((s.toNat : Nat) : Int) = s := by have := hs.1; omega
  have hn : s.toNat < n := by have := hs.1; have := hs.2; omega
  have hr : Rch E B s s 0 := .inl ⟨rfl, rfl⟩
  rcases h.at_ s.toNat hn with ⟨_, g⟩ | ⟨g1, _, g3⟩
  · rw [es] at g; exact (g 0 hr).elim
  · rw [es] at g3; have := g3 0 hr; omega
theorem LeastC.pot {N : List Pt} {E : List Ed} {s : Int} {C : List Int} (hV : NetV N E []) (h : LeastC N.length E [] s C) {k : Int} (hk : inR k E.length) : Pot E C k := fun h0 => by
  obtain ⟨⟨f1, f2⟩, t1, t2⟩ := hV.ends k hk
  have ef : (((fromE E k).toNat : Nat) : Int) = fromE E k := by omega
  have et : (((toE E k).toNat : Nat) : Int) = toE E k := by omega
  rcases h.at_ (fromE E k).toNat (by omega) with ⟨g, _⟩ | ⟨_, g2, _⟩
  · omega
  · rw [ef] at g2
    have hr : Rch E [] s (toE E k) (C.getD (fromE E k).toNat 0 + costE E k) := by
      rcases g2 with ⟨g3, g4⟩ | ⟨w, j, g3, g4, g5⟩
      · exact .inr ⟨[k], k, .one k hk g3, rfl, by rw [cW_one]; omega⟩
      · exact .inr ⟨w ++ [k], k, .snoc w j k g3 hk g4 (by simp), rfl, by rw [cW_app, cW_one]; omega⟩
    rcases h.at_ (toE E k).toNat (by omega) with ⟨_, g⟩ | ⟨g6, _, g7⟩
    · rw [et] at g; exact (g _ hr).elim
    · rw [et] at g7; exact ⟨g6, g7 _ hr⟩
/-- What is reached over edges that are tight. -/
structure Tight (n : Nat) (E : List Ed) (s : Int) (X : List Int) (Y : List Bool) : Prop where
  len : Y.length = n
  st : Y.getD s.toNat false = true
  rch : ∀ v : Nat, Y.getD v false = true → 0 ≤ X.getD v 0 ∧ Rch E [] s (v : Int) (X.getD v 0)
def Shut2 (E : List Ed) (X : List Int) (Y : List Bool) (k : Int) : Prop := Y.getD (fromE E k).toNat false = true → X.getD (toE E k).toNat 0 = X.getD (fromE E k).toNat 0 + costE E k → Y.getD (toE E k).toNat false = true
theorem tight_all {N : List Pt} {E : List Ed} {s : Int} {C : List Int} (hV : NetV N E []) (h : LeastC N.length E [] s C) (hs : inR s N.length) {Y : List Bool} (hY : Tight N.length E s C Y) (hS : ∀ k, inR k E.length → Shut2 E C Y k) {w : List Int} {k : Int} (hw : Wy E [] s w k) : C.getD (toE E k).toNat 0 = cW E w → Y.getD (toE E k).toNat false = true := by
  have h0 := h.first hs
  induction hw with
  | one k h1 h2 =>
    intro hc
    refine hS k h1 (by rw [h2]; exact hY.st) ?_
    rw [hc, h2, h0, cW_one]; omega
  | snoc w j k hw h1 h2 h3 ih =>
    intro hc
    rw [cW_app, cW_one] at hc
    have p1 := pot_le h0 (fun k hk => h.pot hV hk) hw
    have p2 := h.pot hV h1
    unfold Pot at p2
    rw [← h2] at p2
    have := p2 p1.1
    have hj : C.getD (toE E j).toNat 0 = cW E w := by omega
    refine hS k h1 (by rw [← h2]; exact ih hj) ?_
    rw [hc, ← h2, hj]
theorem sound_iff {N : List Pt} {E : List Ed} {s : Int} {C X : List Int} (hV : NetV N E []) (h : LeastC N.length E [] s C) (hs : inR s N.length) (hl : X.length = N.length) (h0 : X.getD s.toNat 0 = 0) (hr : ∀ v, v < N.length → -1 ≤ X.getD v 0 ∧ X.getD v 0 ≤ 659706976665600) (hp : ∀ k, inR k E.length → Pot E X k) {Y : List Bool} (hY : Tight N.length E s X Y) (hS : ∀ k, inR k E.length → Shut2 E X Y k) :
    (∀ v, v < N.length → Y.getD v false = decide (0 ≤ X.getD v 0)) ↔ X = C := by
  constructor
  · intro hv
    refine LeastC.one (n := N.length) (E := E) (B := []) (s := s) ⟨hl, fun v hvn => ?_, fun v hvn => (hr v hvn).2⟩ h
    have hle : ∀ c, Rch E [] s (v : Int) c → 0 ≤ X.getD v 0 ∧ X.getD v 0 ≤ c := fun c hc => by
      have := pot_rch h0 hp hc
      simpa using this
    by_cases c : 0 ≤ X.getD v 0
    · exact .inr ⟨c, (hY.rch v (by rw [hv v hvn]; exact decide_eq_true c)).2, fun c hc => (hle c hc).2⟩
    · have := (hr v hvn).1
      exact .inl ⟨by omega, fun c' hc => c (hle c' hc).1⟩
  · rintro rfl v hvn
    by_cases c : 0 ≤ X.getD v 0
    · rw [decide_eq_true c]
      rcases h.at_ v hvn with ⟨g, _⟩ | ⟨_, g2, _⟩
      · omega
      · rcases g2 with ⟨g3, _⟩ | ⟨w, k, g3, g4, g5⟩
        · have : v = s.toNat := by omega
          rw [this]; exact hY.st
        · have := tight_all hV h hs hY hS g3 (by rw [g4, Int.toNat_natCast]; exact g5.symm)
          rw [g4, Int.toNat_natCast] at this; exact this
    · rw [decide_eq_false c]
      cases hb : Y.getD v false with
      | false => rfl
      | true => exact (c (hY.rch v hb).1).elim
/-! ### The last check -/
theorem sound_l8 {X : List Int} {Y : List Bool} {n : Nat} (hn : n ≤ 200) (hX : X.length = n) (hY : Y.length = n) : ∀ (d i : Nat), i + d = n → (∀ v, v < i → Y.getD v false = decide (0 ≤ X.getD v 0)) →
    ∃ b : Bool, (b = true ↔ ∀ v, v < n → Y.getD v false = decide (0 ≤ X.getD v 0)) ∧ Ev2 (fun k m => f47_l8 k m Y X (X.length : Int) (i : Int)) (b, ())
  | 0, i, hi, h => by
    have e : i = n := by omega
    subst e
    refine ⟨true, ⟨fun _ => h, fun _ => rfl⟩, Ev2.step (g := fun _ _ => some (true, ())) (fun k n => ?_) (Ev2.pure _)⟩
    rw [f47_l8, f47_l8_B, if_neg (by omega)]
  | d + 1, i, hi, h => by
    have i0 : (0 : Int) ≤ (i : Int) := by omega
    have i1 : (i : Int) < (X.length : Int) := by omega
    have i2 : (i : Int) < (Y.length : Int) := by omega
    have hw1 : w64 ((i : Int) + 1) = ((i + 1 : Nat) : Int) := by rw [w64_id (by omega) (by omega)]; omega
    have hd : decide (Y.getD ((i : Int)).toNat false = true) = Y.getD i false := by rw [Int.toNat_natCast]; simp
    by_cases c : Y.getD i false = decide (0 ≤ X.getD i 0)
    · obtain ⟨b, b1, b2⟩ := sound_l8 hn hX hY d (i + 1) (by omega) (fun v hv => by
        by_cases e : v = i
        · subst e; exact c
        · exact h v (by omega))
      refine ⟨b, b1, Ev2.step (fun k m => ?_) b2⟩
      rw [f47_l8, f47_l8_B, if_pos i1, if_pos i0, if_pos i1, if_pos i0, if_pos i2, hd, Int.toNat_natCast, if_neg (fun z => z c), hw1]
    · refine ⟨false, ⟨fun z => (by cases z), fun z => (c (z i (by omega))).elim⟩, Ev2.step (g := fun _ _ => some (false, ())) (fun k m => ?_) (Ev2.pure _)⟩
      rw [f47_l8, f47_l8_B, if_pos i1, if_pos i0, if_pos i1, if_pos i0, if_pos i2, hd, Int.toNat_natCast, if_pos c]
def cntF (Y : List Bool) : Nat := Y.countP (fun b => !b)
theorem cntF_set : ∀ {Y : List Bool} {i : Nat}, i < Y.length → Y.getD i false = false → cntF (Y.set i true) < cntF Y
  | [], i, h, _ => by simp at h
  | b :: Y, 0, _, h => by
    have h : b = false := by simpa using h
    subst h
    simp [cntF]
  | b :: Y, i + 1, h, hb => by
    have := cntF_set (Y := Y) (i := i) (by simpa using h) (by simpa using hb)
    unfold cntF at this ⊢
    simp only [List.set_cons_succ, List.countP_cons]
    omega
/-- One pass over the edges. -/
theorem sound_pass {RL : Nat → Nat → List Pt → List Ed → List Pt → List Bool → Bool → List Int → Option (Bool × Unit)} {N B : List Pt} {E : List Ed} (hV : NetV N E []) {s : Int} {X : List Int} (hX : X.length = N.length) (hr : ∀ v, v < N.length → -1 ≤ X.getD v 0 ∧ X.getD v 0 ≤ 659706976665600) : ∀ (d i : Nat) (Y : List Bool) (f : Bool), i + d = E.length → Tight N.length E s X Y →
    ∃ Y' f', Tight N.length E s X Y' ∧ (f' = true → f = true ∨ cntF Y' < cntF Y) ∧ (f' = false → f = false ∧ Y' = Y ∧ ∀ j : Nat, i ≤ j → j < E.length → Shut2 E X Y (j : Int)) ∧ cntF Y' ≤ cntF Y ∧
      ∀ res, Ev2 (fun k n => RL k n N E B Y' f' X) res → Ev3 (fun k n m => f47_l6 k (RL k n) m N E B Y (E.length : Int) (i : Int) f X) res
  | 0, i, Y, f, hi, h => by
    have e : i = E.length := by omega
    subst e
    refine ⟨Y, f, h, fun z => .inl z, fun z => ⟨z, rfl, fun j h1 h2 => by omega⟩, Nat.le_refl _, fun res hres => Ev3.step (g := fun k n _ => RL k n N E B Y f X) (fun k n m => ?_) hres.three⟩
    rw [f47_l6, f47_l6_B, if_neg (by omega)]
    simp
  | d + 1, i, Y, f, hi, h => by
    have hn2 := hV.n2
    have i0 : (0 : Int) ≤ (i : Int) := by omega
    have i1 : (i : Int) < (E.length : Int) := by omega
    have hik : inR (i : Int) E.length := ⟨i0, i1⟩
    obtain ⟨⟨f1, f2⟩, t1, t2⟩ := hV.ends (i : Int) hik
    have hcost := hV.cost (i : Int) hik
    have ef : (E.getD ((i : Int)).toNat (0, (0, (0, 0)))).1 = fromE E (i : Int) := rfl
    have et : (E.getD ((i : Int)).toNat (0, (0, (0, 0)))).2.1 = toE E (i : Int) := rfl
    have ec : (E.getD ((i : Int)).toNat (0, (0, (0, 0)))).2.2.1 = costE E (i : Int) := rfl
    have hw1 : w64 ((i : Int) + 1) = ((i + 1 : Nat) : Int) := by rw [w64_id (by omega) (by omega)]; omega
    have yf : fromE E (i : Int) < (Y.length : Int) := by rw [h.len]; exact f2
    have yt : toE E (i : Int) < (Y.length : Int) := by rw [h.len]; exact t2
    have xf : fromE E (i : Int) < (X.length : Int) := by rw [hX]; exact f2
    have xt : toE E (i : Int) < (X.length : Int) := by rw [hX]; exact t2
    have hrf := hr (fromE E (i : Int)).toNat (by omega)
    have hsum : w64 (X.getD (fromE E (i : Int)).toNat 0 + costE E (i : Int)) = X.getD (fromE E (i : Int)).toNat 0 + costE E (i : Int) := w64_id (by omega) (by omega)
    have r23f : ∀ k RM m (a b c q : Int), f47_r23 k (f47_l6 k RM m) RM a b c q N E B Y (E.length : Int) (i : Int) (decide (f = true)) false X = f47_l6 k RM m N E B Y (E.length : Int) ((i + 1 : Nat) : Int) f X := fun k RM m a b c q => by
      rw [f47_r23, f47_r23_B, if_neg (by simp), f47_c24, f47_c24_B, hw1]
      simp
    -- the edge adds nothing
    have keep : Shut2 E X Y (i : Int) → (∀ k n m, f47_l6 k (RL k n) (m + 1) N E B Y (E.length : Int) (i : Int) f X = f47_l6 k (RL k n) m N E B Y (E.length : Int) ((i + 1 : Nat) : Int) f X) → ∃ Y' f', Tight N.length E s X Y' ∧ (f' = true → f = true ∨ cntF Y' < cntF Y) ∧ (f' = false → f = false ∧ Y' = Y ∧ ∀ j : Nat, i ≤ j → j < E.length → Shut2 E X Y (j : Int)) ∧ cntF Y' ≤ cntF Y ∧
        ∀ res, Ev2 (fun k n => RL k n N E B Y' f' X) res → Ev3 (fun k n m => f47_l6 k (RL k n) m N E B Y (E.length : Int) (i : Int) f X) res := fun hsh hst => by
      obtain ⟨Y', f', g1, g2, g3, g4, g5⟩ := sound_pass (RL := RL) (B := B) hV hX hr d (i + 1) Y f (by omega) h
      refine ⟨Y', f', g1, g2, fun z => ?_, g4, fun res hres => Ev3.step hst (g5 res hres)⟩
      obtain ⟨q1, q2, q3⟩ := g3 z
      refine ⟨q1, q2, fun j h1 h2 => ?_⟩
      by_cases e : j = i
      · subst e; exact hsh
      · exact q3 j (by omega) h2
    cases hyf : Y.getD (fromE E (i : Int)).toNat false with
    | false =>
      refine keep (fun z => by rw [hyf] at z; cases z) (fun k n m => ?_)
      rw [f47_l6, f47_l6_B, if_pos i1, if_pos i0, if_pos i1, ef, if_pos f1, if_pos yf, hyf, if_neg (by simp), r23f]
    | true =>
      cases hyt : Y.getD (toE E (i : Int)).toNat false with
      | true =>
        refine keep (fun _ _ => hyt) (fun k n m => ?_)
        rw [f47_l6, f47_l6_B, if_pos i1, if_pos i0, if_pos i1, ef, if_pos f1, if_pos yf, hyf, if_pos rfl, et, if_pos t1, if_pos yt, hyt, if_neg (by simp), r23f]
      | false =>
        by_cases c : X.getD (toE E (i : Int)).toNat 0 = X.getD (fromE E (i : Int)).toNat 0 + costE E (i : Int)
        · have hYl : (toE E (i : Int)).toNat < Y.length := by rw [h.len]; omega
          have hT : Tight N.length E s X (Y.set (toE E (i : Int)).toNat true) := by
            refine ⟨by simpa using h.len, ?_, fun v hv => ?_⟩
            · rw [gsetN]; split
              · rfl
              · exact h.st
            · rw [gsetN] at hv
              by_cases e : (toE E (i : Int)).toNat = v
              · obtain ⟨q1, q2⟩ := h.rch _ hyf
                have ev : (v : Int) = toE E (i : Int) := by omega
                have ef' : (((fromE E (i : Int)).toNat : Nat) : Int) = fromE E (i : Int) := by omega
                rw [← e, c]
                refine ⟨by omega, ?_⟩
                rw [e, ev]
                rw [ef'] at q2
                rcases q2 with ⟨g3, g4⟩ | ⟨w, j, g3, g4, g5⟩
                · exact .inr ⟨[(i : Int)], (i : Int), .one _ hik g3, rfl, by rw [cW_one]; omega⟩
                · exact .inr ⟨w ++ [(i : Int)], (i : Int), .snoc w j _ g3 hik g4 (by simp), rfl, by rw [cW_app, cW_one]; omega⟩
              · rw [if_neg (fun z => e z.1)] at hv; exact h.rch v hv
          obtain ⟨Y', f', g1, g2, g3, g4, g5⟩ := sound_pass (RL := RL) (B := B) hV hX hr d (i + 1) _ true (by omega) hT
          have hlt := cntF_set hYl hyt
          refine ⟨Y', f', g1, fun _ => .inr (by omega), fun z => (by have := (g3 z).1; cases this), by omega, fun res hres => Ev3.step (fun k n m => ?_) (g5 res hres)⟩
          rw [f47_l6, f47_l6_B, if_pos i1, if_pos i0, if_pos i1, ef, if_pos f1, if_pos yf, hyf, if_pos rfl, et, if_pos t1, if_pos yt, hyt, if_pos (by simp), if_pos t1, if_pos xt, if_pos f1, if_pos xf, ec, hsum, decide_eq_true c, f47_r23, f47_r23_B, if_pos rfl, if_pos t1, if_pos yt, f47_c24, f47_c24_B, hw1]
          simp
        · refine keep (fun _ z => (c z).elim) (fun k n m => ?_)
          rw [f47_l6, f47_l6_B, if_pos i1, if_pos i0, if_pos i1, ef, if_pos f1, if_pos yf, hyf, if_pos rfl, et, if_pos t1, if_pos yt, hyt, if_pos (by simp), if_pos t1, if_pos xt, if_pos f1, if_pos xf, ec, hsum, decide_eq_false c, r23f]
theorem sound_l4 {N B : List Pt} {E : List Ed} (hV : NetV N E []) {s : Int} {X : List Int} (hX : X.length = N.length) (hr : ∀ v, v < N.length → -1 ≤ X.getD v 0 ∧ X.getD v 0 ≤ 659706976665600) : ∀ (d : Nat) (Y : List Bool), cntF Y < d → Tight N.length E s X Y →
    ∃ Y', Tight N.length E s X Y' ∧ (∀ k, inR k E.length → Shut2 E X Y' k) ∧ ∀ b, Ev (fun k => f47_l8 k k Y' X (X.length : Int) 0) (b, ()) → Ev2 (fun k n => f47_l4 k n N E B Y true X) (b, ())
  | 0, Y, hd, _ => by omega
  | d + 1, Y, hd, h => by
    obtain ⟨Y', f', g1, g2, g3, g4, g5⟩ := sound_pass (RL := fun k n => f47_l4 k n) (B := B) hV hX hr E.length 0 Y false (by omega) h
    cases f' with
    | false =>
      obtain ⟨_, q2, q3⟩ := g3 rfl
      subst q2
      refine ⟨Y', h, fun k hk => ?_, fun b hb => ?_⟩
      · have := q3 k.toNat (by omega) (by have := hk.1; have := hk.2; omega)
        rw [show ((k.toNat : Nat) : Int) = k by have := hk.1; omega] at this
        exact this
      · have hend : Ev2 (fun k n => f47_l4 k n N E B Y' false X) (b, ()) := by
          refine Ev2.step (g := fun k _ => f47_l8 k k Y' X (X.length : Int) 0) (fun k n => ?_) hb.two
          rw [f47_l4, f47_l4_B, if_neg (by simp)]
        refine Ev2.step (fun k n => ?_) (g5 _ hend).in_
        rw [f47_l4, f47_l4_B, if_pos rfl]
        rfl
    | true =>
      have hlt := (g2 rfl).resolve_left (by simp)
      obtain ⟨Z, z1, z2, z3⟩ := sound_l4 (B := B) hV hX hr d Y' (by omega) g1
      refine ⟨Z, z1, z2, fun b hb => ?_⟩
      refine Ev2.step (fun k n => ?_) (g5 _ (z3 b hb)).in_
      rw [f47_l4, f47_l4_B, if_pos rfl]
      rfl
theorem sound_l2 {N B : List Pt} {E : List Ed} (hV : NetV N E []) {s : Int} (hs : inR s N.length) {C X : List Int} (h : LeastC N.length E [] s C) (hX : X.length = N.length) (h0 : X.getD s.toNat 0 = 0) (hr : ∀ v, v < N.length → -1 ≤ X.getD v 0 ∧ X.getD v 0 ≤ 659706976665600) : ∀ (d i : Nat), i + d = E.length → (∀ j : Nat, j < i → Pot E X (j : Int)) →
    Ev2 (fun k n => f47_l2 k n N E B s X (E.length : Int) (i : Int)) (decide (X = C), ())
  | 0, i, hi, hp => by
    have e : i = E.length := by omega
    subst e
    have hn1 := hV.n1
    have hp' : ∀ k, inR k E.length → Pot E X k := fun k hk => by
      have := hp k.toNat (by have := hk.1; have := hk.2; omega)
      rw [show ((k.toNat : Nat) : Int) = k by have := hk.1; omega] at this
      exact this
    have hsn : s.toNat < N.length := by have := hs.1; have := hs.2; omega
    have hT : Tight N.length E s X ((List.replicate N.length false).set s.toNat true) := by
      refine ⟨by simp, by rw [gsetN, if_pos ⟨rfl, by simpa using hsn⟩], fun v hv => ?_⟩
      rw [gsetN] at hv
      by_cases e : s.toNat = v
      · subst e
        rw [h0]
        exact ⟨Int.le_refl _, .inl ⟨by have := hs.1; omega, rfl⟩⟩
      · rw [if_neg (fun z => e z.1), List.getD_eq_getElem?_getD, List.getElem?_replicate] at hv
        split at hv <;> cases hv
    obtain ⟨Y, y1, y2, y3⟩ := sound_l4 (B := B) hV hX hr _ _ (Nat.lt_succ_self _) hT
    obtain ⟨b, b1, b2⟩ := sound_l8 (by omega) hX y1.len N.length 0 (by omega) (fun v hv => by omega)
    have hb := b1.trans (sound_iff hV h hs hX h0 hr hp' y1 y2)
    have e : b = decide (X = C) := by
      cases b with
      | true => exact (decide_eq_true (hb.1 rfl)).symm
      | false => exact (decide_eq_false (fun z => by have := hb.2 z; cases this)).symm
    rw [← e]
    refine Ev2.step (fun k n => ?_) ((y3 b b2.diag).diag.two)
    have a0 : (0 : Int) ≤ (X.length : Int) := by omega
    have a1 : (X.length : Int) ≤ 1073741824 := by omega
    rw [f47_l2, f47_l2_B, if_neg (by omega), if_pos a0, if_pos a1, if_pos hs.1, if_pos (by rw [List.length_replicate, Int.toNat_natCast, hX]; exact hs.2), Int.toNat_natCast, hX]
  | d + 1, i, hi, hp => by
    have hn2 := hV.n2
    have i0 : (0 : Int) ≤ (i : Int) := by omega
    have i1 : (i : Int) < (E.length : Int) := by omega
    have hik : inR (i : Int) E.length := ⟨i0, i1⟩
    obtain ⟨⟨f1, f2⟩, t1, t2⟩ := hV.ends (i : Int) hik
    have hcost := hV.cost (i : Int) hik
    have ef : (E.getD ((i : Int)).toNat (0, (0, (0, 0)))).1 = fromE E (i : Int) := rfl
    have et : (E.getD ((i : Int)).toNat (0, (0, (0, 0)))).2.1 = toE E (i : Int) := rfl
    have ec : (E.getD ((i : Int)).toNat (0, (0, (0, 0)))).2.2.1 = costE E (i : Int) := rfl
    have hw1 : w64 ((i : Int) + 1) = ((i + 1 : Nat) : Int) := by rw [w64_id (by omega) (by omega)]; omega
    have xf : fromE E (i : Int) < (X.length : Int) := by rw [hX]; exact f2
    have xt : toE E (i : Int) < (X.length : Int) := by rw [hX]; exact t2
    have hrf := hr (fromE E (i : Int)).toNat (by omega)
    have hsum : w64 (X.getD (fromE E (i : Int)).toNat 0 + costE E (i : Int)) = X.getD (fromE E (i : Int)).toNat 0 + costE E (i : Int) := w64_id (by omega) (by omega)
    have pre : ∀ k n, f47_l2 k (n + 1) N E B s X (E.length : Int) (i : Int) = f47_r12 k (f47_l2 k n) N E B s X (E.length : Int) (i : Int) (decide (¬ Pot E X (i : Int))) := fun k n => by
      rw [f47_l2, f47_l2_B, if_pos i1, if_pos i0, if_pos i1, ef, if_pos f1, if_pos xf, et, ec]
      by_cases c1 : 0 ≤ X.getD (fromE E (i : Int)).toNat 0
      · rw [if_pos c1, if_pos t1, if_pos xt]
        by_cases c2 : X.getD (toE E (i : Int)).toNat 0 < 0
        · rw [if_pos c2]
          congr 1
          exact (dec_not_t (fun z : Pot E X (i : Int) => by have := z c1; omega)).symm
        · rw [if_neg c2, if_pos t1, if_pos xt, if_pos f1, if_pos xf, hsum]
          congr 1
          by_cases c3 : X.getD (fromE E (i : Int)).toNat 0 + costE E (i : Int) < X.getD (toE E (i : Int)).toNat 0
          · rw [decide_eq_true c3]
            exact (dec_not_t (fun z : Pot E X (i : Int) => by have := z c1; omega)).symm
          · rw [decide_eq_false c3]
            exact (dec_not_f (show Pot E X (i : Int) from fun _ => by omega)).symm
      · rw [if_neg c1]
        congr 1
        exact (dec_not_f (show Pot E X (i : Int) from fun y => (c1 y).elim)).symm
    by_cases c : Pot E X (i : Int)
    · have ih := sound_l2 (B := B) hV hs h hX h0 hr d (i + 1) (by omega) (fun j hj => by
        by_cases e : j = i
        · subst e; exact c
        · exact hp j (by omega))
      refine Ev2.step (fun k n => ?_) ih
      rw [pre, show decide (¬ Pot E X (i : Int)) = false from decide_eq_false (fun z => z c), f47_r12, f47_r12_B, if_neg (by simp), hw1]
    · have hne : ¬ X = C := fun z => c (by rw [z]; exact h.pot hV hik)
      rw [decide_eq_false hne]
      refine Ev2.step (g := fun _ _ => some (false, ())) (fun k n => ?_) (Ev2.pure _)
      rw [pre, decide_eq_true c, f47_r12, f47_r12_B, if_pos rfl]
theorem sound_l0 {N B : List Pt} {E : List Ed} (hV : NetV N E []) {s : Int} (hs : inR s N.length) {C X : List Int} (h : LeastC N.length E [] s C) (hX : X.length = N.length) (h0 : X.getD s.toNat 0 = 0) : ∀ (d i : Nat), i + d = N.length → (∀ v, v < i → -1 ≤ X.getD v 0 ∧ X.getD v 0 ≤ 659706976665600) →
    Ev2 (fun k n => f47_l0 k n N E B s X (X.length : Int) (i : Int)) (decide (X = C), ())
  | 0, i, hi, hp => by
    have e : i = N.length := by omega
    subst e
    refine Ev2.step (g := fun k _ => f47_l2 k k N E B s X (E.length : Int) 0) (fun k n => ?_) (sound_l2 hV hs h hX h0 hp E.length 0 (by omega) (fun j hj => by omega)).diag.two
    rw [f47_l0, f47_l0_B, if_neg (by omega)]
  | d + 1, i, hi, hp => by
    have hn1 := hV.n1
    have i0 : (0 : Int) ≤ (i : Int) := by omega
    have i1 : (i : Int) < (X.length : Int) := by omega
    have hw1 : w64 ((i : Int) + 1) = ((i + 1 : Nat) : Int) := by rw [w64_id (by omega) (by omega)]; omega
    have pre : ∀ k n, f47_l0 k (n + 1) N E B s X (X.length : Int) (i : Int) = f47_r6 k (f47_l0 k n) N E B s X (X.length : Int) (i : Int) (decide (¬ (-1 ≤ X.getD i 0 ∧ X.getD i 0 ≤ 659706976665600))) := fun k n => by
      rw [f47_l0, f47_l0_B, if_pos i1, if_pos i0, if_pos i1, Int.toNat_natCast]
      by_cases c1 : X.getD i 0 < -1
      · rw [if_pos c1]
        congr 1
        exact (dec_not_t (by omega)).symm
      · rw [if_neg c1]
        congr 1
        by_cases c3 : 659706976665600 < X.getD i 0
        · rw [decide_eq_true c3]
          exact (dec_not_t (by omega)).symm
        · rw [decide_eq_false c3]
          exact (dec_not_f ⟨by omega, by omega⟩).symm
    by_cases c : -1 ≤ X.getD i 0 ∧ X.getD i 0 ≤ 659706976665600
    · have ih := sound_l0 (B := B) hV hs h hX h0 d (i + 1) (by omega) (fun j hj => by
        by_cases e : j = i
        · subst e; exact c
        · exact hp j (by omega))
      refine Ev2.step (fun k n => ?_) ih
      rw [pre, show decide (¬ (-1 ≤ X.getD i 0 ∧ X.getD i 0 ≤ 659706976665600)) = false from decide_eq_false (fun z => z c), f47_r6, f47_r6_B, if_neg (by simp), hw1]
    · have hne : ¬ X = C := fun z => c (by
        rw [z]
        have := h.hi i (by omega)
        rcases h.at_ i (by omega) with ⟨g, _⟩ | ⟨g, _⟩
        · omega
        · omega)
      rw [decide_eq_false hne]
      refine Ev2.step (g := fun _ _ => some (false, ())) (fun k n => ?_) (Ev2.pure _)
      rw [pre, decide_eq_true c, f47_r6, f47_r6_B, if_pos rfl]
/-- Sound in a valid network, for all costs. -/
theorem sound_ev {N : List Pt} {E : List Ed} {B : List Pt} (hv : netF (N, (E, B)) = 0) {s : Int} (hs : inR s N.length) {C : List Int} (h : LeastC N.length E B s C) (X : List Int) :
    Ev (fun k => f47 k (N, (E, B)) s X) (decide (B = [] ∧ X = C), ()) := by
  have hV := netV_of hv
  simp only [f47, f47_entry_B]
  refine (valid_ev (N, (E, B)) [s] (by simp)).bind ?_
  have hvl : vldF (N, (E, B)) [s] = 0 := by unfold vldF; rw [if_pos hv, if_pos (by simpa using hs)]
  simp only [hvl, not_true_eq_false, if_false]
  have stop : ∀ k, f47_r1 k N E B s X true = some (false, ()) := fun k => by
    rw [f47_r1, f47_r1_B, if_pos rfl]
  by_cases c1 : B = []
  · subst c1
    simp only [List.length_nil, show ¬ (0 : Int) < ((0 : Nat) : Int) from by decide, if_false, true_and]
    by_cases c2 : (X.length : Int) = (N.length : Int)
    · have hX : X.length = N.length := by omega
      have hs1 : s < (X.length : Int) := by rw [c2]; exact hs.2
      simp only [c2, not_true_eq_false, if_false, if_pos hs.1, if_pos hs.2]
      by_cases c3 : X.getD s.toNat 0 = 0
      · simp only [c3, not_true_eq_false, decide_false]
        refine Ev.of (fun k => ?_) (sound_l0 (B := []) hV hs h hX c3 N.length 0 (by omega) (fun v hv => by omega)).diag
        rw [f47_r1, f47_r1_B, if_neg (by simp)]
        rfl
      · have hne : ¬ X = C := fun z => c3 (by rw [z]; exact h.first hs)
        simp only [c3, not_false_eq_true, decide_true, hne, decide_false]
        exact Ev.of stop (Ev.pure _)
    · have hne : ¬ X = C := fun z => c2 (by rw [z, h.len])
      simp only [c2, not_false_eq_true, if_true, hne, decide_false]
      exact Ev.of stop (Ev.pure _)
  · have hb : (0 : Int) < (B.length : Int) := by
      have : B.length ≠ 0 := fun z => c1 (List.length_eq_zero_iff.1 z)
      omega
    simp only [if_pos hb, c1, false_and, decide_false]
    exact Ev.of stop (Ev.pure _)
end Go.Proofs.Ytpbmlhlpfbcnbaa.Rw

namespace Go.Proofs.Ytpbmlhlpfbcnbaa.Rw
open Go.Rx
set_option linter.unusedVariables false
set_option linter.unusedSimpArgs false
theorem equal2_loop : ∀ (x y p : List Int), x.length = y.length → (p ++ x).length ≤ 1073741824 → Ev2 (fun k n => f20_l0 k n (p ++ x) (p ++ y) ((p ++ x).length : Int) (p.length : Int)) (decide (x = y), ())
  | [], [], p, _, hl => Ev2.step (g := fun _ _ => some (true, ())) (fun k n => by rw [f20_l0, f20_l0_B, if_neg (by simp)]) (Ev2.pure _)
  | [], _ :: _, p, h, _ => by simp at h
  | _ :: _, [], p, h, _ => by simp at h
  | a :: x, b :: y, p, h, hl => by
    have h0 : (0 : Int) ≤ (p.length : Int) := by omega
    have h1 : (p.length : Int) < ((p ++ a :: x).length : Int) := by simp; omega
    have h2 : (p.length : Int) < ((p ++ b :: y).length : Int) := by simp; omega
    have ga : (p ++ a :: x).getD ((p.length : Int)).toNat 0 = a := getD_mid
    have gb : (p ++ b :: y).getD ((p.length : Int)).toNat 0 = b := getD_mid
    have hw : w64 ((p.length : Int) + 1) = (((p ++ [a]).length : Nat) : Int) := by
      rw [w64_id (by omega) (by simp at hl; omega)]; simp
    by_cases c : a = b
    · subst c
      have ih := equal2_loop x y (p ++ [a]) (by simpa using h) (by simpa using hl)
      rw [show p ++ [a] ++ x = p ++ a :: x by simp, show p ++ [a] ++ y = p ++ a :: y by simp] at ih
      rw [show decide (a :: x = a :: y) = decide (x = y) from decide_eq_decide.2 (by simp)]
      refine Ev2.step (fun k n => ?_) ih
      rw [f20_l0, f20_l0_B, if_pos h1, if_pos h0, if_pos h1, if_pos h0, if_pos h2, ga, gb, if_neg (by simp), hw]
    · rw [show decide (a :: x = b :: y) = false from decide_eq_false (by simp [c])]
      refine Ev2.step (g := fun _ _ => some (false, ())) (fun k n => ?_) (Ev2.pure _)
      rw [f20_l0, f20_l0_B, if_pos h1, if_pos h0, if_pos h1, if_pos h0, if_pos h2, ga, gb, if_pos c]
theorem equal2_ev (x y : List Int) (hl : y.length ≤ 1073741824) : Ev (fun k => f20 k x y) (decide (x = y), ()) := by
  by_cases c : x.length = y.length
  · have h := (equal2_loop x y [] c (by simp; omega)).diag
    refine Ev.of (fun k => ?_) h
    rw [f20, f20_entry_B, if_neg (fun z => z (by omega))]
    rfl
  · rw [decide_eq_false (fun z => c (by rw [z]))]
    refine Ev.of (fun k => ?_) (Ev.pure _)
    rw [f20, f20_entry_B, if_pos (by omega)]
theorem refCosts_loop {N : List Pt} {E : List Ed} {B : List Pt} (hV : NetV N E B) {s : Int} (hs : inR s N.length) {W : List (List Int)} (hW : Opt E B s W) : ∀ (d i : Nat) (R : List Int), i + d = E.length → CostI N.length E W i R →
    ∃ R', CostI N.length E W E.length R' ∧ Ev2 (fun k n => f49_l0 k n R (rowE E W) N E B s (E.length : Int) (i : Int)) (R'.set s.toNat 0, ())
  | 0, i, R, hi, hR => by
    have e : i = E.length := by omega
    subst e
    refine ⟨R, hR, Ev2.step (g := fun _ _ => some (R.set s.toNat 0, ())) (fun k n => ?_) (Ev2.pure _)⟩
    rw [f49_l0, f49_l0_B, if_neg (by omega), if_pos hs.1, if_pos (by rw [hR.1]; exact hs.2)]
  | d + 1, i, R, hi, hR => by
    have hiE : i < E.length := by omega
    have hn2 := hV.n2
    have hlm : (rowE E W).length = E.length := by rw [List.length_map, hW.len]
    have a0 : (0 : Int) ≤ (i : Int) := by omega
    have a1 : (i : Int) < ((rowE E W).length : Int) := by omega
    have a2 : (i : Int) < (E.length : Int) := by omega
    have hw : w64 ((i : Int) + 1) = ((i + 1 : Nat) : Int) := by rw [w64_id (by omega) (by omega)]; omega
    have ht : (E.getD i (0, (0, (0, 0)))).2.1 = toE E (i : Int) := rfl
    obtain ⟨_, t0, t1⟩ := hV.ends (i : Int) ⟨a0, a2⟩
    have tn : (toE E (i : Int)).toNat < N.length := by omega
    have et : (((toE E (i : Int)).toNat : Nat) : Int) = toE E (i : Int) := by omega
    have hRl : (R.length : Int) = (N.length : Int) := by rw [hR.1]
    have r6f : ∀ k r, f49_r6 k r R (rowE E W) N E B (cW E (W.getD i [])) (W.getD i []) s (E.length : Int) (i : Int) false (toE E (i : Int)) = r R (rowE E W) N E B s (E.length : Int) ((i + 1 : Nat) : Int) := fun k r => by
      rw [f49_r6, f49_r6_B, if_neg (by simp), f49_c7, f49_c7_B, hw]
    by_cases c : W.getD i [] = []
    · obtain ⟨R', r1, r2⟩ := refCosts_loop hV hs hW d (i + 1) R (by omega) (hR.skip (fun v _ _ hw => (hw c).elim))
      refine ⟨R', r1, Ev2.step (fun k n => ?_) r2⟩
      rw [f49_l0, f49_l0_B, if_pos a2, if_pos a0, if_pos a1, if_pos a0, if_pos a2]
      simp only [Int.toNat_natCast, rowE_at, ht]
      rw [if_neg (by rw [c]; simp), r6f]
    · obtain ⟨y1, y2⟩ := hW.yes i hiE c
      have h0 := y1.cost (fun k hk => (hV.cost k hk).1)
      have hp : 0 < ((W.getD i []).length : Int) := by have := List.length_pos_iff.2 c; omega
      have pre : ∀ k n, f49_l0 k (n + 1) R (rowE E W) N E B s (E.length : Int) (i : Int) = f49_r6 k (f49_l0 k n) R (rowE E W) N E B (cW E (W.getD i [])) (W.getD i []) s (E.length : Int) (i : Int) (decide (R.getD (toE E (i : Int)).toNat 0 < 0 ∨ cW E (W.getD i []) < R.getD (toE E (i : Int)).toNat 0)) (toE E (i : Int)) := fun k n => by
        rw [f49_l0, f49_l0_B, if_pos a2, if_pos a0, if_pos a1, if_pos a0, if_pos a2]
        simp only [Int.toNat_natCast, rowE_at, ht]
        rw [if_pos hp, if_pos t0, if_pos (by omega)]
        by_cases g : R.getD (toE E (i : Int)).toNat 0 < 0
        · rw [if_pos g, decide_eq_true (Or.inl g)]
        · rw [if_neg g, if_pos t0, if_pos (by omega)]
          rw [show decide (cW E (W.getD i []) < R.getD (toE E (i : Int)).toNat 0) = decide (R.getD (toE E (i : Int)).toNat 0 < 0 ∨ cW E (W.getD i []) < R.getD (toE E (i : Int)).toNat 0) from decide_eq_decide.2 ⟨.inr, fun z => z.resolve_left g⟩]
      by_cases g : R.getD (toE E (i : Int)).toNat 0 < 0 ∨ cW E (W.getD i []) < R.getD (toE E (i : Int)).toNat 0
      · obtain ⟨R', r1, r2⟩ := refCosts_loop hV hs hW d (i + 1) _ (by omega) (hR.set tn et.symm c h0 g)
        refine ⟨R', r1, Ev2.step (fun k n => ?_) r2⟩
        rw [pre, decide_eq_true g, f49_r6, f49_r6_B, if_pos rfl, if_pos t0, if_pos (by omega), f49_c7, f49_c7_B, hw]
      · obtain ⟨R', r1, r2⟩ := refCosts_loop hV hs hW d (i + 1) R (by omega) (hR.skip (fun v hv htv _ => by
          have : v = (toE E (i : Int)).toNat := by omega
          subst this
          omega))
        refine ⟨R', r1, Ev2.step (fun k n => ?_) r2⟩
        rw [pre, decide_eq_false g, r6f]
theorem refCosts_ev {N : List Pt} {E : List Ed} {B : List Pt} (hv : netF (N, (E, B)) = 0) {s : Int} (hs : inR s N.length) {W : List (List Int)} (hW : Opt E B s W) : ∃ C, LeastC N.length E B s C ∧ Ev (fun k => f49 k (N, (E, B)) s) (C, ()) := by
  have hV := netV_of hv
  have hn1 := hV.n1
  have hI : CostI N.length E W 0 (List.replicate N.length (-1)) := ⟨by simp, fun v hv => .inl ⟨by rw [List.getD_eq_getElem?_getD, List.getElem?_replicate, if_pos hv]; rfl, fun j hj => by omega⟩⟩
  obtain ⟨R', r1, r2⟩ := refCosts_loop hV hs hW E.length 0 _ (by omega) hI
  refine ⟨_, least_of hV hs hW r1, ?_⟩
  simp only [f49, f49_entry_B]
  refine (repeat_ev (-1) N.length (by omega)).bind ((ways_ev hv hW).bind ?_)
  rw [show (((rowE E W).length : Nat) : Int) = (E.length : Int) by rw [List.length_map, hW.len]]
  exact r2.diag
theorem ends_bad {n : Nt} {s : Int} (h : vldF n [s] ≠ 0) : Ev (fun k => f45 k n s) (([] : List Int), ()) := by
  obtain ⟨N, E, B⟩ := n
  simp only [f45, f45_entry_B]
  refine (valid_ev (N, (E, B)) [s] (by simp)).bind ?_
  simp only [h, not_false_eq_true, if_true]
  exact Ev.pure _
theorem costs_bad {n : Nt} {s : Int} (h : vldF n [s] ≠ 0) : Ev (fun k => f46 k n s) (([] : List Int), ()) := by
  obtain ⟨N, E, B⟩ := n
  simp only [f46, f46_entry_B]
  refine (valid_ev (N, (E, B)) [s] (by simp)).bind ?_
  simp only [h, not_false_eq_true, if_true]
  exact Ev.pure _
theorem sound_bad {n : Nt} {s : Int} {X : List Int} (h : vldF n [s] ≠ 0) : Ev (fun k => f47 k n s X) (false, ()) := by
  obtain ⟨N, E, B⟩ := n
  simp only [f47, f47_entry_B]
  refine (valid_ev (N, (E, B)) [s] (by simp)).bind ?_
  simp only [h, not_false_eq_true, if_true]
  refine Ev.of (fun k => ?_) (Ev.pure _)
  rw [f47_r1, f47_r1_B, if_pos rfl]
theorem rc_end {N : List Pt} {E : List Ed} {B : List Pt} (hv : netF (N, (E, B)) = 0) {s : Int} (hs : inR s N.length) {W : List (List Int)} (hW : Opt E B s W) {C X : List Int} (hC : LeastC N.length E B s C) :
    Ev2 (fun k n => f9_l0 k n (W.map (endC E)) C N E B (rowE E W) (W.map (endC E)) s X (E.length : Int) (E.length : Int)) (true, ()) := by
  have hV := netV_of hv
  have hE := hV.n2
  have hn1 := hV.n1
  obtain ⟨C', c1, c2⟩ := refCosts_ev hv hs hW
  have e := hC.one c1
  subst e
  have r16 : ∀ k, f9_r16 k true = some (true, ()) := fun k => by
    rw [f9_r16, f9_r16_B]; rfl
  have hlast : Ev (fun k => (f47 k (N, (E, B)) s C).bind fun r6 => f9_r16 k (decide (decide (r6.1 = true) = decide ((B.length : Int) = 0)))) (true, ()) := by
    refine (sound_ev hv hs hC C).bind ?_
    have e : decide (decide (decide (B = [] ∧ C = C) = true) = decide ((B.length : Int) = 0)) = true := by
      refine decide_eq_true ?_
      refine decide_eq_decide.2 ?_
      rw [decide_eq_true_iff]
      constructor
      · rintro ⟨rfl, _⟩; rfl
      · intro h; exact ⟨List.length_eq_zero_iff.1 (by omega), rfl⟩
    refine Ev.of (fun k => ?_) (Ev.pure _)
    show f9_r16 k (decide (decide (decide (B = [] ∧ C = C) = true) = decide ((B.length : Int) = 0))) = _
    rw [e]
    exact r16 k
  refine Ev2.step (g := fun k _ => (f49 k (N, (E, B)) s).bind fun r1 => (f20 k (W.map (endC E)) (W.map (endC E))).bind fun r2 => (if r2.1 = true then ((f20 k C r1.1).bind fun r3 => (if r3.1 = true then ((f47 k (N, (E, B)) s X).bind fun r4 => (if (B.length : Int) = 0 then ((f20 k X r1.1).bind fun r5 => (if decide (r4.1 = true) = decide (r5.1 = true) then ((f47 k (N, (E, B)) s r1.1).bind fun r6 => (f9_r16 k (decide (decide (r6.1 = true) = decide ((B.length : Int) = 0))))) else (f9_r16 k false))) else (if decide (r4.1 = true) = false then ((f47 k (N, (E, B)) s r1.1).bind fun r7 => (f9_r16 k (decide (decide (r7.1 = true) = decide ((B.length : Int) = 0))))) else (f9_r16 k false)))) else (f9_r16 k false))) else (f9_r16 k false))) (fun k n => ?_) ?_
  · rw [f9_l0, f9_l0_B, if_neg (by omega)]
  refine Ev.two ?_
  refine c2.bind ((equal_ev (W.map (endC E)) (by rw [List.length_map, hW.len]; omega)).bind ?_)
  simp only [if_true]
  refine (equal_ev C (by rw [hC.len]; omega)).bind ?_
  simp only [if_true]
  refine (sound_ev hv hs hC X).bind ?_
  by_cases c : B = []
  · have hl : (B.length : Int) = 0 := by rw [c]; rfl
    refine Ev.of (fun k => if_pos hl) ?_
    refine (equal2_ev X C (by rw [hC.len]; omega)).bind ?_
    refine Ev.of (fun k => if_pos ?_) hlast
    refine decide_eq_decide.2 ?_
    rw [decide_eq_true_iff, decide_eq_true_iff]
    exact ⟨fun h => h.2, fun h => ⟨c, h⟩⟩
  · have hl : ¬ (B.length : Int) = 0 := fun z => c (List.length_eq_zero_iff.1 (by omega))
    refine Ev.of (fun k => if_neg hl) ?_
    refine Ev.of (fun k => if_pos ?_) hlast
    refine decide_eq_false ?_
    rw [decide_eq_true_iff]
    exact fun h => c h.1
theorem rc_loop {N : List Pt} {E : List Ed} {B : List Pt} (hv : netF (N, (E, B)) = 0) {s : Int} (hs : inR s N.length) {W : List (List Int)} (hW : Opt E B s W) {C X : List Int} (hC : LeastC N.length E B s C) : ∀ (rest pre : List (List Int)), pre ++ rest = W →
    Ev2 (fun k n => f9_l0 k n (W.map (endC E)) C N E B (rowE E W) (pre.map (endC E)) s X (E.length : Int) (pre.length : Int)) (true, ())
  | [], pre, hpl => by
    have e : pre = W := by simpa using hpl
    subst e
    rw [show ((pre.length : Nat) : Int) = (E.length : Int) by rw [hW.len]]
    exact rc_end hv hs hW hC
  | w :: rest, pre, hpl => by
    have hE := (netV_of hv).n2
    have hl : W.length = E.length := hW.len
    have i0 : (0 : Int) ≤ (pre.length : Int) := by omega
    have hlt : pre.length < W.length := by rw [← hpl]; simp
    have i1 : (pre.length : Int) < (E.length : Int) := by omega
    have i2 : (pre.length : Int) < ((rowE E W).length : Int) := by rw [List.length_map]; omega
    have hg : W.getD pre.length [] = w := by rw [← hpl]; simp
    have hw : w64 ((pre.length : Int) + 1) = (((pre ++ [w]).length : Nat) : Int) := by
      rw [w64_id (by omega) (by omega)]; simp
    have ih := rc_loop (X := X) hv hs hW hC rest (pre ++ [w]) (by simp [← hpl])
    refine Ev2.step (fun k n => ?_) ih
    rw [f9_l0, f9_l0_B, if_pos i1, if_pos i0, if_pos i2]
    simp only [Int.toNat_natCast, rowE_at, hg]
    have c11 : ∀ v v', f9_c11 k (f9_l0 k n) v v' (W.map (endC E)) C N E B (rowE E W) (pre.map (endC E)) s X (E.length : Int) (pre.length : Int) = f9_l0 k n (W.map (endC E)) C N E B (rowE E W) (pre.map (endC E) ++ [v]) s X (E.length : Int) (((pre ++ [w]).length : Nat) : Int) := fun v v' => by
      rw [f9_c11, f9_c11_B, if_pos (by rw [List.length_map]; omega), hw]
    rw [List.map_append]
    by_cases c : w = []
    · rw [if_pos (by rw [c]; rfl), c11]
      rw [show List.map (endC E) [w] = [-1] by simp [endC, c]]
    · rw [if_neg (fun z => c (List.length_eq_zero_iff.1 (by omega))), c11]
      rw [show List.map (endC E) [w] = [cW E w] by simp [endC, c]]
theorem routeCosts_law (n : Nt) (s : Int) (X : List Int) : Ev (fun k => f9 k n s X) (true, ()) := by
  obtain ⟨N, E, B⟩ := n
  simp only [f9, f9_entry_B]
  have hr : Ev (fun k => f36 k) (true, ()) := Ev.off 60 routedL_true
  by_cases c : vldF (N, (E, B)) [s] = 0
  · have hn := c
    unfold vldF at hn
    by_cases hv : netF (N, (E, B)) = 0
    · rw [if_pos hv] at hn
      by_cases hin : ∀ x ∈ [s], inR x N.length
      · have hs := hin s (by simp)
        obtain ⟨W, w1, w2⟩ := ends_ev hv hs
        obtain ⟨C, c1, c2⟩ := costs_ev hv hs
        refine w2.bind (c2.bind (hr.bind ?_))
        simp only [not_true_eq_false, if_false]
        refine (nodes_ev (N, (E, B)) [s] (by simp)).bind ?_
        simp only [c, not_true_eq_false, if_false]
        refine Ev.of (fun k => by rw [f9_c5, f9_c5_B]) ?_
        refine (ways_ev hv w1).bind ?_
        rw [show (((rowE E W).length : Nat) : Int) = (E.length : Int) by rw [List.length_map, w1.len]]
        exact (rc_loop (X := X) hv hs w1 c1 W [] rfl).diag
      · rw [if_neg hin] at hn; omega
    · rw [if_neg hv] at hn; exact absurd hn hv
  · refine (ends_bad c).bind ((costs_bad c).bind (hr.bind ?_))
    simp only [not_true_eq_false, if_false]
    refine (nodes_ev (N, (E, B)) [s] (by simp)).bind ?_
    simp only [c, not_false_eq_true, if_true]
    refine Ev.of (fun k => if_pos rfl) ?_
    refine (sound_bad c).bind ?_
    refine Ev.of (fun k => ?_) (Ev.pure _)
    rw [f9_r5, f9_r5_B]
    rfl
/-- **Ends and Costs return what the reference says for all networks and nodes, and Sound what is specified for all costs.** -/
theorem pure_RouteCosts : Pure_RouteCosts := by
  rintro ⟨n, s, X, u⟩ hwf
  exact (routeCosts_law n s X).get
end Go.Proofs.Ytpbmlhlpfbcnbaa.Rw
