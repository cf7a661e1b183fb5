/- Hours of the program. No condition. -/
import Derived.Test.YtoebjlimpnmaoaaPlTimedWaitsk
namespace Go.Proofs.Ytoebjlimpnmaoaa.Rw
open Go.Rx
set_option linter.unusedVariables false
set_option linter.unusedSimpArgs false

/-- A node that waits. -/
def Wait (L : List Int) (D : List Bool) (i : Nat) : Prop := 0 ≤ L.getD i 0 ∧ D.getD i false = false
def Pick (L : List Int) (D : List Bool) (m : Nat) (u : Int) : Prop :=
  (u = -1 ∧ ∀ i, i < m → ¬ Wait L D i) ∨ ∃ j : Nat, u = (j : Int) ∧ j < m ∧ Wait L D j ∧ ∀ i, i < m → Wait L D i → L.getD j 0 ≤ L.getD i 0
theorem pick_loop {N B : List Pt} {E : List Ed} {C : List (List St)} {L : List Int} {D : List Bool} (hL : L.length ≤ 200) (hD : D.length = L.length) : ∀ (d i : Nat) (u : Int), i + d = L.length → Pick L D i u →
    ∃ v, Pick L D L.length v ∧ ∀ res, Ev3 (fun k n m => f25_l4 k (fun y4_0 y4_1 y4_2 y72 y76 x1 => f25_l2 k n y4_0 y4_1 y4_2 y72 y76 x1) m N E B L D C v (L.length : Int) (L.length : Int)) res → Ev3 (fun k n m => f25_l4 k (fun y4_0 y4_1 y4_2 y72 y76 x1 => f25_l2 k n y4_0 y4_1 y4_2 y72 y76 x1) m N E B L D C u (L.length : Int) (i : Int)) res
  | 0, i, u, hid, hp => by
    have : i = L.length := by omega
    subst this
    exact ⟨u, hp, fun res h => h⟩
  | d + 1, i, u, hid, hp => by
    have i0 : (0 : Int) ≤ (i : Int) := by omega
    have i1 : (i : Int) < (L.length : Int) := by omega
    have i2 : (i : Int) < (D.length : Int) := by omega
    have hw : w64 ((i : Int) + 1) = ((i + 1 : Nat) : Int) := by rw [w64_id (by omega) (by omega)]; omega
    have skip : ¬ Wait L D i → Pick L D (i + 1) u := fun hn => by
      rcases hp with ⟨h1, h2⟩ | ⟨j, h1, h2, h3, h4⟩
      · exact .inl ⟨h1, fun q hq => by
          by_cases e : q = i
          · rw [e]; exact hn
          · exact h2 q (by omega)⟩
      · exact .inr ⟨j, h1, by omega, h3, fun q hq hw => by
          by_cases e : q = i
          · rw [e] at hw; exact absurd hw hn
          · exact h4 q (by omega) hw⟩
    by_cases c1 : 0 ≤ L.getD i 0
    · by_cases c2 : D.getD i false = true
      · obtain ⟨v, k1, k2⟩ := pick_loop hL hD d (i + 1) u (by omega) (skip (fun h => by have := h.2; rw [c2] at this; cases this))
        refine ⟨v, k1, fun res h => ?_⟩
        refine Ev3.step (fun k n m => ?_) (k2 res h)
        rw [f25_l4, f25_l4_B, if_pos i1, if_pos i0, if_pos i1, Int.toNat_natCast, if_pos c1, if_pos i0, if_pos i2, if_neg (fun h => h c2), f25_r24, f25_r24_B, if_neg (by simp), f25_c25, f25_c25_B, hw]
      · have c2' : D.getD i false = false := by simpa using c2
        have hwi : Wait L D i := ⟨c1, c2'⟩
        rcases hp with ⟨h1, h2⟩ | ⟨j, h1, h2, h3, h4⟩
        · obtain ⟨v, k1, k2⟩ := pick_loop hL hD d (i + 1) (i : Int) (by omega) (.inr ⟨i, rfl, by omega, hwi, fun q hq hw => by
            by_cases e : q = i
            · rw [e]; omega
            · exact absurd hw (h2 q (by omega))⟩)
          refine ⟨v, k1, fun res h => ?_⟩
          refine Ev3.step (fun k n m => ?_) (k2 res h)
          subst h1
          rw [f25_l4, f25_l4_B, if_pos i1, if_pos i0, if_pos i1, Int.toNat_natCast, if_pos c1, if_pos i0, if_pos i2, if_pos c2, if_pos (by omega), f25_r24, f25_r24_B, if_pos rfl, f25_c25, f25_c25_B, hw]
        · have j0 : ¬ u < 0 := by omega
          have j1 : 0 ≤ u := by omega
          have j2 : u < (L.length : Int) := by omega
          by_cases c3 : L.getD i 0 < L.getD j 0
          · obtain ⟨v, k1, k2⟩ := pick_loop hL hD d (i + 1) (i : Int) (by omega) (.inr ⟨i, rfl, by omega, hwi, fun q hq hw => by
              by_cases e : q = i
              · rw [e]; omega
              · have := h4 q (by omega) hw; omega⟩)
            refine ⟨v, k1, fun res h => ?_⟩
            refine Ev3.step (fun k n m => ?_) (k2 res h)
            have c3' : L.getD i 0 < L.getD u.toNat 0 := by rw [h1]; exact c3
            rw [f25_l4, f25_l4_B, if_pos i1, if_pos i0, if_pos i1, Int.toNat_natCast, if_pos c1, if_pos i0, if_pos i2, if_pos c2, if_neg j0, if_pos j1, if_pos j2, decide_eq_true c3', f25_r24, f25_r24_B, if_pos rfl, f25_c25, f25_c25_B, hw]
          · obtain ⟨v, k1, k2⟩ := pick_loop hL hD d (i + 1) u (by omega) (.inr ⟨j, h1, by omega, h3, fun q hq hw => by
              by_cases e : q = i
              · rw [e]; omega
              · exact h4 q (by omega) hw⟩)
            refine ⟨v, k1, fun res h => ?_⟩
            refine Ev3.step (fun k n m => ?_) (k2 res h)
            have c3' : ¬ L.getD i 0 < L.getD u.toNat 0 := by rw [h1]; exact c3
            rw [f25_l4, f25_l4_B, if_pos i1, if_pos i0, if_pos i1, Int.toNat_natCast, if_pos c1, if_pos i0, if_pos i2, if_pos c2, if_neg j0, if_pos j1, if_pos j2, decide_eq_false c3', f25_r24, f25_r24_B, if_neg (by simp), f25_c25, f25_c25_B, hw]
    · obtain ⟨v, k1, k2⟩ := pick_loop hL hD d (i + 1) u (by omega) (skip (fun h => c1 h.1))
      refine ⟨v, k1, fun res h => ?_⟩
      refine Ev3.step (fun k n m => ?_) (k2 res h)
      rw [f25_l4, f25_l4_B, if_pos i1, if_pos i0, if_pos i1, Int.toNat_natCast, if_neg c1, f25_r24, f25_r24_B, if_neg (by simp), f25_c25, f25_c25_B, hw]
/-- What holds between two rounds. -/
structure Front (n : Nat) (E : List Ed) (C : List (List St)) (L : List Int) (D : List Bool) : Prop where
  len : D.length = n
  cut : ∀ u v, u < n → v < n → D.getD u false = true → Wait L D v → L.getD u 0 ≤ L.getD v 0
  done : ∀ u, u < n → D.getD u false = true → 0 ≤ L.getD u 0
  shut : ∀ i, i < E.length → D.getD (frN E i) false = true → Shut E C L i
/-- What holds while the edges that begin at the node u are looked at. -/
structure Mid (n : Nat) (E : List Ed) (C : List (List St)) (u : Nat) (ks : List Int) (L : List Int) (D : List Bool) : Prop where
  len : D.length = n
  at_ : D.getD u false = true
  top : ∀ v, v < n → D.getD v false = true → 0 ≤ L.getD v 0 ∧ L.getD v 0 ≤ L.getD u 0
  low : ∀ v, v < n → Wait L D v → L.getD u 0 ≤ L.getD v 0
  shut : ∀ i, i < E.length → D.getD (frN E i) false = true → (frN E i ≠ u ∨ (i : Int) ∈ ks) → Shut E C L i
theorem Front.mid {n : Nat} {E : List Ed} {C : List (List St)} {L : List Int} {D : List Bool} (h : Front n E C L D) {u : Nat} (hu : u < n) (hw : Wait L D u) (hl : ∀ i, i < n → Wait L D i → L.getD u 0 ≤ L.getD i 0) : Mid n E C u [] L (D.set u true) := by
  have hd := h.len
  have hg : ∀ v, (D.set u true).getD v false = if u = v then true else D.getD v false := fun v => by
    rw [gset]
    by_cases e : u = v
    · rw [if_pos ⟨e, by omega⟩, if_pos e]
    · rw [if_neg (fun z => e z.1), if_neg e]
  refine ⟨by simpa using hd, by rw [hg, if_pos rfl], fun v hv hD => ?_, fun v hv hW => ?_, fun i hi hD hk => ?_⟩
  · rw [hg] at hD
    by_cases e : u = v
    · subst e; exact ⟨hw.1, by omega⟩
    · rw [if_neg e] at hD
      exact ⟨h.done v hv hD, h.cut v u hv hu hD hw⟩
  · obtain ⟨h1, h2⟩ := hW
    rw [hg] at h2
    by_cases e : u = v
    · subst e; omega
    · rw [if_neg e] at h2
      exact hl v hv ⟨h1, h2⟩
  · rw [hg] at hD
    have hne : frN E i ≠ u := hk.resolve_right (by simp)
    rw [if_neg (fun z => hne z.symm)] at hD
    exact h.shut i hi hD
theorem Mid.front {n : Nat} {E : List Ed} {C : List (List St)} {L : List Int} {D : List Bool} {u : Nat} {ks : List Int} (h : Mid n E C u ks L D) (hk : ∀ i, i < E.length → frN E i = u → (i : Int) ∈ ks) : Front n E C L D :=
  ⟨h.len, fun v w hv hw hD hW => by have := (h.top v hv hD).2; have := h.low w hw hW; omega, fun v hv hD => (h.top v hv hD).1, fun i hi hD => h.shut i hi hD (by
    by_cases c : frN E i = u
    · exact .inr (hk i hi c)
    · exact .inl c)⟩
theorem Mid.rel {n : Nat} {E : List Ed} {C : List (List St)} (hN : NetC n E C) {L : List Int} {D : List Bool} {u : Nat} {ks : List Int} (h : Mid n E C u ks L D) (hl : L.length = n) (hu : u < n) {i : Nat} (hi : i < E.length) (hf : frN E i = u) :
    Mid n E C u (ks ++ [(i : Int)]) (relL L (toN E i) (arrC C i (L.getD u 0))) D := by
  obtain ⟨ht, _⟩ := hN.to hi
  have hup := hN.up hi (L.getD u 0)
  have hu0 := (h.top u hu h.at_).1
  have same : ∀ v, v < n → D.getD v false = true → (relL L (toN E i) (arrC C i (L.getD u 0))).getD v 0 = L.getD v 0 := fun v hv hD => by
    rw [rel_at (by omega), if_neg]
    rintro ⟨rfl, g⟩
    have := h.top _ hv hD
    omega
  have eu := same u hu h.at_
  have hb := rel_below (L := L) (v := toN E i) (t := arrC C i (L.getD u 0)) (by omega) (by omega)
  refine ⟨h.len, h.at_, fun v hv hD => ?_, fun v hv hW => ?_, fun j hj hD hk => ?_⟩
  · rw [same v hv hD, eu]; exact h.top v hv hD
  · rw [eu]
    obtain ⟨h1, h2⟩ := hW
    rw [rel_at (by omega)] at h1 ⊢
    split
    · omega
    · rename_i g; rw [if_neg g] at h1; exact h.low v hv ⟨h1, h2⟩
  · have hfj := (hN.fr hj).1
    unfold Shut
    rw [same _ hfj hD]
    intro g0 g1
    by_cases e : j = i
    · subst e
      rw [rel_at (by omega), hf]
      split
      · omega
      · rename_i g
        have : ¬ (L.getD (toN E j) 0 < 0 ∨ arrC C j (L.getD u 0) < L.getD (toN E j) 0) := fun z => g ⟨rfl, z⟩
        omega
    · have hk' : frN E j ≠ u ∨ (j : Int) ∈ ks := by
        rcases hk with hk | hk
        · exact .inl hk
        · rw [List.mem_append, List.mem_singleton] at hk
          exact .inr (hk.resolve_right (by omega))
      have k := h.shut j hj hD hk' g0 g1
      have := hb _ k.1
      omega
theorem Mid.skip {n : Nat} {E : List Ed} {C : List (List St)} {L : List Int} {D : List Bool} {u : Nat} {ks : List Int} (h : Mid n E C u ks L D) {i : Nat} (hi : i < E.length) (hf : frN E i = u) (hb : 1073741824 < L.getD u 0) : Mid n E C u (ks ++ [(i : Int)]) L D := by
  refine ⟨h.len, h.at_, h.top, h.low, fun j hj hD hk => ?_⟩
  by_cases e : j = i
  · subst e
    unfold Shut; rw [hf]; intro g0 g1; omega
  · refine h.shut j hj hD ?_
    rcases hk with hk | hk
    · exact .inl hk
    · rw [List.mem_append, List.mem_singleton] at hk
      exact .inr (hk.resolve_right (by omega))
end Go.Proofs.Ytoebjlimpnmaoaa.Rw
