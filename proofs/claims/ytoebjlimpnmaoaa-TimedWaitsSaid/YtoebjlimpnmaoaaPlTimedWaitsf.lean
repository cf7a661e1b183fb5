/- slices.SortFunc of a few bans: the same ones in some order. No condition. -/
import Derived.Test.YtoebjlimpnmaoaaPlTimedWaitse
namespace Go.Proofs.Ytoebjlimpnmaoaa.Rw
open Go.Rx
set_option linter.unusedVariables false
set_option linter.unusedSimpArgs false

def cmpB (p q : Pt) : Int := if p.1 = q.1 then w64 (p.2 - q.2) else w64 (p.1 - q.1)
theorem cmpB_eq (k : Nat) (p q : Pt) : f48 k p q = some (cmpB p q, ()) := by
  simp only [f48, f48_entry_B, cmpB]
  by_cases h : p.1 = q.1 <;> simp [h]
theorem swap_perm (y : List Pt) {i j : Nat} (hi : i < y.length) (hj : j < y.length) (z : Pt) : ((y.set i (y.getD j z)).set j (y.getD i z)).Perm y := by
  rw [List.getD_eq_getElem?_getD, List.getElem?_eq_getElem hj, List.getD_eq_getElem?_getD, List.getElem?_eq_getElem hi]
  exact List.set_set_perm hi hj
theorem ins_in {b i : Nat} (hi : (i : Int) ≤ 1000000) : ∀ (j : Nat) (y : List Pt), j ≤ i → j < y.length →
    ∃ y', y'.Perm y ∧ ∀ res, Ev2 (fun k n => f96_l0 k n y' 0 (b : Int) ((i + 1 : Nat) : Int)) res → Ev3 (fun k n m => f96_l2 k (f96_l0 k n) m y 0 (b : Int) (i : Int) (j : Int)) res
  | 0, y, hji, hj => by
    have hw : w64 ((i : Int) + 1) = ((i + 1 : Nat) : Int) := by rw [w64_id (by omega) (by omega)]; omega
    refine ⟨y, List.Perm.refl _, fun res h => Ev3.step (fun k n m => ?_) h.three⟩
    rw [f96_l2, f96_l2_B, if_neg (by omega), f96_r4, f96_r4_B, if_neg (by simp), hw]
  | j + 1, y, hji, hj => by
    have hw : w64 ((i : Int) + 1) = ((i + 1 : Nat) : Int) := by rw [w64_id (by omega) (by omega)]; omega
    have hw1 : w64 (((j + 1 : Nat) : Int) - 1) = (j : Int) := by rw [w64_id (by omega) (by omega)]; omega
    have c0 : (0 : Int) < ((j + 1 : Nat) : Int) := by omega
    have c1 : (0 : Int) ≤ ((j + 1 : Nat) : Int) := by omega
    have c2 : ((j + 1 : Nat) : Int) < (y.length : Int) := by omega
    have c3 : (0 : Int) ≤ (j : Int) := by omega
    have c4 : (j : Int) < (y.length : Int) := by omega
    by_cases hc : cmpB (y.getD (j + 1) (0, 0)) (y.getD j (0, 0)) < 0
    · obtain ⟨y', p1, p2⟩ := ins_in hi j ((y.set (j + 1) (y.getD j (0, 0))).set j (y.getD (j + 1) (0, 0))) (by omega) (by simp; omega)
      refine ⟨y', p1.trans (swap_perm y hj (by omega) (0, 0)), fun res h => Ev3.step (fun k n m => ?_) (p2 res h)⟩
      rw [f96_l2, f96_l2_B, if_pos c0, if_pos c1, if_pos c2, hw1, if_pos c3, if_pos c4]
      simp only [Int.toNat_natCast, cmpB_eq, Option.bind_some]
      rw [show decide (cmpB (y.getD (j + 1) (0, 0)) (y.getD j (0, 0)) < 0) = true from decide_eq_true hc, f96_r4, f96_r4_B, if_pos rfl, hw1, if_pos c3, if_pos c4, if_pos c1, if_pos c2, if_pos c1, if_pos c2, if_pos c3, if_pos (by simp only [List.length_set]; exact c4)]
      simp only [Int.toNat_natCast]
    · refine ⟨y, List.Perm.refl _, fun res h => Ev3.step (fun k n m => ?_) h.three⟩
      rw [f96_l2, f96_l2_B, if_pos c0, if_pos c1, if_pos c2, hw1, if_pos c3, if_pos c4]
      simp only [Int.toNat_natCast, cmpB_eq, Option.bind_some]
      rw [show decide (cmpB (y.getD (j + 1) (0, 0)) (y.getD j (0, 0)) < 0) = false from decide_eq_false hc, f96_r4, f96_r4_B, if_neg (by simp), hw]
theorem ins_out {b : Nat} (hb : b ≤ 1000) : ∀ (d i : Nat) (y : List Pt), b ≤ i + d → y.length = b → i ≤ 1000 →
    ∃ y', y'.Perm y ∧ Ev2 (fun k n => f96_l0 k n y 0 (b : Int) (i : Int)) ((y', ()), ())
  | 0, i, y, hd, hl, hi => ⟨y, List.Perm.refl _, Ev2.step (g := fun _ _ => some ((y, ()), ())) (fun k n => by rw [f96_l0, f96_l0_B, if_neg (by omega)]) (Ev2.pure _)⟩
  | d + 1, i, y, hd, hl, hi => by
    by_cases h : i < b
    · obtain ⟨y1, p1, p2⟩ := ins_in (b := b) (i := i) (by omega) i y (Nat.le_refl _) (by omega)
      obtain ⟨y2, q1, q2⟩ := ins_out hb d (i + 1) y1 (by omega) (p1.length_eq.trans hl) (by omega)
      refine ⟨y2, q1.trans p1, Ev2.step (fun k n => ?_) (p2 _ q2).in_⟩
      rw [f96_l0, f96_l0_B, if_pos (by omega)]
    · exact ⟨y, List.Perm.refl _, Ev2.step (g := fun _ _ => some ((y, ()), ())) (fun k n => by rw [f96_l0, f96_l0_B, if_neg (by omega)]) (Ev2.pure _)⟩
theorem len3 (n : Nat) (h : n ≤ 3) : ∃ r, ∀ k, f68 k (IntKind.u64.wrap (n : Int)) = some (r, ()) := by
  match n, h with
  | 0, _ => exact ⟨0, fun k => by kernel_rfl⟩
  | 1, _ => exact ⟨1, fun k => by kernel_rfl⟩
  | 2, _ => exact ⟨2, fun k => by kernel_rfl⟩
  | 3, _ => exact ⟨2, fun k => by kernel_rfl⟩
theorem sortB_ev (y : List Pt) (h : y.length ≤ 3) : ∃ y', y'.Perm y ∧ Ev (fun k => f47 k y ()) ((y', ()), ()) := by
  obtain ⟨r, hr⟩ := len3 y.length h
  obtain ⟨y', p1, p2⟩ := ins_out (b := y.length) (by omega) y.length 1 y (by omega) rfl (by omega)
  refine ⟨y', p1, ?_⟩
  simp only [f47, f47_entry_B, hr, Option.bind_some]
  have hw : w64 ((y.length : Int) - 0) = (y.length : Int) := by rw [w64_id (by omega) (by omega)]; omega
  have hp : Ev (fun k => f71 k y 0 (y.length : Int) r ()) ((y', ()), ()) := by
    simp only [f71, f71_entry_B]
    refine Ev2.diag (f := fun k n => f71_l0 k n y 0 (y.length : Int) r) ?_
    have hi : Ev (fun k => f96 k y 0 (y.length : Int) ()) ((y', ()), ()) := by
      simp only [f96, f96_entry_B]
      exact p2.diag
    refine Ev2.step (g := fun k _ => (f96 k y 0 (y.length : Int) ()).bind fun r1 => some ((r1.1.1, ()), ())) (fun k n => ?_) (Ev.two (hi.bind (Ev.pure _)))
    rw [f71_l0, f71_l0_B, hw, if_pos (by omega)]
  exact hp.bind (Ev.pure _)
end Go.Proofs.Ytoebjlimpnmaoaa.Rw
