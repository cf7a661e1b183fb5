/- Timetables: Check, and what may follow. No condition. -/
import Derived.Test.YtpbmlhlpfbcnbaaRwTimedPlansb
namespace Go.Proofs.Ytpbmlhlpfbcnbaa.Rw
open Go.Rx
set_option linter.unusedVariables false
set_option linter.unusedSimpArgs false
abbrev Ride := Int × (Int × (Int × (Int × Int)))
def rbad (S : Int) (r : Ride) : Prop := r.1 < 0 ∨ r.2.1 < 0 ∨ S ≤ r.1 ∨ S ≤ r.2.1 ∨ r.2.2.1 < 0 ∨ 1073741824 < r.2.2.2.1 ∨ r.2.2.2.1 ≤ r.2.2.1
instance (S : Int) (r : Ride) : Decidable (rbad S r) := by unfold rbad; infer_instance
def tabL (S : Int) : Int → List Ride → Int
  | _, [] => 0
  | d, r :: l => if rbad S r then 1 else if r.2.2.1 < d then 9 else tabL S r.2.2.1 l
def tabF (S C : Int) (l : List Ride) : Int := if S < 0 ∨ 200 < S ∨ 400 < (l.length : Int) then 2 else if C < 0 ∨ 1073741824 < C then 1 else tabL S 0 l

/-! ### Check -/
def lastD (pre : List Ride) : Int := match pre.getLast? with
  | some q => q.2.2.1
  | none => 0
theorem f82_l0_step (k n : Nat) (S C : Int) (pre l : List Ride) (r : Ride) (hlen : ((pre ++ r :: l).length : Int) ≤ 400) :
    f82_l0 k (n + 1) S C (pre ++ r :: l) ((pre ++ r :: l).length : Int) (pre.length : Int) = if rbad S r then some (1, ()) else if r.2.2.1 < lastD pre then some (9, ()) else f82_l0 k n S C (pre ++ r :: l) ((pre ++ r :: l).length : Int) (((pre ++ [r]).length : Nat) : Int) := by
  have h0 : (pre.length : Int) < ((pre ++ r :: l).length : Int) := by simp; omega
  have h1 : (0 : Int) ≤ pre.length := by omega
  have hw : w64 ((pre.length : Int) + 1) = (((pre ++ [r]).length : Nat) : Int) := by
    rw [w64_id (by omega) (by simp at hlen; omega)]; simp
  rw [f82_l0, f82_l0_B, if_pos h0, if_pos h1, if_pos h0, getD_mid]
  have key : ∀ (g : Int → Int → List Ride → Int → Int → Int → Int → Int → Int → Int → Bool → Option (Int × Unit)) (x y : Option (Int × Unit)), g S C (pre ++ r :: l) r.1 r.2.1 r.2.2.1 r.2.2.2.1 r.2.2.2.2 ((pre ++ r :: l).length : Int) (pre.length : Int) true = x → (¬ rbad S r → g S C (pre ++ r :: l) r.1 r.2.1 r.2.2.1 r.2.2.2.1 r.2.2.2.2 ((pre ++ r :: l).length : Int) (pre.length : Int) false = y) →
      (if r.1 < 0 then g S C (pre ++ r :: l) r.1 r.2.1 r.2.2.1 r.2.2.2.1 r.2.2.2.2 ((pre ++ r :: l).length : Int) (pre.length : Int) true else if r.2.1 < 0 then g S C (pre ++ r :: l) r.1 r.2.1 r.2.2.1 r.2.2.2.1 r.2.2.2.2 ((pre ++ r :: l).length : Int) (pre.length : Int) true else if S ≤ r.1 then g S C (pre ++ r :: l) r.1 r.2.1 r.2.2.1 r.2.2.2.1 r.2.2.2.2 ((pre ++ r :: l).length : Int) (pre.length : Int) true
        else if S ≤ r.2.1 then g S C (pre ++ r :: l) r.1 r.2.1 r.2.2.1 r.2.2.2.1 r.2.2.2.2 ((pre ++ r :: l).length : Int) (pre.length : Int) true else if r.2.2.1 < 0 then g S C (pre ++ r :: l) r.1 r.2.1 r.2.2.1 r.2.2.2.1 r.2.2.2.2 ((pre ++ r :: l).length : Int) (pre.length : Int) true else if 1073741824 < r.2.2.2.1 then g S C (pre ++ r :: l) r.1 r.2.1 r.2.2.1 r.2.2.2.1 r.2.2.2.2 ((pre ++ r :: l).length : Int) (pre.length : Int) true
        else g S C (pre ++ r :: l) r.1 r.2.1 r.2.2.1 r.2.2.2.1 r.2.2.2.2 ((pre ++ r :: l).length : Int) (pre.length : Int) (decide (r.2.2.2.1 ≤ r.2.2.1))) = if rbad S r then x else y := fun g x y hx hy => by
    by_cases hb : rbad S r
    · rw [if_pos hb]
      unfold rbad at hb
      repeat' split
      all_goals first | exact hx | (exfalso; omega) | (have : r.2.2.2.1 ≤ r.2.2.1 := by omega
                                                       rw [decide_eq_true this]; exact hx)
    · have hy := hy hb
      rw [if_neg hb]
      unfold rbad at hb
      rw [if_neg (by omega), if_neg (by omega), if_neg (by omega), if_neg (by omega), if_neg (by omega), if_neg (by omega), decide_eq_false (by omega)]
      exact hy
  refine key _ _ _ ?_ fun hb => ?_
  · simp [f82_r8, f82_r8_B]
  · simp only [f82_r8, f82_r8_B, f82_r10, f82_r10_B, hw]
    rcases List.eq_nil_or_concat pre with rfl | ⟨p, q, rfl⟩
    · have hd : ¬ r.2.2.1 < 0 := fun h => hb (by unfold rbad; omega)
      simp [lastD, hd]
    · have e1 : (((p.concat q).length : Nat) : Int) = (p.length : Int) + 1 := by simp
      have e2 : w64 ((((p.concat q).length : Nat) : Int) - 1) = (p.length : Int) := by rw [e1, w64_id (by omega) (by simp at hlen; omega)]; omega
      have e3 : (p.concat q ++ r :: l).getD ((p.length : Int)).toNat (0, (0, (0, (0, 0)))) = q := by simp
      have e4 : lastD (p.concat q) = q.2.2.1 := by simp [lastD]
      have e5 : (0 : Int) < ((p.concat q).length : Int) := by rw [e1]; omega
      have e6 : (p.length : Int) < ((p.concat q ++ r :: l).length : Int) := by simp; omega
      have e7 : (0 : Int) ≤ (p.length : Int) := by omega
      simp only [Bool.false_eq_true, if_false, e2, if_pos e5, if_pos e6, if_pos e7, e3, e4]
      by_cases hd : r.2.2.1 < q.2.2.1 <;> simp [hd]
theorem f82_loop (S C : Int) : ∀ (l pre : List Ride), ((pre ++ l).length : Int) ≤ 400 → Ev2 (fun k n => f82_l0 k n S C (pre ++ l) ((pre ++ l).length : Int) (pre.length : Int)) (tabL S (lastD pre) l, ())
  | [], pre, h => Ev2.step (g := fun _ _ => some (0, ())) (fun k n => by rw [f82_l0, f82_l0_B, if_neg (by simp)]) (Ev2.pure _)
  | r :: l, pre, h => by
    refine Ev2.step (fun k n => f82_l0_step k n S C pre l r h) ?_
    simp only [tabL]
    split
    · exact Ev2.pure _
    · split
      · exact Ev2.pure _
      · have := f82_loop S C l (pre ++ [r]) (by simpa using h)
        rw [show pre ++ [r] ++ l = pre ++ r :: l by simp, show lastD (pre ++ [r]) = r.2.2.1 by simp [lastD]] at this
        exact this
theorem f82_ev (S C : Int) (l : List Ride) : Ev (fun k => f82 k (S, (C, l))) (tabF S C l, ()) := by
  unfold tabF
  by_cases h : S < 0 ∨ 200 < S ∨ 400 < (l.length : Int)
  · rw [if_pos h]
    refine Ev.of (g := fun _ => some (2, ())) (fun k => ?_) (Ev.pure _)
    simp only [f82, f82_entry_B, f82_r1, f82_r1_B]
    by_cases h1 : S < 0 <;> by_cases h2 : 200 < S <;> simp [h1, h2] <;> simp [h1, h2] at h <;> omega
  · rw [if_neg h]
    by_cases h4 : C < 0 ∨ 1073741824 < C
    · rw [if_pos h4]
      refine Ev.of (g := fun _ => some (1, ())) (fun k => ?_) (Ev.pure _)
      have h1 : ¬ S < 0 := by omega
      have h2 : ¬ 200 < S := by omega
      have h3 : ¬ 400 < (l.length : Int) := by omega
      simp only [f82, f82_entry_B, f82_r1, f82_r1_B, f82_r3, f82_r3_B, h1, h2, h3]
      by_cases h5 : C < 0 <;> by_cases h6 : 1073741824 < C <;> simp [h5, h6] <;> omega
    · rw [if_neg h4]
      have := (f82_loop S C l [] (by simp; omega)).diag
      refine Ev.of (fun k => ?_) this
      have h1 : ¬ S < 0 := by omega
      have h2 : ¬ 200 < S := by omega
      have h3 : ¬ 400 < (l.length : Int) := by omega
      have h5 : ¬ C < 0 := by omega
      have h6 : ¬ 1073741824 < C := by omega
      simp [f82, f82_entry_B, f82_r1, f82_r1_B, f82_r3, f82_r3_B, h1, h2, h3, h5, h6]

/-! ### Right -/
def canF (C : Int) (a b : Ride) : Bool := if a.2.2.2.2 = b.2.2.2.2 then decide (a.2.1 = b.1) && decide (a.2.2.2.1 ≤ b.2.2.1) else decide (a.2.1 = b.1) && decide (a.2.2.2.1 ≤ w64 (b.2.2.1 - C))
def folF (C : Int) (a b : Ride) : Bool := decide (a.2.1 = b.1) && decide ((if a.2.2.2.2 = b.2.2.2.2 then 0 else C) ≤ w64 (b.2.2.1 - a.2.2.2.1))
theorem f83_eq' (k : Nat) (S C : Int) (l : List Ride) (a b : Ride) : f83 k (S, (C, l)) a b = some (folF C a b, ()) := by
  simp only [f83, f83_entry_B, f83_c3, f83_c3_B, f83_r4, f83_r4_B, folF]
  by_cases h1 : a.2.2.2.2 = b.2.2.2.2 <;> by_cases h2 : a.2.1 = b.1 <;> simp [h1, h2]
theorem can_fol {S C : Int} (hC : 0 ≤ C ∧ C ≤ 1073741824) {a b : Ride} (ha : ¬ rbad S a) (hb : ¬ rbad S b) : canF C a b = folF C a b := by
  unfold rbad at ha hb
  unfold canF folF
  rw [w64_id (by omega) (by omega), w64_id (by omega) (by omega)]
  by_cases h1 : a.2.2.2.2 = b.2.2.2.2
  · simp only [h1, if_true]
    congr 1
    exact decide_eq_decide.2 (by omega)
  · simp only [h1, if_false]
    congr 1
    exact decide_eq_decide.2 (by omega)
def zR : Ride := (0, (0, (0, (0, 0))))
theorem eta5 (r : Ride) : (r.1, (r.2.1, (r.2.2.1, (r.2.2.2.1, r.2.2.2.2)))) = r := rfl
theorem getD_prev {α : Type} {p m : List α} {q z : α} : ((p.concat q) ++ m).getD ((p.length : Int)).toNat z = q := by simp
theorem tabL_good {S : Int} : ∀ {l : List Ride} {d : Int}, tabL S d l = 0 → ∀ r ∈ l, ¬ rbad S r
  | r :: l, d, h, q, hq => by
    simp only [tabL] at h
    split at h
    · cases h
    · rename_i hb
      split at h
      · cases h
      · rcases List.mem_cons.1 hq with rfl | hq
        · exact hb
        · exact tabL_good h q hq
end Go.Proofs.Ytpbmlhlpfbcnbaa.Rw
