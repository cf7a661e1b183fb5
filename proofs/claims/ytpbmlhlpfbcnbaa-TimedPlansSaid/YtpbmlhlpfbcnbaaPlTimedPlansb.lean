/- Timetables: the reference of Check and of what may follow. No condition. -/
import Derived.Test.YtpbmlhlpfbcnbaaPlTimedPlansa
namespace Go.Proofs.Ytpbmlhlpfbcnbaa.Rw
open Go.Rx
set_option linter.unusedVariables false
set_option linter.unusedSimpArgs false
theorem f76_l0_step (k n : Nat) (S C : Int) (pre l : List Ride) (r : Ride) (d : Int) (hlen : ((pre ++ r :: l).length : Int) ≤ 400) :
    f76_l0 k (n + 1) S C (pre ++ r :: l) d ((pre ++ r :: l).length : Int) (pre.length : Int) = if rbad S r then some (1, ()) else if r.2.2.1 < d then some (9, ()) else f76_l0 k n S C (pre ++ r :: l) r.2.2.1 ((pre ++ r :: l).length : Int) (((pre ++ [r]).length : Nat) : Int) := by
  have h0 : (pre.length : Int) < ((pre ++ r :: l).length : Int) := by simp; omega
  have h1 : (0 : Int) ≤ pre.length := by omega
  have hw : w64 ((pre.length : Int) + 1) = (((pre ++ [r]).length : Nat) : Int) := by
    rw [w64_id (by omega) (by simp at hlen; omega)]; simp
  rw [f76_l0, f76_l0_B, if_pos h0, if_pos h1, if_pos h0, getD_mid]
  simp only [f76_r9, f76_r9_B, hw, mx2_min, mx2_max, decide_eq_true_eq]
  by_cases hb : rbad S r
  · rw [if_pos hb]
    unfold rbad at hb
    repeat' split
    all_goals first | rfl | (exfalso; omega) | (exfalso; simp at *; omega) | (exfalso; simp at *)
  · rw [if_neg hb]
    unfold rbad at hb
    repeat' split
    all_goals first | rfl | (exfalso; omega) | (exfalso; simp at *; omega) | (exfalso; simp at *)
theorem f76_loop (S C : Int) : ∀ (l pre : List Ride) (d : Int), ((pre ++ l).length : Int) ≤ 400 → Ev2 (fun k n => f76_l0 k n S C (pre ++ l) d ((pre ++ l).length : Int) (pre.length : Int)) (tabL S d l, ())
  | [], pre, d, h => Ev2.step (g := fun _ _ => some (0, ())) (fun k n => by rw [f76_l0, f76_l0_B, if_neg (by simp)]) (Ev2.pure _)
  | r :: l, pre, d, h => by
    refine Ev2.step (fun k n => f76_l0_step k n S C pre l r d h) ?_
    simp only [tabL]
    split
    · exact Ev2.pure _
    · split
      · exact Ev2.pure _
      · have := f76_loop S C l (pre ++ [r]) r.2.2.1 (by simpa using h)
        rw [show pre ++ [r] ++ l = pre ++ r :: l by simp] at this
        exact this
theorem f76_ev (S C : Int) (l : List Ride) : Ev (fun k => f76 k (S, (C, l))) (tabF S C l, ()) := by
  unfold tabF
  by_cases h : S < 0 ∨ 200 < S ∨ 400 < (l.length : Int)
  · rw [if_pos h]
    refine Ev.of (g := fun _ => some (2, ())) (fun k => ?_) (Ev.pure _)
    simp only [f76, f76_entry_B, f76_r1, f76_r1_B]
    by_cases h1 : S < 0 <;> by_cases h2 : 200 < S <;> simp [h1, h2] <;> simp [h1, h2] at h <;> omega
  · rw [if_neg h]
    by_cases h4 : C < 0 ∨ 1073741824 < C
    · rw [if_pos h4]
      refine Ev.of (g := fun _ => some (1, ())) (fun k => ?_) (Ev.pure _)
      have h1 : ¬ S < 0 := by omega
      have h2 : ¬ 200 < S := by omega
      have h3 : ¬ 400 < (l.length : Int) := by omega
      simp only [f76, f76_entry_B, f76_r1, f76_r1_B, f76_r3, f76_r3_B, h1, h2, h3]
      by_cases h5 : C < 0 <;> by_cases h6 : 1073741824 < C <;> simp [h5, h6] <;> omega
    · rw [if_neg h4]
      have := (f76_loop S C l [] 0 (by simp; omega)).diag
      refine Ev.of (fun k => ?_) this
      have h1 : ¬ S < 0 := by omega
      have h2 : ¬ 200 < S := by omega
      have h3 : ¬ 400 < (l.length : Int) := by omega
      have h5 : ¬ C < 0 := by omega
      have h6 : ¬ 1073741824 < C := by omega
      simp [f76, f76_entry_B, f76_r1, f76_r1_B, f76_r3, f76_r3_B, h1, h2, h3, h5, h6]

theorem f77_eq' (k : Nat) (S C : Int) (l : List Ride) (a b : Ride) : f77 k (S, (C, l)) a b = some (canF C a b, ()) := by
  simp only [f77, f77_entry_B, f77_c2, f77_c2_B, f77_r2, f77_r2_B, f77_r3, f77_r3_B, canF]
  by_cases h1 : a.2.2.2.2 = b.2.2.2.2 <;> by_cases h2 : a.2.1 = b.1 <;> simp [h1, h2]
end Go.Proofs.Ytpbmlhlpfbcnbaa.Rw
