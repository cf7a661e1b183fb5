/- Timetables: Last returns what the reference says. No condition. -/
import Derived.Test.YthjejgaekoopnaaPlTimedLastf
namespace Go.Proofs.Ythjejgaekoopnaa.Rw
open Go.Rx
set_option linter.unusedVariables false
set_option linter.unusedSimpArgs false
def lastStep (S C fr to by_ : Int) (rides : List Ride) (j : Nat) (out : Int) : Int := if ¬ (rides.getD j zR).1 = fr then out else if inTime S C rides fr to by_ (rides.getD j zR).2.2.1 then max out (rides.getD j zR).2.2.1 else out
theorem last_loop (S C fr to by_ : Int) (rides : List Ride) (hr : rides.length ≤ 400) (hab : ¬ fr = to) (hf : ∀ r ∈ rides, faultF S C rides fr to r.2.2.1 = 0) : ∀ (d i : Nat) (out : Int), i + d = rides.length →
    Ev2 (fun k n => f51_l0 k n S C rides fr out to by_ (rides.length : Int) (i : Int)) (if (List.range' i d).foldl (fun o j => lastStep S C fr to by_ rides j o) out < 0 then (0, 17, ()) else ((List.range' i d).foldl (fun o j => lastStep S C fr to by_ rides j o) out, 0, ()))
  | 0, i, out, hid => by
    refine Ev2.step (g := fun _ _ => some (if out < 0 then (0, 17, ()) else (out, 0, ()))) (fun k n => ?_) (Ev2.pure _)
    rw [f51_l0, f51_l0_B, if_neg (by omega)]
    split <;> rfl
  | d + 1, i, out, hid => by
    have h1 : (i : Int) < (rides.length : Int) := by omega
    have h0 : (0 : Int) ≤ (i : Int) := by omega
    have hw : w64 ((i : Int) + 1) = ((i + 1 : Nat) : Int) := by rw [w64_id (by omega) (by omega)]; omega
    have hrd : ∀ z : Ride, rides.getD i z = rides.getD i zR := fun z => by
      have : i < rides.length := by omega
      simp [List.getD_eq_getElem?_getD, List.getElem?_eq_getElem this]
    have hmem : rides.getD i zR ∈ rides := by
      rw [List.getD_eq_getElem?_getD, List.getElem?_eq_getElem (by omega)]
      exact List.getElem_mem _
    simp only [List.range'_succ, List.foldl_cons]
    have ih := last_loop S C fr to by_ rides hr hab hf d (i + 1) (lastStep S C fr to by_ rides i out) (by omega)
    by_cases c1 : (rides.getD i zR).1 = fr
    · by_cases c2 : (rides.getD i zR).2.2.1 ≤ out
      · have e : lastStep S C fr to by_ rides i out = out := by
          unfold lastStep; rw [if_neg (not_not_intro c1)]; split
          · omega
          · rfl
        rw [e] at ih ⊢
        refine Ev2.step (fun k n => ?_) ih
        rw [f51_l0, f51_l0_B, if_pos h1, if_pos h0, if_pos h1]
        simp only [Int.toNat_natCast, hrd, c1, c2, not_true_eq_false, if_false, decide_true, f51_r12, f51_r12_B, if_true, f51_b1, f51_b1_B, hw]
      · have hp := plan_time (by_ := by_) (hf _ hmem) hab
        have hpl := plan_ev S C rides fr to (rides.getD i zR).2.2.1
        refine Ev2.step (g := fun k n => (f53 k (S, (C, rides)) fr to (rides.getD i zR).2.2.1).bind fun r1 => if r1.2.2.1 = 0 ∧ r1.2.1 ≤ by_ then f51_l0 k n S C rides fr (rides.getD i zR).2.2.1 to by_ (rides.length : Int) ((i + 1 : Nat) : Int) else f51_l0 k n S C rides fr out to by_ (rides.length : Int) ((i + 1 : Nat) : Int)) (fun k n => ?_) (hpl.bind2 ?_)
        · rw [f51_l0, f51_l0_B, if_pos h1, if_pos h0, if_pos h1]
          simp only [Int.toNat_natCast, hrd, c1, c2, not_true_eq_false, if_false, decide_false, f51_r12, f51_r12_B, Bool.false_eq_true, f51_r14, f51_r14_B, f51_c15, f51_c15_B, f51_b1, f51_b1_B, hw]
          congr 1
          funext r1
          by_cases g1 : r1.2.2.1 = 0 <;> by_cases g2 : r1.2.1 ≤ by_ <;> simp [g1, g2]
        · by_cases c3 : inTime S C rides fr to by_ (rides.getD i zR).2.2.1
          · have e : lastStep S C fr to by_ rides i out = (rides.getD i zR).2.2.1 := by unfold lastStep; rw [if_neg (not_not_intro c1), if_pos c3]; omega
            rw [e] at ih ⊢
            simp only [if_pos (hp.2 c3)]
            exact ih
          · have e : lastStep S C fr to by_ rides i out = out := by unfold lastStep; rw [if_neg (not_not_intro c1), if_neg c3]
            rw [e] at ih ⊢
            simp only [if_neg (fun z => c3 (hp.1 z))]
            exact ih
    · have e : lastStep S C fr to by_ rides i out = out := by unfold lastStep; rw [if_pos c1]
      rw [e] at ih ⊢
      refine Ev2.step (fun k n => ?_) ih
      rw [f51_l0, f51_l0_B, if_pos h1, if_pos h0, if_pos h1]
      simp only [Int.toNat_natCast, hrd, c1, not_false_eq_true, if_true, f51_r12, f51_r12_B, f51_b1, f51_b1_B, hw]
def lastW (S C fr to by_ : Int) (rides : List Ride) : Int := (List.range' 0 rides.length).foldl (fun o j => lastStep S C fr to by_ rides j o) (-1)
def lastF (S C : Int) (l : List Ride) (a b by_ : Int) : Int × Int × Unit :=
  if faultF S C l a b by_ = 0 then (if a = b then (by_, 0, ()) else if lastW S C a b by_ l < 0 then (0, 17, ()) else (lastW S C a b by_ l, 0, ())) else (0, faultF S C l a b by_, ())
theorem fault_ride {S C : Int} {l : List Ride} {a b by_ : Int} (h : faultF S C l a b by_ = 0) : ∀ r ∈ l, faultF S C l a b r.2.2.1 = 0 := fun r hr => by
  have ht : tabF S C l = 0 := by
    unfold faultF at h; split at h
    · assumption
    · exact h
  have hg := (good_of ht).2.1 r hr
  unfold rbad at hg
  unfold faultF at h ⊢
  rw [if_pos ht] at h ⊢
  split at h
  · cases h
  · rename_i g1
    split at h
    · cases h
    · rename_i g2
      rw [if_neg g1, if_neg g2, if_neg (by omega)]
theorem last_ev (S C : Int) (l : List Ride) (a b by_ : Int) : Ev (fun k => f51 k (S, (C, l)) a b by_) (lastF S C l a b by_) := by
  simp only [f51, f51_entry_B]
  refine (valid_ev S C l a b).bind ?_
  have hfr := @fault_ride S C l a b by_
  unfold lastF
  unfold faultF at hfr ⊢
  unfold validF
  by_cases h0 : tabF S C l = 0
  · simp only [h0, if_true] at hfr ⊢
    by_cases h1 : badS S a
    · simp only [h1, if_true]
      exact Ev.of (fun k => by simp) (Ev.pure _)
    · simp only [h1, if_false] at hfr ⊢
      by_cases h2 : badS S b
      · simp only [h2, if_true]
        exact Ev.of (fun k => by simp) (Ev.pure _)
      · simp only [h2, if_false, not_true_eq_false] at hfr ⊢
        by_cases h3 : by_ < 0 ∨ 1073741824 < by_
        · simp only [if_pos h3]
          refine Ev.of (fun k => ?_) (Ev.pure _)
          by_cases h4 : by_ < 0
          · simp [h4, f51_r4, f51_r4_B]
          · have h5 : 1073741824 < by_ := by omega
            simp [h4, h5, f51_r4, f51_r4_B]
        · have h4 : ¬ by_ < 0 := by omega
          have h5 : ¬ 1073741824 < by_ := by omega
          simp only [if_neg h3, if_neg h4, f51_r4, f51_r4_B, if_true, decide_eq_false h5, Bool.false_eq_true, if_false] at hfr ⊢
          by_cases h6 : a = b
          · simp only [if_pos h6]
            exact Ev.pure _
          · simp only [if_neg h6]
            have hf : ∀ r ∈ l, faultF S C l a b r.2.2.1 = 0 := fault_ride (by_ := by_) (by unfold faultF; rw [if_pos h0, if_neg h1, if_neg h2, if_neg h3])
            exact (last_loop S C a b by_ l (tabF_len h0) h6 hf l.length 0 (-1) (by omega)).diag
  · simp only [h0, if_false]
    exact Ev.of (fun k => by simp [h0]) (Ev.pure _)
end Go.Proofs.Ythjejgaekoopnaa.Rw
