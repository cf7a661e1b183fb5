/- Timetables: the reference's earliest arrival. No condition. -/
import Derived.Test.YthjejgaekoopnaaPlTimedLastsd
namespace Go.Proofs.Ythjejgaekoopnaa.Rw
open Go.Rx
set_option linter.unusedVariables false
set_option linter.unusedSimpArgs false
def tIn (C : Int) (rides : List Ride) (kk i : Nat) (t : List Bool) : List Bool := t.set kk (t.getD kk false || (t.getD i false && canF C (rides.getD i zR) (rides.getD kk zR)))
def arrStep (t : List Bool) (r : Ride) (kk : Nat) (to : Int) (o : Int × Bool) : Int × Bool := if t.getD kk false = true ∧ r.2.1 = to ∧ (o.2 = false ∨ r.2.2.2.1 < o.1) then (r.2.2.2.1, true) else o
theorem f78x (k : Nat) (S C : Int) (l : List Ride) (a b : Ride) : f78 k (S, (C, l)) a b = some (canF C a b, ()) := f78_eq' k S C l a b
theorem arr_inner {RL : Nat → Nat → List Bool → Int → Int → List Ride → Int → Int → Bool → Int → Int → Int → Int → Option (Int × Bool × Unit)} {res : Int × Bool × Unit} (S C fr at_ to out L : Int) (ok : Bool) (rides : List Ride) (kk : Nat) (hkk : kk < rides.length) (hr : rides.length ≤ 400) (r : Ride) (hrk : rides.getD kk zR = r) :
    ∀ (d i : Nat) (t : List Bool), i + d = kk → t.length = rides.length → Ev2 (fun k n => RL k n ((List.range' i d).foldl (fun t j => tIn C rides kk j t) t) S C rides fr (arrStep ((List.range' i d).foldl (fun t j => tIn C rides kk j t) t) r kk to (out, ok)).1 (arrStep ((List.range' i d).foldl (fun t j => tIn C rides kk j t) t) r kk to (out, ok)).2 to L ((kk : Int) + 1) at_) res →
      Ev3 (fun k n m => f55_l2 k (RL k n) m r.1 r.2.1 r.2.2.1 r.2.2.2.1 r.2.2.2.2 t S C rides fr out ok (kk : Int) to L at_ (rides.take kk) ((rides.take kk).length : Int) (i : Int)) res
  | 0, i, t, hid, hl, hfin => by
    have hlt : (rides.take kk).length = kk := by simp; omega
    have h0 : (0 : Int) ≤ (kk : Int) := by omega
    have h2 : (kk : Int) < (t.length : Int) := by omega
    have hw : w64 ((kk : Int) + 1) = (kk : Int) + 1 := w64_id (by omega) (by omega)
    refine Ev3.step (fun k n m => ?_) (Ev2.three hfin)
    rw [f55_l2, f55_l2_B, if_neg (by omega), if_pos h0, if_pos h2]
    simp only [f55_r12, f55_r12_B, f55_c13, f55_c13_B, hw, Int.toNat_natCast, List.range'_zero, List.foldl_nil, arrStep]
    cases ht : t.getD kk false with
    | false => simp
    | true =>
      by_cases c1 : r.2.1 = to
      · cases ok with
        | false => simp [c1]
        | true => by_cases c2 : r.2.2.2.1 < out <;> simp [c1, c2]
      · simp [c1]
  | d + 1, i, t, hid, hl, hfin => by
    have hlt : (rides.take kk).length = kk := by simp; omega
    have h0 : (0 : Int) ≤ (kk : Int) := by omega
    have h2 : (kk : Int) < (t.length : Int) := by omega
    have hi0 : (0 : Int) ≤ (i : Int) := by omega
    have hi1 : (i : Int) < ((rides.take kk).length : Int) := by omega
    have hi2 : (i : Int) < (t.length : Int) := by omega
    have hw : w64 ((i : Int) + 1) = ((i + 1 : Nat) : Int) := by rw [w64_id (by omega) (by omega)]; omega
    have hrd : ∀ z : Ride, (rides.take kk).getD i z = rides.getD i zR := fun z => by
      have : i < rides.length := by omega
      simp [List.getD_eq_getElem?_getD, List.getElem?_take, List.getElem?_eq_getElem this, show i < kk by omega]
    simp only [List.range'_succ, List.foldl_cons] at hfin
    have ih := arr_inner (RL := RL) (res := res) S C fr at_ to out L ok rides kk hkk hr r hrk d (i + 1) (tIn C rides kk i t) (by omega) (by simp [tIn, hl]) hfin
    refine Ev3.step (fun k n m => ?_) ih
    rw [f55_l2, f55_l2_B, if_pos hi1, if_pos hi0, if_pos hi1, if_pos h0, if_pos h2]
    simp only [f55_r10, f55_r10_B, hw, Int.toNat_natCast, hrd, eta5, if_pos h0, if_pos h2, if_pos hi0, if_pos hi2, f78x, Option.bind_some, tIn, hrk]
    cases t.getD kk false with
    | true => simp
    | false =>
      cases t.getD i false with
      | false => simp
      | true => simp

def tStep (C fr at_ : Int) (rides : List Ride) (kk : Nat) (t : List Bool) : List Bool :=
  (List.range' 0 kk).foldl (fun t j => tIn C rides kk j t) (t.set kk (decide ((rides.getD kk zR).1 = fr) && decide (at_ ≤ (rides.getD kk zR).2.2.1)))
def arrFold (C fr at_ to : Int) (rides : List Ride) (ks : List Nat) (a : List Bool × Int × Bool) : List Bool × Int × Bool :=
  ks.foldl (fun a kk => (tStep C fr at_ rides kk a.1, arrStep (tStep C fr at_ rides kk a.1) (rides.getD kk zR) kk to a.2)) a
theorem tStep_len {C fr at_ : Int} {rides : List Ride} {kk : Nat} {t : List Bool} : (tStep C fr at_ rides kk t).length = t.length := by
  have key : ∀ (l : List Nat) (t : List Bool), (l.foldl (fun t j => tIn C rides kk j t) t).length = t.length := fun l => by
    induction l with
    | nil => exact fun _ => rfl
    | cons i l ih => intro t; rw [List.foldl_cons, ih]; simp [tIn]
  unfold tStep
  rw [key]
  simp
theorem arr_outer (S C fr at_ to : Int) (rides : List Ride) (hr : rides.length ≤ 400) : ∀ (d kk : Nat) (t : List Bool) (out : Int) (ok : Bool), kk + d = rides.length → t.length = rides.length →
    Ev2 (fun k n => f55_l0 k n t S C rides fr out ok to (rides.length : Int) (kk : Int) at_) ((arrFold C fr at_ to rides (List.range' kk d) (t, out, ok)).2.1, (arrFold C fr at_ to rides (List.range' kk d) (t, out, ok)).2.2, ())
  | 0, kk, t, out, ok, hid, hl => Ev2.step (g := fun _ _ => some (out, ok, ())) (fun k n => by rw [f55_l0, f55_l0_B, if_neg (by omega)]; simp) (Ev2.pure _)
  | d + 1, kk, t, out, ok, hid, hl => by
    have h1 : (kk : Int) < (rides.length : Int) := by omega
    have h1' : (kk : Int) ≤ (rides.length : Int) := by omega
    have h0 : (0 : Int) ≤ (kk : Int) := by omega
    have h2 : (kk : Int) < (t.length : Int) := by omega
    have hrd : ∀ z : Ride, rides.getD kk z = rides.getD kk zR := fun z => by
      have : kk < rides.length := by omega
      simp [List.getD_eq_getElem?_getD, List.getElem?_eq_getElem this]
    have ih := arr_outer S C fr at_ to rides hr d (kk + 1) (tStep C fr at_ rides kk t) (arrStep (tStep C fr at_ rides kk t) (rides.getD kk zR) kk to (out, ok)).1 (arrStep (tStep C fr at_ rides kk t) (rides.getD kk zR) kk to (out, ok)).2 (by omega) (by rw [tStep_len]; exact hl)
    have e : arrFold C fr at_ to rides (List.range' kk (d + 1)) (t, out, ok) = arrFold C fr at_ to rides (List.range' (kk + 1) d) (tStep C fr at_ rides kk t, (arrStep (tStep C fr at_ rides kk t) (rides.getD kk zR) kk to (out, ok)).1, (arrStep (tStep C fr at_ rides kk t) (rides.getD kk zR) kk to (out, ok)).2) := by
      simp only [arrFold, List.range'_succ, List.foldl_cons]
    rw [e]
    have hin := (arr_inner (RL := fun k n => f55_l0 k n) S C fr at_ to out (rides.length : Int) ok rides kk (by omega) hr (rides.getD kk zR) rfl kk 0 (t.set kk (decide ((rides.getD kk zR).1 = fr) && decide (at_ ≤ (rides.getD kk zR).2.2.1))) (by omega) (by simp [hl]) (by simpa [tStep] using ih)).in_
    refine Ev2.step (fun k n => ?_) hin
    rw [f55_l0, f55_l0_B, if_pos h1, if_pos h0, if_pos h1]
    simp only [Int.toNat_natCast, hrd, if_pos h0, if_pos h2, f55_r6, f55_r6_B, if_pos h1', Bool.decide_eq_true]
    by_cases c1 : (rides.getD kk zR).1 = fr
    · simp only [c1, if_true, decide_true, Bool.true_and]
      rfl
    · simp only [c1, if_false, decide_false, Bool.false_and]
      rfl
def arrF (C fr at_ to : Int) (rides : List Ride) : Int × Bool := (arrFold C fr at_ to rides (List.range' 0 rides.length) (List.replicate rides.length false, 0, false)).2
theorem arr_ev (S C fr at_ to : Int) (rides : List Ride) (hr : rides.length ≤ 400) : Ev (fun k => f55 k (S, (C, rides)) fr to at_) ((arrF C fr at_ to rides).1, (arrF C fr at_ to rides).2, ()) := by
  have h := (arr_outer S C fr at_ to rides hr rides.length 0 (List.replicate rides.length false) 0 false (by omega) (by simp)).diag
  refine Ev.of (fun k => ?_) h
  simp only [f55, f55_entry_B]
  rw [if_pos (by omega), if_pos (by omega)]
  simp
end Go.Proofs.Ythjejgaekoopnaa.Rw
