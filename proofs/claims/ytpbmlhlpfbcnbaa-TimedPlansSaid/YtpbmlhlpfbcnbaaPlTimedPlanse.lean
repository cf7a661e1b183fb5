/- Timetables: the earliest arrival, plainly. No condition. -/
import Derived.Test.YtpbmlhlpfbcnbaaPlTimedPlansd
namespace Go.Proofs.Ytpbmlhlpfbcnbaa.Rw
open Go.Rx
set_option linter.unusedVariables false
set_option linter.unusedSimpArgs false
def tIn (C : Int) (rides : List Ride) (kk i : Nat) (t : List Bool) : List Bool := t.set kk (t.getD kk false || (t.getD i false && canF C (rides.getD i zR) (rides.getD kk zR)))
def arrStep (t : List Bool) (r : Ride) (kk : Nat) (to : Int) (o : Int × Bool) : Int × Bool := if t.getD kk false = true ∧ r.2.1 = to ∧ (o.2 = false ∨ r.2.2.2.1 < o.1) then (r.2.2.2.1, true) else o
def tStep (C fr at_ : Int) (rides : List Ride) (kk : Nat) (t : List Bool) : List Bool :=
  (List.range' 0 kk).foldl (fun t j => tIn C rides kk j t) (t.set kk (decide ((rides.getD kk zR).1 = fr) && decide (at_ ≤ (rides.getD kk zR).2.2.1)))
def arrFold (C fr at_ to : Int) (rides : List Ride) (ks : List Nat) (a : List Bool × Int × Bool) : List Bool × Int × Bool :=
  ks.foldl (fun a kk => (tStep C fr at_ rides kk a.1, arrStep (tStep C fr at_ rides kk a.1) (rides.getD kk zR) kk to a.2)) a
theorem tStep_len {C fr at_ : Int} {rides : List Ride} {kk : Nat} {t : List Bool} : (tStep C fr at_ rides kk t).length = t.length := by
  have key : ∀ (l : List Nat) (t : List Bool), (l.foldl (fun t j => tIn C rides kk j t) t).length = t.length := fun l => by
    induction l with
    | nil => exact fun _ => rfl
    | cons i l ih => intro t; rw [List.foldl_cons, ih]; simp [tIn]
  unfold tStep
  rw [key]
  simp
def arrF (C fr at_ to : Int) (rides : List Ride) : Int × Bool := (arrFold C fr at_ to rides (List.range' 0 rides.length) (List.replicate rides.length false, 0, false)).2
end Go.Proofs.Ytpbmlhlpfbcnbaa.Rw
