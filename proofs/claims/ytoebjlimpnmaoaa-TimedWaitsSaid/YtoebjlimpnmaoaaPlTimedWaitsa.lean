/- Rounds: one step that holds from some number of rounds on. No condition. -/
import Derived.Test.YtoebjlimpnmaoaaRwTimedWaitsb
namespace Go.Proofs.Ytoebjlimpnmaoaa.Rw
open Go.Rx
theorem _root_.Go.Rx.Ev3.stepE {α : Type} {f g : Nat → Nat → Nat → Option α} {r : α} (K : Nat) (h : ∀ k n m, K ≤ k → f k n (m + 1) = g k n m) (hg : Ev3 g r) : Ev3 f r := by
  obtain ⟨K', hK⟩ := hg
  refine ⟨max K K' + 1, fun k n m hk hn hm => ?_⟩
  cases m with
  | zero => omega
  | succ m => rw [h _ _ _ (by omega)]; exact hK k n m (by omega) (by omega) (by omega)
theorem _root_.Go.Rx.Ev2.stepE {α : Type} {f g : Nat → Nat → Option α} {r : α} (K : Nat) (h : ∀ k n, K ≤ k → f k (n + 1) = g k n) (hg : Ev2 g r) : Ev2 f r := by
  obtain ⟨K', hK⟩ := hg
  refine ⟨max K K' + 1, fun k n hk hn => ?_⟩
  cases n with
  | zero => omega
  | succ n => rw [h _ _ (by omega)]; exact hK k n (by omega) (by omega)
theorem _root_.Go.Rx.Ev.ofE {α : Type} {f g : Nat → Option α} {r : α} (K : Nat) (h : ∀ k, K ≤ k → f k = g k) (hg : Ev g r) : Ev f r := by
  obtain ⟨K', hK⟩ := hg
  exact ⟨max K K', fun k hk => by rw [h k (by omega)]; exact hK k (by omega)⟩
end Go.Proofs.Ytoebjlimpnmaoaa.Rw
