/- Plain functions with rounds: what they come to from some number of rounds on. -/
import Derived.Test.YtollcjadobpfdaaRxZ
namespace Go.Rx
set_option linter.unusedVariables false
set_option linter.unusedSimpArgs false
set_option linter.unusedSectionVars false
def Ev {α : Type} (f : Nat → Option α) (r : α) : Prop := ∃ K, ∀ k, K ≤ k → f k = some r
def Ev2 {α : Type} (f : Nat → Nat → Option α) (r : α) : Prop := ∃ K, ∀ k n, K ≤ k → K ≤ n → f k n = some r
section
variable {α β : Type}
theorem Ev.pure (r : α) : Ev (fun _ => some r) r := ⟨0, fun _ _ => rfl⟩
theorem Ev2.pure (r : α) : Ev2 (fun _ _ => some r) r := ⟨0, fun _ _ _ _ => rfl⟩
theorem Ev.of {f g : Nat → Option α} {r : α} (h : ∀ k, f k = g k) (hg : Ev g r) : Ev f r := by
 obtain ⟨K, hK⟩ := hg; exact ⟨K, fun k hk => (h k).trans (hK k hk)⟩
theorem Ev2.of {f g : Nat → Nat → Option α} {r : α} (h : ∀ k n, f k n = g k n) (hg : Ev2 g r) : Ev2 f r := by
 obtain ⟨K, hK⟩ := hg; exact ⟨K, fun k n hk hn => (h k n).trans (hK k n hk hn)⟩
theorem Ev2.diag {f : Nat → Nat → Option α} {r : α} (h : Ev2 f r) : Ev (fun k => f k k) r := by
 obtain ⟨K, hK⟩ := h; exact ⟨K, fun k hk => hK k k hk hk⟩
theorem Ev.two {f : Nat → Option α} {r : α} (h : Ev f r) : Ev2 (fun k _ => f k) r := by
 obtain ⟨K, hK⟩ := h; exact ⟨K, fun k n hk _ => hK k hk⟩
theorem Ev2.step {f g : Nat → Nat → Option α} {r : α} (h : ∀ k n, f k (n + 1) = g k n) (hg : Ev2 g r) : Ev2 f r := by
 obtain ⟨K, hK⟩ := hg
 refine ⟨K + 1, fun k n hk hn => ?_⟩
 cases n with
 | zero => omega
 | succ n => rw [h]; exact hK k n (by omega) (by omega)
theorem Ev.bind {f : Nat → Option β} {g : Nat → β → Option α} {x : β} {r : α} (hf : Ev f x) (hg : Ev (fun k => g k x) r) : Ev (fun k => (f k).bind (g k)) r := by
 obtain ⟨K, hK⟩ := hf; obtain ⟨K', hK'⟩ := hg
 exact ⟨max K K', fun k hk => by show (f k).bind (g k) = _; rw [hK k (by omega)]; exact hK' k (by omega)⟩
theorem Ev2.bind {f : Nat → Nat → Option β} {g : Nat → Nat → β → Option α} {x : β} {r : α} (hf : Ev2 f x) (hg : Ev2 (fun k n => g k n x) r) : Ev2 (fun k n => (f k n).bind (g k n)) r := by
 obtain ⟨K, hK⟩ := hf; obtain ⟨K', hK'⟩ := hg
 exact ⟨max K K', fun k n hk hn => by show (f k n).bind (g k n) = _; rw [hK k n (by omega) (by omega)]; exact hK' k n (by omega) (by omega)⟩
theorem Ev.off {f : Nat → Option α} {r : α} (m : Nat) (h : ∀ j, f (j + m) = some r) : Ev f r := ⟨m, fun k hk => by
 have := h (k - m); rwa [Nat.sub_add_cancel hk] at this⟩
theorem Ev.get {f : Nat → Option α} {r : α} (h : Ev f r) : ∃ k, f k = some r := by
 obtain ⟨K, hK⟩ := h; exact ⟨K, hK K (Nat.le_refl _)⟩
end
def Ev3 {α : Type} (f : Nat → Nat → Nat → Option α) (r : α) : Prop := ∃ K, ∀ k n m, K ≤ k → K ≤ n → K ≤ m → f k n m = some r
section
variable {α β : Type}
theorem Ev3.step {f g : Nat → Nat → Nat → Option α} {r : α} (h : ∀ k n m, f k n (m + 1) = g k n m) (hg : Ev3 g r) : Ev3 f r := by
 obtain ⟨K, hK⟩ := hg
 refine ⟨K + 1, fun k n m hk hn hm => ?_⟩
 cases m with
 | zero => omega
 | succ m => rw [h]; exact hK k n m (by omega) (by omega) (by omega)
theorem Ev3.in_ {f : Nat → Nat → Nat → Option α} {r : α} (h : Ev3 f r) : Ev2 (fun k n => f k n k) r := by
 obtain ⟨K, hK⟩ := h; exact ⟨K, fun k n hk hn => hK k n k hk hn hk⟩
theorem Ev2.three {f : Nat → Nat → Option α} {r : α} (h : Ev2 f r) : Ev3 (fun k n _ => f k n) r := by
 obtain ⟨K, hK⟩ := h; exact ⟨K, fun k n m hk hn _ => hK k n hk hn⟩
theorem Ev.bind3 {f : Nat → Option β} {g : Nat → Nat → Nat → β → Option α} {x : β} {r : α} (hf : Ev f x) (hg : Ev3 (fun k n m => g k n m x) r) : Ev3 (fun k n m => (f k).bind (g k n m)) r := by
 obtain ⟨K, hK⟩ := hf; obtain ⟨K', hK'⟩ := hg
 exact ⟨max K K', fun k n m hk hn hm => by show (f k).bind (g k n m) = _; rw [hK k (by omega)]; exact hK' k n m (by omega) (by omega) (by omega)⟩
theorem Ev.bind2 {f : Nat → Option β} {g : Nat → Nat → β → Option α} {x : β} {r : α} (hf : Ev f x) (hg : Ev2 (fun k n => g k n x) r) : Ev2 (fun k n => (f k).bind (g k n)) r := by
 obtain ⟨K, hK⟩ := hf; obtain ⟨K', hK'⟩ := hg
 exact ⟨max K K', fun k n hk hn => by show (f k).bind (g k n) = _; rw [hK k (by omega)]; exact hK' k n (by omega) (by omega)⟩
end
theorem w64_id {n : Int} (h1 : -9223372036854775808 ≤ n) (h2 : n ≤ 9223372036854775807) : w64 n = n := by
 have e : w64 n = if n % 18446744073709551616 ≥ 9223372036854775808 then n % 18446744073709551616 - 18446744073709551616 else n % 18446744073709551616 := by
  simp [w64, IntKind.wrap, IntKind.bits, IntKind.signed]
 rw [e]
 split <;> omega
theorem mx2_min (a b : Int) : mx2 false a b = min a b := by
 simp only [mx2]; split <;> omega
theorem mx2_max (a b : Int) : mx2 true a b = max a b := by
 simp only [mx2]; split <;> omega
theorem getD_mid {α : Type} {l m : List α} {x z : α} : (l ++ x :: m).getD ((l.length : Int)).toNat z = x := by simp
theorem wf_i64 {n : Int} (h : (Lit.int .i64 n).wf = true) : -9223372036854775808 ≤ n ∧ n ≤ 9223372036854775807 := by
 simp only [Lit.wf, Bool.and_eq_true, decide_eq_true_eq] at h
 exact ⟨h.1, h.2⟩
end Go.Rx
