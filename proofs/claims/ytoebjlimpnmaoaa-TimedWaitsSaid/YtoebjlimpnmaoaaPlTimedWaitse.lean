/- Numbers out of raw numbers: Below and the stream. No condition. -/
import Derived.Test.YtoebjlimpnmaoaaPlTimedWaitsd
namespace Go.Proofs.Ytoebjlimpnmaoaa.Rw
open Go.Rx
set_option linter.unusedVariables false
set_option linter.unusedSimpArgs false
def belowF (x n : Int) : Int := if x.tmod n < 0 then x.tmod n + n else x.tmod n
theorem below_lt {x n : Int} (h : 1 ≤ n) : 0 ≤ belowF x n ∧ belowF x n < n := by
  have h1 := Int.lt_tmod_of_pos x (show 0 < n by omega)
  have h2 := Int.tmod_lt_of_pos x (show 0 < n by omega)
  unfold belowF
  split <;> omega
theorem below_eq (k : Nat) (x n : Int) (h : 1 ≤ n) (h2 : n ≤ 1000000000000) : f15 k x n = some (belowF x n, ()) := by
  have g1 := Int.lt_tmod_of_pos x (show 0 < n by omega)
  have g2 := Int.tmod_lt_of_pos x (show 0 < n by omega)
  simp only [f15, f15_entry_B, f15_c3, f15_c3_B, belowF]
  rw [if_pos (by omega)]
  split
  · rw [w64_id (by omega) (by omega)]
  · rfl
def nextF (a : List Int) (n : Int) : List Int × Int := if a.length = 0 then (a, 0) else (a.drop 1, belowF (a.getD 0 0) n)
theorem next_lt {a : List Int} {n : Int} (h : 1 ≤ n) : 0 ≤ (nextF a n).2 ∧ (nextF a n).2 < n := by
  unfold nextF
  split
  · exact ⟨by simp, by simp; omega⟩
  · exact below_lt h
theorem next_eq (k : Nat) (a : List Int) (n : Int) (h : 1 ≤ n) (h2 : n ≤ 1000000000000) : f43 k a n = some ((((nextF a n).1, ()), ()), ((nextF a n).2, ())) := by
  have h3 : ¬ n < 1 := by omega
  simp only [f43, f43_entry_B, f43_r1, f43_r1_B, nextF]
  by_cases h0 : a.length = 0
  · simp [h0]
  · rw [if_neg (by omega), decide_eq_false h3, if_neg (by simp), if_pos (by omega), if_pos (by omega), below_eq k _ n h h2, if_neg h0]
    rfl
end Go.Proofs.Ytoebjlimpnmaoaa.Rw
