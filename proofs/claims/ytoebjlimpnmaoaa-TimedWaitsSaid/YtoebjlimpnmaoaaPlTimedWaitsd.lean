/- A row of one number, over and over (slices.Repeat). No condition. -/
import Derived.Test.YtoebjlimpnmaoaaPlTimedWaitsc
namespace Go.Proofs.Ytoebjlimpnmaoaa.Rw
open Go.Rx
set_option linter.unusedVariables false
set_option linter.unusedSimpArgs false
theorem mask32 (n : Nat) (h : n < 4294967296) : bitI .and .u64 (n : Int) 4294967295 = (n : Int) := by
  have h1 : (BitVec.ofInt 64 (n : Int)).toNat = n := by
    rw [BitVec.ofInt_natCast, BitVec.toNat_ofNat]; exact Nat.mod_eq_of_lt (by omega)
  have h2 : (BitVec.ofInt 64 (4294967295 : Int)).toNat = 4294967295 := by rfl
  have e : n &&& 4294967295 = n % 4294967296 := Nat.and_two_pow_sub_one_eq_mod n 32
  have h3 : n &&& 4294967295 = n := by rw [e]; omega
  show IntKind.u64.wrap (((BitVec.ofInt 64 (n : Int) &&& BitVec.ofInt 64 (4294967295 : Int)).toNat : Nat) : Int) = n
  rw [BitVec.toNat_and, h1, h2, h3]
  simp [IntKind.wrap, IntKind.bits, IntKind.signed]
  omega
theorem u64_id {n : Int} (h0 : 0 ≤ n) (h1 : n < 18446744073709551616) : IntKind.u64.wrap n = n := by
  simp [IntKind.wrap, IntKind.bits, IntKind.signed]
  omega
theorem mul1 (k : Nat) (n : Nat) (h : n < 4294967296) : f107 k 1 (n : Int) = some (0, (n : Int), ()) := by
  have e1 : (1 : Int).fdiv (2 ^ min (32 : Int).toNat (IntKind.bits .u64)) = 0 := rfl
  have e2 : (n : Int).fdiv (2 ^ min (32 : Int).toNat (IntKind.bits .u64)) = 0 := by
    have : (2 : Int) ^ min (32 : Int).toNat (IntKind.bits .u64) = 4294967296 := rfl
    rw [this, Int.fdiv_eq_ediv_of_nonneg _ (by omega)]; omega
  have e3 : bitI .and .u64 1 4294967295 = 1 := mask32 1 (by omega)
  have e4 : bitI .and .u64 0 4294967295 = 0 := mask32 0 (by omega)
  have e5 : IntKind.u64.wrap (n : Int) = n := u64_id (by omega) (by omega)
  have e6 : IntKind.u64.wrap 0 = 0 := rfl
  have e7 : (0 : Int).fdiv (2 ^ min (32 : Int).toNat (IntKind.bits .u64)) = 0 := rfl
  simp only [f107, f107_entry_B, e1, e2, e3, mask32 n h, Int.zero_mul, Int.mul_zero, Int.one_mul, e6, e5, Int.zero_add, Int.add_zero, e7, e4]
theorem rep_loop (x : Int) (N : Nat) (hN : N ≤ 1073741824) : ∀ (d c : Nat) (y : List Int), N ≤ c + d → c ≤ N → (1 ≤ c ∨ N = 0) → y.length = N → (∀ q, q < c → y[q]? = some x) →
    Ev2 (fun k n => f54_l0 k n y (c : Int)) (List.replicate N x, ())
  | 0, c, y, hd, hc, h1, hl, hy => by
    refine Ev2.step (g := fun _ _ => some (y, ())) (fun k n => by rw [f54_l0, f54_l0_B, if_neg (by omega)]) ?_
    have : y = List.replicate N x := by
      apply List.ext_getElem?
      intro q
      rw [List.getElem?_replicate]
      by_cases hq : q < N
      · rw [if_pos hq]; exact hy q (by omega)
      · rw [if_neg hq, List.getElem?_eq_none (by omega)]
    rw [this]; exact Ev2.pure _
  | d + 1, c, y, hd, hc, h1, hl, hy => by
    by_cases hcN : c = N
    · subst hcN
      have := rep_loop x c hN 0 c y (by omega) hc h1 hl hy
      exact this
    · have hlt : (c : Int) < (y.length : Int) := by omega
      have hle : (c : Int) ≤ (y.length : Int) := by omega
      have h0 : (0 : Int) ≤ (c : Int) := by omega
      have hm : (List.take ((c : Int).toNat - (0 : Int).toNat) (List.drop ((0 : Int).toNat) y)).length = c := by simp; omega
      have hw : w64 ((c : Int) + ((min ((y.length : Int).toNat - (c : Int).toNat) (List.take ((c : Int).toNat - (0 : Int).toNat) (List.drop ((0 : Int).toNat) y)).length : Nat) : Int)) = ((c + min (N - c) c : Nat) : Int) := by
        rw [hm, w64_id (by omega) (by simp [hl]; omega)]; simp [hl]
      have hcl : (copyL y (List.take ((c : Int).toNat - (0 : Int).toNat) (List.drop ((0 : Int).toNat) y)) (c : Int).toNat ((y.length : Int).toNat - (c : Int).toNat)) = copyL y (y.take c) c (N - c) := by simp [hl]
      have hfit : c + (N - c) ≤ y.length := by omega
      have ht : (y.take c).length = c := by simp; omega
      refine Ev2.step (fun k n => ?_) (rep_loop x N hN d (c + min (N - c) c) (copyL y (y.take c) c (N - c)) (by omega) (by omega) (by omega) (by rw [copyL_len hfit]; exact hl) (fun q hq => ?_))
      · rw [f54_l0, f54_l0_B, if_pos hlt, if_pos h0, if_pos hle, if_pos h0, if_pos hle, hw, hcl]
      · rw [copyL_get hfit, ht]
        by_cases g : q < c
        · rw [if_pos g]; exact hy q g
        · rw [if_neg g, if_pos hq, List.getElem?_take, if_pos (by omega)]
          exact hy _ (by omega)
theorem repeat_ev (x : Int) (N : Nat) (hN : N ≤ 1073741824) : Ev (fun k => f54 k [x] (N : Int)) (List.replicate N x, ()) := by
  have hw : w64 (N : Int) = N := w64_id (by omega) (by omega)
  have hu : IntKind.u64.wrap (N : Int) = N := u64_id (by omega) (by omega)
  have hu1 : IntKind.u64.wrap ((([x] : List Int).length : Nat) : Int) = 1 := rfl
  have hl : (List.replicate N (0 : Int)).length = N := by simp
  have hfit : 0 + N ≤ (List.replicate N (0 : Int)).length := by simp
  have h := (rep_loop x N hN N (min N 1) (copyL (List.replicate N (0 : Int)) [x] 0 N) (by omega) (by omega) (by omega) (by rw [copyL_len hfit, hl]) (fun q hq => by
    rw [copyL_get hfit, if_neg (by omega), if_pos (by simp; omega)]
    have : q = 0 := by omega
    subst this; rfl)).diag
  refine Ev.of (fun k => ?_) h
  simp only [f54, f54_entry_B, f54_c2, f54_c2_B, f77, f77_entry_B, hu, hu1, mul1 k N (by omega), Option.bind_some, f54_r4, f54_r4_B, f54_c5, f54_c5_B, hw]
  rw [if_neg (by omega), if_neg (by omega), decide_eq_false (by omega), if_neg (by simp), if_pos (by omega), if_pos (by omega)]
  simp
end Go.Proofs.Ytoebjlimpnmaoaa.Rw
