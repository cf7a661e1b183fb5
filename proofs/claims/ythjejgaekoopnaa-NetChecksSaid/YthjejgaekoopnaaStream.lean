/- The numbers that a list gives one by one (terrmake.Stream), and a number brought below another one: what the calls do. -/
import Derived.Test.YthjejgaekoopnaaEvs
import Derived.Test.YthjejgaekoopnaaWMore
import Derived.Deep.Slices
import Derived.Test.YthjejgaekoopnaaProg
namespace Go.Proofs.Ythjejgaekoopnaa.Strm
open Go.RowKit Go.Proofs.YthjejgaekoopnaaW.PrintWords Go.Proofs.YthjejgaekoopnaaW.PrintLast Go.Proofs.YthjejgaekoopnaaW.PrintMore Go.Proofs.Ythjejgaekoopnaa.Evs
attribute [local go_sem] max2_int min2_int max_two min_two
set_option linter.unusedVariables false
set_option linter.unusedSimpArgs false

theorem tmod_eq {x n : Int} (hn : 0 < n) : (x.tmod n < 0 → x.tmod n + n = x % n) ∧ (¬ x.tmod n < 0 → x.tmod n = x % n) := by
  have e := Int.mul_tdiv_add_tmod x n
  have l1 := Int.tmod_lt_of_pos x hn
  have l2 := Int.lt_tmod_of_pos x hn
  refine ⟨fun h => ?_, fun h => ?_⟩
  · have e2 : x = (x.tmod n + n) + n * (x.tdiv n - 1) := by rw [Int.mul_sub]; omega
    conv => rhs; rw [e2]
    rw [Int.add_mul_emod_self_left, Int.emod_eq_of_lt (by omega) (by omega)]
  · have e2 : x = x.tmod n + n * x.tdiv n := by omega
    conv => rhs; rw [e2]
    rw [Int.add_mul_emod_self_left, Int.emod_eq_of_lt (by omega) (by omega)]
set_option maxHeartbeats 1000000 in
theorem below_any (x n : Int) (w : World) (h0 : 0 < n) (h1 : n ≤ 4611686018427387904) :
    Calls Try.prog 16 #[.int .i64 x, .int .i64 n] w fun e w' => e = .returned (.int .i64 (x % n)) ∧ w' = w := by
  obtain ⟨t1, t2⟩ := tmod_eq (x := x) h0
  have b1 := Int.tmod_lt_of_pos x h0
  have b2 := Int.lt_tmod_of_pos x h0
  have hz : (n == 0) = false := by simp; omega
  by_cases h : x.tmod n < 0
  · have e := t1 h
    have hd : decide (x.tmod n < 0) = true := decide_eq_true h
    have hw : wrap64 (x.tmod n + n) = x % n := by rw [wrap_in (by omega) (by omega)]; exact e
    have HW := Aside0.mk hw
    have HE := Aside0.mk e
    clear hw e t1 t2
    go_enter Try.func16, Try.ntmps16
    go_wp2
    go_ret
    exact ⟨by first | (rw [HW.out]; rfl) | (rw [HE.out]; rfl), rfl⟩
  · have e := t2 h
    have hd : decide (x.tmod n < 0) = false := decide_eq_false h
    have HE := Aside0.mk e
    clear e t1 t2
    go_enter Try.func16, Try.ntmps16
    go_wp2
    go_ret
    exact ⟨by rw [HE.out]; rfl, rfl⟩

/-- What the reader gives next, below n; what is left of the list. -/
def nxt (l : List Int) (n : Int) : Int := match l with
  | [] => 0
  | x :: _ => if n < 1 then 0 else x % n
def rest (l : List Int) (n : Int) : List Int := match l with
  | [] => []
  | x :: r => if n < 1 then x :: r else r
theorem nxt_range (l : List Int) {n : Int} (h : 0 < n) : 0 ≤ nxt l n ∧ nxt l n < n := by
  cases l with
  | nil => exact ⟨Int.le_refl _, h⟩
  | cons x r =>
    simp only [nxt]
    rw [if_neg (by omega)]
    exact ⟨Int.emod_nonneg _ (by omega), Int.emod_lt_of_pos _ h⟩
/-- The reader's state at block g of W; the list came in by w. -/
def IsS (w W : World) (g : Nat) (l : List Int) : Prop :=
  ∃ A c, W.heap[g]? = some (.cells #[.slice A l.length c] 88 (0, 0)) ∧ l.length ≤ c ∧ w.heap.size ≤ g ∧ Kd.C (Kd.int .i64) w A l.length l
theorem IsS.step {w W W1 : World} {g : Nat} {l : List Int} (h : IsS w W g l) (hb : W1.heap[g]? = W.heap[g]?) : IsS w W1 g l := by
  obtain ⟨A, c, h1, h2, h3, h4⟩ := h
  exact ⟨A, c, hb.trans h1, h2, h3, h4⟩
theorem IsS.lt {w W : World} {g : Nat} {l : List Int} (h : IsS w W g l) : g < W.heap.size := by
  obtain ⟨A, c, h1, _⟩ := h
  exact blk_lt h1
theorem IsS.below {w W W1 : World} {g : Nat} {l : List Int} (h : IsS w W g l) (hb : Below W.heap.size W W1) : IsS w W1 g l := h.step (hb.block g h.lt)
theorem IsS.alloc {w W : World} {g : Nat} {l : List Int} (h : IsS w W g l) (o : Obj) : IsS w (W.alloc o) g l := h.below (below_alloc (Below.refl _ _) o)
theorem IsS.drewN {w W : World} {g : Nat} {l : List Int} (h : IsS w W g l) (m : Nat) : IsS w (W.drewN m) g l := h
theorem IsS.drew {w W : World} {g : Nat} {l : List Int} (h : IsS w W g l) : IsS w W.drew g l := h
theorem IsS.far {w W : World} {g : Nat} {l : List Int} (h : IsS w W g l) {p : Addr} (hne : g ≠ p.block) (u : Value) : IsS w (W.setCell p u) g l := h.step (Below.heap_setCell W p u g hne)
theorem IsS.grown {w W W1 : World} {g : Nat} {l : List Int} (h : IsS w W g l) {row : Option Nat} (hw : W.grownBy W1 row) (hne : some g ≠ row) : IsS w W1 g l := h.step (hw.block g h.lt hne)
/-- The state that a call makes of the list that came in. -/
theorem IsS.new {w W : World} {A : Option Addr} {c : Nat} {l : List Int} (hb : Below w.heap.size w W) (hr : Kd.C (Kd.int .i64) w A l.length l) (hc : l.length ≤ c) {g : Nat} {W1 : World} (hg : w.heap.size ≤ g)
    (h : W1.heap[g]? = some (.cells #[.slice A l.length c] 88 (0, 0))) : IsS w W1 g l := ⟨A, c, h, hc, hg, hr⟩
theorem C_tail {w : World} {ad : Addr} {x : Int} {r : List Int} (h : Kd.C (Kd.int .i64) w (some ad) (r.length + 1) (x :: r)) : Kd.C (Kd.int .i64) w (some (ad.add 1)) r.length r := by
  obtain ⟨h1, h2, h3⟩ := h
  refine ⟨rfl, by omega, fun hn => ⟨ad.add 1, rfl, fun j p hj => ?_⟩⟩
  obtain ⟨ad', he, hc⟩ := h3 (by omega)
  injection he with he
  subst he
  obtain ⟨c, hl, hK, hcell⟩ := hc (j + 1) p (by simpa using hj)
  refine ⟨c, hl, hK, fun i u hu => ?_⟩
  have := hcell i u hu
  rw [Deep.add_add]
  have hs : (Kd.int .i64).sz = 1 := rfl
  rw [hs] at this ⊢
  rw [show 1 + (j * 1 + i) = (j + 1) * 1 + i by omega]
  exact this
theorem C_head {w : World} {A : Option Addr} {x : Int} {r : List Int} (h : Kd.C (Kd.int .i64) w A (r.length + 1) (x :: r)) : ∃ ad, A = some ad ∧ w.cell? ad = some (.int .i64 x) := by
  obtain ⟨ad, c, e, hl, hK, hc⟩ := Kd.C_get h (0 : Int) 0 (by omega) (by omega)
  have hK : c = [.int .i64 x] := hK
  subst hK
  have := hc 0 _ rfl
  refine ⟨ad, e, ?_⟩
  have h0 : ad.add ((0 : Int).toNat * (Kd.int .i64).sz + 0) = ad := by
    rw [show ((0 : Int).toNat * (Kd.int .i64).sz + 0) = 0 from rfl, Addr.add_zero']
  rwa [h0] at this
set_option maxHeartbeats 4000000 in
theorem next_any {w W : World} {g : Nat} {l : List Int} (hS : IsS w W g l) (hB : Below w.heap.size w W) (n : Int) (hn : n ≤ 4611686018427387904) :
    Calls Try.prog 57 #[.pointer (some ⟨g, 0, none⟩), .int .i64 n] W fun e W' => e = .returned (.int .i64 (nxt l n)) ∧ IsS w W' g (rest l n) ∧ Below w.heap.size w W' ∧ KeepBut W W' g none := by
  obtain ⟨A, c, hb, hc, hg, hr⟩ := hS
  have hz : W.cell? ⟨g, 0, none⟩ = some (.slice A l.length c) := blk_cell hb 0
  cases l with
  | nil =>
    have HI := Aside0.mk (⟨A, c, hb, hc, hg, hr⟩ : IsS w W g [])
    clear hb hr
    go_enter Try.func57, Try.ntmps57
    go_wp2
    go_ret
    exact ⟨rfl, HI.out, hB, Nat.le_refl _, fun i _ _ _ => rfl⟩
  | cons x r =>
    by_cases h1 : n < 1
    · have HI := Aside0.mk (⟨A, c, hb, hc, hg, hr⟩ : IsS w W g (x :: r))
      have HN := Aside0.mk (show nxt (x :: r) n = 0 by simp only [nxt]; exact if_pos h1)
      have HT := Aside0.mk (show rest (x :: r) n = x :: r by simp only [rest]; exact if_pos h1)
      clear hb hr
      have hd : decide (n < 1) = true := decide_eq_true h1
      go_enter Try.func57, Try.ntmps57
      go_wp2
      go_ret
      rw [HN.out, HT.out]
      exact ⟨rfl, HI.out, hB, Nat.le_refl _, fun i _ _ _ => rfl⟩
    · have HN := Aside0.mk (show nxt (x :: r) n = x % n by simp only [nxt]; exact if_neg h1)
      have HT := Aside0.mk (show rest (x :: r) n = r by simp only [rest]; exact if_neg h1)
      obtain ⟨ad, rfl, hx0⟩ := C_head hr
      have hx := (hB.cell (World.block_lt_of_cell? w _ hx0)).trans hx0
      have HR := Aside0.mk hr
      have HK := Aside0.mk hb
      have hf := blk_frozen hb 0
      have hd : decide (n < 1) = false := decide_eq_false h1
      clear hb hr hx0
      have hl : r.length + 1 ≤ c := by simpa using hc
      have hne : ((r.length : Int) + 1 == 0) = false := by simp; omega
      go_enter Try.func57, Try.ntmps57
      go_wp2_with (go_at_call 16; (with_reducible refine (below_any _ _ _ (by omega) (by omega)).mono ?_); rintro e w1 ⟨rfl, rfl⟩)
      · go_ret
        rw [HN.out, HT.out]
        have hr0 : r = [] := by
          cases r with
          | nil => rfl
          | cons y r => simp at hl; omega
        subst hr0
        exact ⟨rfl, ⟨some ad, 0, by simpa using blk_set HK.out 0 _, Nat.le_refl _, hg, rfl, by simp, fun h => by simp at h⟩, below_set hB hg, by simp, fun i _ hi _ => Below.heap_setCell W _ _ i hi⟩
      · go_ret
        rw [HN.out, HT.out]
        have e : ad.add 1 = ⟨ad.block, ad.off + 1, none⟩ := by simp [Addr.add]
        exact ⟨rfl, ⟨some ⟨ad.block, ad.off + 1, none⟩, c - 1, by simpa using blk_set HK.out 0 _, by omega, hg, by rw [← e]; exact C_tail HR.out⟩, below_set hB hg, by simp, fun i _ hi _ => Below.heap_setCell W _ _ i hi⟩
end Go.Proofs.Ythjejgaekoopnaa.Strm
