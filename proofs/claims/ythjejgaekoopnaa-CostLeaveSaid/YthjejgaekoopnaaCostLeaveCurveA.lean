/- The curves that raw numbers make: valid, short, with small numbers; and numbers brought below others. -/
import Derived.Test.YthjejgaekoopnaaCostLeaveCostM
import Derived.Test.YthjejgaekoopnaaStream
namespace Go.Proofs.Ythjejgaekoopnaa.PCostLeave
open Go.RowKit Go.Proofs.YthjejgaekoopnaaW.PrintWords Go.Proofs.YthjejgaekoopnaaW.PrintLast Go.Proofs.YthjejgaekoopnaaW.PrintMore Go.Proofs.Ythjejgaekoopnaa.Evs Go.Proofs.Ythjejgaekoopnaa.Strm
set_option linter.unusedVariables false
set_option linter.unusedSimpArgs false

theorem below_eq (x n : Int) (h0 : 0 < n) (h1 : n ≤ 4611686018427387904) : terrmake_Below.f x n = some (x % n) := by
  obtain ⟨t1, t2⟩ := tmod_eq (x := x) h0
  have b1 := Int.tmod_lt_of_pos x h0
  have b2 := Int.lt_tmod_of_pos x h0
  unfold terrmake_Below.f
  rw [if_neg (by omega)]
  by_cases h : x.tmod n < 0
  · rw [if_pos h, wrap_in (by omega) (by omega), t1 h]
  · rw [if_neg h, t2 h]
theorem next_eq (l : List Int) (n : Int) (h : n ≤ 4611686018427387904) : terrmake_Stream_Next.f l n = some (nxt l n, rest l n) := by
  unfold terrmake_Stream_Next.f
  rw [if_pos h]
def lastS (l : List S42) : S42 := rd_T42 l ((l.length : Int) - 1)
theorem chain_snoc : ∀ (r : List S42) (a s : S42), Chain a r → good s → ((a :: r).getD r.length z42).f0 < s.f0 → ((a :: r).getD r.length z42).f0 + ((a :: r).getD r.length z42).f1 ≤ s.f0 + s.f1 → Chain a (r ++ [s])
  | [], a, s, h, hs, h1, h2 => ⟨h, h1, h2, hs⟩
  | b :: r, a, s, h, hs, h1, h2 => ⟨h.1, h.2.1, h.2.2.1, chain_snoc r b s h.2.2.2 hs h1 h2⟩
/-- Small: times and costs below a bound. -/
def Small (c : List S42) : Prop := ∀ s ∈ c, s.f0 ≤ 200 ∧ s.f1 ≤ 200
theorem curve_l0 (m : Nat) (hm : m ≤ 4) : ∀ (d : Nat) (a : S42) (r : List S42) (l : List Int), r.length + d = m → Chain a r → Small (a :: r) → ((a :: r).getD r.length z42).f0 ≤ 20 + 20 * (r.length : Int) → ((a :: r).getD r.length z42).f1 ≤ 30 + 30 * (r.length : Int) →
    ∃ c, Ev (fun k => terrkeep4_Curve.l0 k (a :: r) (m : Int) (r.length : Int) l) c ∧ Valid c ∧ Small c := by
  intro d
  induction d with
  | zero =>
    intro a r l hd hc hs h0 h1
    refine ⟨a :: r, ?_, ⟨by simp; omega, hc⟩, hs⟩
    refine Ev.step (fun k => by rw [terrkeep4_Curve.l0]) ?_
    exact ifn (by omega) (Ev.now _)
  | succ d ih =>
    intro a r l hd hc hs h0 h1
    have hl : (a :: r).length = r.length + 1 := rfl
    have hrd : rd_T42 (a :: r) (wrap64 (((a :: r).length : Int) - 1)) = (a :: r).getD r.length z42 := by
      rw [hl, show ((r.length + 1 : Nat) : Int) - 1 = (r.length : Int) by omega, wrap_in (by omega) (by omega)]
      rfl
    have hw : wrap64 (((a :: r).length : Int) - 1) = (r.length : Int) := by rw [hl, show ((r.length + 1 : Nat) : Int) - 1 = (r.length : Int) by omega, wrap_in (by omega) (by omega)]
    generalize hb : (a :: r).getD r.length z42 = b at *
    have hmem : b ∈ a :: r := by
      rw [← hb, List.getD_eq_getElem?_getD, List.getElem?_eq_getElem (by simp)]
      exact List.getElem_mem _
    have hgb : good b := by
      have : ∀ (r : List S42) (a : S42), Chain a r → ∀ s ∈ a :: r, good s := by
        intro r
        induction r with
        | nil => intro a h s hs; rcases List.mem_cons.1 hs with rfl | hs; exact h; cases hs
        | cons c r ih => intro a h s hs; rcases List.mem_cons.1 hs with rfl | hs; exact h.1; exact ih c h.2.2.2 s hs
      exact this r a hc b hmem
    have hgb' := hgb
    unfold good at hgb'
    have n1 := nxt_range l (n := 20) (by omega)
    have n2 := nxt_range (rest l 20) (n := 30) (by omega)
    have hmx : mx 0 (b.f1 - (1 + nxt l 20)) ≤ 30 + 30 * (r.length : Int) ∧ 0 ≤ mx 0 (b.f1 - (1 + nxt l 20)) ∧ b.f1 - (1 + nxt l 20) ≤ mx 0 (b.f1 - (1 + nxt l 20)) := by unfold mx; omega
    have hs2 : good (⟨b.f0 + (1 + nxt l 20), mx 0 (b.f1 - (1 + nxt l 20)) + nxt (rest l 20) 30⟩ : S42) := by unfold good; simp only; omega
    have hg2 : (a :: (r ++ [(⟨b.f0 + (1 + nxt l 20), mx 0 (b.f1 - (1 + nxt l 20)) + nxt (rest l 20) 30⟩ : S42)])).getD (r ++ [(⟨b.f0 + (1 + nxt l 20), mx 0 (b.f1 - (1 + nxt l 20)) + nxt (rest l 20) 30⟩ : S42)]).length z42 = (⟨b.f0 + (1 + nxt l 20), mx 0 (b.f1 - (1 + nxt l 20)) + nxt (rest l 20) 30⟩ : S42) := by
      simp [List.getD_eq_getElem?_getD]
    obtain ⟨c, hc1, hc2, hc3⟩ := ih a (r ++ [⟨b.f0 + (1 + nxt l 20), mx 0 (b.f1 - (1 + nxt l 20)) + nxt (rest l 20) 30⟩]) (rest (rest l 20) 30) (by simp; omega)
      (chain_snoc r a _ hc hs2 (by rw [hb]; simp only; omega) (by rw [hb]; simp only; omega))
      (fun s hs' => by
        rw [← List.cons_append] at hs'
        rcases List.mem_append.1 hs' with h | h
        · exact hs s h
        · rw [List.mem_singleton.1 h]; simp only; omega)
      (by rw [hg2]; simp; omega) (by rw [hg2]; simp; omega)
    refine ⟨c, ?_, hc2, hc3⟩
    refine Ev.step (fun k => by rw [terrkeep4_Curve.l0]) ?_
    refine ifp (by omega) ?_
    rw [hw]
    have hrd2 : rd_T42 (a :: r) (r.length : Int) = b := by rw [← hw]; exact hrd
    refine ifp (by omega) ?_
    refine ifp (by simp; omega) ?_
    refine bindc (next_eq l 20 (by omega)) ?_
    refine bindc (next_eq _ 30 (by omega)) ?_
    refine ifp (by simp; omega) ?_
    rw [hrd2, wrap_in (x := 1 + nxt l 20) (by omega) (by omega), wrap_in (x := b.f0 + (1 + nxt l 20)) (by omega) (by omega), wrap_in (x := b.f1 - (1 + nxt l 20)) (by omega) (by omega), wrap_in (x := mx 0 (b.f1 - (1 + nxt l 20)) + nxt (rest l 20) 30) (by omega) (by omega), wrap_succ (by omega)]
    have e : ((r ++ [(⟨b.f0 + (1 + nxt l 20), mx 0 (b.f1 - (1 + nxt l 20)) + nxt (rest l 20) 30⟩ : S42)]).length : Int) = ((r.length + 1 : Nat) : Int) := by simp
    rw [e] at hc1
    exact hc1
theorem curve_tells (l : List Int) : ∃ c, Ev (fun k => terrkeep4_Curve.f k l) c ∧ Valid c ∧ Small c := by
  have n1 := nxt_range l (n := 20) (by omega)
  have n2 := nxt_range (rest l 20) (n := 30) (by omega)
  have n3 := nxt_range (rest (rest l 20) 30) (n := 4) (by omega)
  obtain ⟨m, hm⟩ := Int.eq_ofNat_of_zero_le n3.1
  obtain ⟨c, h1, h2, h3⟩ := curve_l0 m (by omega) m ⟨nxt l 20, nxt (rest l 20) 30⟩ [] (rest (rest (rest l 20) 30) 4) (by simp) (by show good _; unfold good; simp only; omega)
    (fun s hs => by rw [List.mem_singleton.1 hs]; simp only; omega) (by simp [List.getD_eq_getElem?_getD]; omega) (by simp [List.getD_eq_getElem?_getD]; omega)
  refine ⟨c, ?_, h2, h3⟩
  unfold terrkeep4_Curve.f
  refine bindc (next_eq l 20 (by omega)) ?_
  refine bindc (next_eq _ 30 (by omega)) ?_
  refine bindc (next_eq _ 4 (by omega)) ?_
  simp only
  rw [hm]
  exact h1
end Go.Proofs.Ythjejgaekoopnaa.PCostLeave
