/- Package cost: what the printed function Range comes to. -/
import Derived.Test.YthjejgaekoopnaaCostLaterCostM
namespace Go.Proofs.Ythjejgaekoopnaa.PCostLater
open Go.RowKit Go.Proofs.YthjejgaekoopnaaW.PrintWords Go.Proofs.YthjejgaekoopnaaW.PrintLast Go.Proofs.YthjejgaekoopnaaW.PrintMore Go.Proofs.Ythjejgaekoopnaa.Evs
set_option linter.unusedVariables false
set_option linter.unusedSimpArgs false

def rng : Int → Int → List S42 → Int × Int
  | lo, hi, [] => (lo, hi)
  | lo, hi, s :: r => rng (mn lo s.f1) (mx hi s.f1) r
def RangeOf : List S42 → Int × Int × Int
  | [] => (0, 0, chk [])
  | a :: r => if chk (a :: r) = 0 then ((rng a.f1 a.f1 (a :: r)).1, (rng a.f1 a.f1 (a :: r)).2, 0) else (0, 0, chk (a :: r))
theorem range_l0 (l : List S42) (hl : l.length ≤ 24) : ∀ (r : List S42) (n : Nat) (lo hi : Int), l.drop n = r →
    Ev (fun k => cost_Range.l0 k lo hi l (l.length : Int) (n : Int)) ((rng lo hi r).1, (rng lo hi r).2, 0) := by
  intro r
  induction r with
  | nil =>
    intro n lo hi hd
    have hn := drop_nil hd
    refine Ev.step (fun k => by rw [cost_Range.l0]) ?_
    refine ifn (by omega) ?_
    exact Ev.now _
  | cons s r ih =>
    intro n lo hi hd
    obtain ⟨hn, hs, hr⟩ := drop_cons z42 hd
    have hrd : rd_T42 l (n : Int) = s := hs
    refine Ev.step (fun k => by rw [cost_Range.l0]) ?_
    refine ifp (by omega) ?_
    refine ifp (by omega) ?_
    refine ifp (by omega) ?_
    rw [hrd, wrap_succ (by omega)]
    exact ih (n + 1) _ _ hr
theorem Range_ev (l : List S42) : Ev (fun k => cost_Range.f k l) (RangeOf l) := by
  unfold cost_Range.f
  refine Ev.bind (check_ev l) ?_
  cases l with
  | nil => exact ifn (by decide) (Ev.now _)
  | cons a r =>
    simp only [RangeOf]
    refine ifc (fun h => ?_) (fun h => ?_)
    · rw [if_pos h]
      have hv := (chk_zero _).1 h
      refine ifp (by first | (simp; done) | (simp; omega)) ?_
      exact range_l0 (a :: r) hv.1 (a :: r) 0 _ _ rfl
    · exact some_ (by rw [if_neg h])
theorem rng_bounds : ∀ (r : List S42) (lo hi : Int), (rng lo hi r).1 ≤ lo ∧ hi ≤ (rng lo hi r).2 ∧ ∀ s ∈ r, (rng lo hi r).1 ≤ s.f1 ∧ s.f1 ≤ (rng lo hi r).2
  | [], lo, hi => ⟨Int.le_refl _, Int.le_refl _, fun s hs => by cases hs⟩
  | a :: r, lo, hi => by
    obtain ⟨h1, h2, h3⟩ := rng_bounds r (mn lo a.f1) (mx hi a.f1)
    have m1 : mn lo a.f1 ≤ lo ∧ mn lo a.f1 ≤ a.f1 := by unfold mn; omega
    have m2 : hi ≤ mx hi a.f1 ∧ a.f1 ≤ mx hi a.f1 := by unfold mx; omega
    simp only [rng]
    refine ⟨by omega, by omega, fun s hs => ?_⟩
    rcases List.mem_cons.1 hs with rfl | hs
    · omega
    · exact h3 s hs

theorem atFrom_range {lo hi : Int} : ∀ (r : List S42) (a : S42) (t : Int), Chain a r → a.f0 ≤ t → (∀ s ∈ a :: r, lo ≤ s.f1 ∧ s.f1 ≤ hi) → lo ≤ atFrom a r t ∧ atFrom a r t ≤ hi
  | [], a, t, _, _, h => h a List.mem_cons_self
  | b :: r, a, t, hc, h0, h => by
    obtain ⟨ha, hd, hs, hc2⟩ := hc
    simp only [atFrom]
    by_cases h1 : t ≤ b.f0
    · rw [if_pos h1]
      have b1 := h a List.mem_cons_self
      have b2 := h b (List.mem_cons_of_mem _ List.mem_cons_self)
      obtain ⟨r1, r2⟩ := segC_range hd h0 h1
      rcases Int.le_total a.f1 b.f1 with h | h
      · have := r1 h; omega
      · have := r2 h; omega
    · rw [if_neg h1]
      exact atFrom_range r b t hc2 (by omega) (fun s hs => h s (List.mem_cons_of_mem _ hs))
theorem atC_range {l : List S42} {t : Int} (hv : Valid l) : (RangeOf l).1 ≤ atC l t ∧ atC l t ≤ (RangeOf l).2.1 ∧ (RangeOf l).2.2 = 0 := by
  cases l with
  | nil => exact hv.elim
  | cons a r =>
    simp only [RangeOf]
    rw [if_pos ((chk_zero _).2 hv)]
    obtain ⟨b1, b2, b3⟩ := rng_bounds (a :: r) a.f1 a.f1
    simp only [atC]
    by_cases h1 : t ≤ a.f0
    · rw [if_pos h1]
      exact ⟨by omega, by omega, trivial⟩
    · rw [if_neg h1]
      have := atFrom_range r a t hv.2 (by omega) b3
      exact ⟨this.1, this.2, trivial⟩
end Go.Proofs.Ythjejgaekoopnaa.PCostLater
