/- Package cost: what the printed functions Const, the comparison of curves, and the reference's CurveFault and CostAt come to. -/
import Derived.Test.YthjejgaekoopnaaCostLeavesCostM
namespace Go.Proofs.Ythjejgaekoopnaa.PCostLeaves
open Go.RowKit Go.Proofs.YthjejgaekoopnaaW.PrintWords Go.Proofs.YthjejgaekoopnaaW.PrintLast Go.Proofs.YthjejgaekoopnaaW.PrintMore Go.Proofs.Ythjejgaekoopnaa.Evs
set_option linter.unusedVariables false
set_option linter.unusedSimpArgs false

theorem equal_l0 (l : List S42) (hl : l.length < 9223372036854775807) : ∀ (r : List S42) (n : Nat), l.drop n = r → Ev (fun k => cost_Step_27.l0 k l l (l.length : Int) (n : Int)) true := by
  intro r
  induction r with
  | nil =>
    intro n hd
    have hn := drop_nil hd
    refine Ev.step (fun k => by rw [cost_Step_27.l0]) ?_
    refine ifn (by omega) ?_
    exact Ev.now _
  | cons s r ih =>
    intro n hd
    obtain ⟨hn, hs, hr⟩ := drop_cons z42 hd
    refine Ev.step (fun k => by rw [cost_Step_27.l0]) ?_
    refine ifp (by omega) ?_
    refine ifp (by omega) ?_
    refine ifp (by omega) ?_
    refine ifp (by omega) ?_
    refine ifn (by simp) ?_
    rw [wrap_succ (by omega)]
    exact ih (n + 1) hr
theorem equal_ev (l : List S42) (hl : l.length < 9223372036854775807) : Ev (fun k => cost_Step_27.f k l l) true := by
  unfold cost_Step_27.f
  refine ifp rfl ?_
  exact equal_l0 l hl l 0 rfl

/-! The reference. -/
def PrevF (n : Nat) (q0 q1 : Int) : Option S42 → Prop
  | none => n = 0
  | some q => 0 < n ∧ q0 = q.f0 ∧ q1 = q.f1 ∧ good q
theorem fault_l0 (l : List S42) (hl : l.length ≤ 24) : ∀ (r : List S42) (n : Nat) (p : Option S42) (q0 q1 : Int), l.drop n = r → PrevF n q0 q1 p →
    Ev (fun k => terrref4_CurveFault.l0 k l (l.length : Int) (n : Int) q0 q1) (chkFrom p r) := by
  intro r
  induction r with
  | nil =>
    intro n p q0 q1 hd hp
    have hn : l.length ≤ n := drop_nil hd
    refine Ev.step (fun k => by rw [terrref4_CurveFault.l0]) ?_
    refine ifn (by omega) ?_
    exact some_ (by cases p <;> rfl)
  | cons s r ih =>
    intro n p q0 q1 hd hp
    obtain ⟨hn, hs, hr⟩ := drop_cons z42 hd
    have hrd : rd_T42 l (n : Int) = s := hs
    refine Ev.step (fun k => by rw [terrref4_CurveFault.l0]) ?_
    refine ifp (by omega) ?_
    refine ifp (by omega) ?_
    refine ifp (by omega) ?_
    rw [hrd]
    have bad : ¬ good s → Ev (fun k => some (1 : Int)) (chkFrom p (s :: r)) := fun h => some_ (by cases p <;> simp only [chkFrom, if_neg h])
    refine ifc (fun h => ?_) (fun h1 => ?_)
    · refine Ev.step (fun k => by rw [terrref4_CurveFault.j1]) ?_
      exact ifp (decide_eq_true h) (bad (by unfold good; omega))
    refine ifc (fun h => ?_) (fun h2 => ?_)
    · refine Ev.step (fun k => by rw [terrref4_CurveFault.j1]) ?_
      exact ifp (decide_eq_true h) (bad (by unfold good; omega))
    refine ifc (fun h => ?_) (fun h3 => ?_)
    · refine Ev.step (fun k => by rw [terrref4_CurveFault.j1]) ?_
      exact ifp (decide_eq_true h) (bad (by unfold good; omega))
    refine Ev.step (fun k => by rw [terrref4_CurveFault.j1]) ?_
    refine ifc (fun h => ?_) (fun h4 => ?_)
    · exact bad (by have := of_decide_eq_true h; unfold good; omega)
    have h4' : ¬ s.f1 > 1073741824 := by simpa using h4
    have hg : good s := by unfold good; omega
    have hgo : PrevF (n + 1) s.f0 s.f1 (some s) := ⟨by omega, rfl, rfl, hg⟩
    cases p with
    | none =>
      have hn0 : n = 0 := hp
      subst hn0
      refine ifn (by omega) ?_
      refine Ev.step (fun k => by rw [terrref4_CurveFault.j2]) ?_
      refine ifn (by simp) ?_
      refine ifn (by omega) ?_
      rw [wrap_succ (by omega)]
      exact same (ih 1 (some s) _ _ hr hgo) (by simp only [chkFrom, if_pos hg])
    | some q =>
      obtain ⟨hn0, e0, e1, hgq⟩ := hp
      subst e0 e1
      have hgq' := hgq
      unfold good at hgq' hg
      refine ifp (by omega) ?_
      refine Ev.step (fun k => by rw [terrref4_CurveFault.j2]) ?_
      refine ifc (fun h => ?_) (fun h5 => ?_)
      · have h5 := of_decide_eq_true h
        exact some_ (by simp only [chkFrom]; rw [if_pos hg, if_pos (by omega)])
      have h5' : ¬ s.f0 ≤ q.f0 := by simpa using h5
      refine ifp (by omega) ?_
      rw [wrap_in (by omega) (by omega), wrap_in (by omega) (by omega)]
      refine ifc (fun h => ?_) (fun h6 => ?_)
      · exact some_ (by simp only [chkFrom]; rw [if_pos hg, if_neg (by omega), if_pos (by omega)])
      rw [wrap_succ (by omega)]
      exact same (ih (n + 1) (some s) _ _ hr hgo) (by simp only [chkFrom]; rw [if_pos hg, if_neg (by omega), if_neg (by omega)])
theorem fault_ev (l : List S42) : Ev (fun k => terrref4_CurveFault.f k l) (chk l) := by
  unfold terrref4_CurveFault.f chk
  refine ifc (fun h => ?_) (fun h1 => ?_)
  · exact some_ (by rw [if_pos (by omega)])
  refine ifc (fun h => ?_) (fun h2 => ?_)
  · exact some_ (by rw [if_neg (by omega), if_pos (by omega)])
  exact same (fault_l0 l (by omega) l 0 none _ _ rfl rfl) (by rw [if_neg (by omega), if_neg (by omega)])

theorem ref_mid {a b : S42} {t : Int} (ha : good a) (hb : good b) (hd : a.f0 < b.f0) (h0 : a.f0 < t) (h1 : t < b.f0) : Ev (fun k => terrref4_CostAt.j1 k t a.f0 a.f1 b.f0 b.f1) (segC a b t) := by
  have hs := segC_good ha hb hd (by omega) (by omega) (t := t)
  unfold segC at hs ⊢
  unfold good at ha hb
  have hm := mul_bound (x := b.f1 - a.f1) (y := t - a.f0) (by omega) (by omega) (by omega) (by omega)
  refine Ev.step (fun k => by rw [terrref4_CostAt.j1]) ?_
  refine ifn (by omega) ?_
  refine Ev.step (fun k => by rw [terrref4_CostAt.j2]) ?_
  refine ifn (by first | (simp; done) | (simp; omega)) ?_
  rw [wrap_in (x := b.f1 - a.f1) (by omega) (by omega), wrap_in (x := t - a.f0) (by omega) (by omega), wrap_in (x := b.f0 - a.f0) (by omega) (by omega)]
  generalize hne : (b.f1 - a.f1) * (t - a.f0) = n at *
  generalize hde : b.f0 - a.f0 = d at *
  have hdp : 0 < d := by omega
  rw [wrap_in (x := n) (by omega) (by omega)]
  refine ifc (fun h => ?_) (fun h => ?_)
  · refine ifn (by omega) ?_
    have q0 : 0 ≤ (-n) / d := Int.ediv_nonneg (by omega) (by omega)
    have q1 : (-n) / d ≤ -n := Int.ediv_le_self _ (by omega)
    have q2 : d * ((-n) / d) ≤ -n := Int.mul_ediv_self_le (by omega)
    have q3 : -n < d * ((-n) / d) + d := by
      have := Int.lt_mul_ediv_self_add (x := -n) hdp
      omega
    rw [wrap_in (x := -n) (by omega) (by omega), Int.tdiv_eq_ediv_of_nonneg (a := -n) (b := d) (by omega)]
    rw [wrap_in (x := (-n) / d) (by omega) (by omega), wrap_in (x := (-n) / d + 1) (by omega) (by omega)]
    have e : ((-n) / d + 1) * d = d * ((-n) / d) + d := by rw [Int.add_mul, Int.one_mul, Int.mul_comm]
    rw [wrap_in (x := ((-n) / d + 1) * d) (by omega) (by omega), wrap_in (x := n + ((-n) / d + 1) * d) (by omega) (by omega), Int.tdiv_eq_ediv_of_nonneg (a := n + ((-n) / d + 1) * d) (b := d) (by omega), Int.add_mul_ediv_right _ _ (by omega)]
    exact some_ (by rw [wrap_in (x := n / d + ((-n) / d + 1)) (by omega) (by omega), wrap_in (x := a.f1 + (n / d + ((-n) / d + 1))) (by omega) (by omega), wrap_in (by omega) (by omega)]; omega)
  · refine ifn (by omega) ?_
    have q0 : 0 ≤ n / d := Int.ediv_nonneg (by omega) (by omega)
    rw [Int.tdiv_eq_ediv_of_nonneg (a := n) (b := d) (by omega)]
    exact some_ (by rw [wrap_in (x := n / d) (by omega) (by omega), wrap_in (x := a.f1 + n / d) (by omega) (by omega), wrap_in (by omega) (by omega)]; omega)
theorem ref_low {t a0 a1 b0 b1 : Int} (h : t ≤ a0) : Ev (fun k => terrref4_CostAt.j1 k t a0 a1 b0 b1) a1 := by
  refine Ev.step (fun k => by rw [terrref4_CostAt.j1]) ?_
  refine ifp h ?_
  refine Ev.step (fun k => by rw [terrref4_CostAt.j2]) ?_
  refine ifp rfl ?_
  exact ifp h (Ev.now _)
theorem ref_high {t a0 a1 b0 b1 : Int} (h : ¬ t ≤ a0) (h1 : b0 ≤ t) : Ev (fun k => terrref4_CostAt.j1 k t a0 a1 b0 b1) b1 := by
  refine Ev.step (fun k => by rw [terrref4_CostAt.j1]) ?_
  refine ifn h ?_
  refine Ev.step (fun k => by rw [terrref4_CostAt.j2]) ?_
  refine ifp (by first | (simp; done) | (simp; omega)) ?_
  exact ifn h (Ev.now _)
theorem refAt_l0 (l : List S42) (t : Int) (hl : l.length ≤ 24) : ∀ (r : List S42) (n : Nat) (a : S42), l.drop n = r → Chain a r → a.f0 < t →
    Ev (fun k => terrref4_CostAt.l0 k t l (l.length : Int) (n : Int) a.f0 a.f1 a.f0 a.f1) (atFrom a r t) := by
  intro r
  induction r with
  | nil =>
    intro n a hd hc h1
    have hn : l.length ≤ n := drop_nil hd
    refine Ev.step (fun k => by rw [terrref4_CostAt.l0]) ?_
    refine ifn (by omega) ?_
    exact ref_high (by omega) (by omega)
  | cons s r ih =>
    intro n a hd hc h1
    obtain ⟨hn, hs, hr⟩ := drop_cons z42 hd
    have hrd : rd_T42 l (n : Int) = s := hs
    obtain ⟨hga, hds, hss, hcs⟩ := hc
    refine Ev.step (fun k => by rw [terrref4_CostAt.l0]) ?_
    refine ifp (by omega) ?_
    refine ifp (by omega) ?_
    refine ifp (by omega) ?_
    rw [hrd]
    simp only [atFrom]
    refine ifc (fun h => ?_) (fun h => ?_)
    · rw [if_pos h]
      by_cases he : t = s.f0
      · subst he
        have e : segC a s s.f0 = s.f1 := by
          unfold segC
          rw [Int.mul_ediv_cancel _ (by omega)]
          omega
        rw [e]
        exact ref_high (by omega) (by omega)
      · exact ref_mid hga (chain_good hcs) hds h1 (by omega)
    · rw [if_neg (by omega), wrap_succ (by omega)]
      exact ih (n + 1) s hr hcs (by omega)
theorem refAt_ev {l : List S42} {t : Int} (h : Valid l) : Ev (fun k => terrref4_CostAt.f k l t) (atC l t) := by
  cases l with
  | nil => exact h.elim
  | cons a r =>
    unfold terrref4_CostAt.f
    refine ifp (by first | (simp; done) | (simp; omega)) ?_
    have hrd : rd_T42 (a :: r) 0 = a := rfl
    rw [hrd]
    simp only [atC]
    refine Ev.step (fun k => by rw [terrref4_CostAt.l0]) ?_
    refine ifp (by first | (simp; done) | (simp; omega)) ?_
    refine ifp (by omega) ?_
    refine ifp (by first | (simp; done) | (simp; omega)) ?_
    rw [hrd]
    refine ifc (fun h1 => ?_) (fun h1 => ?_)
    · rw [if_pos h1]
      exact ref_low h1
    · rw [if_neg h1]
      rw [show wrap64 (0 + 1) = ((1 : Nat) : Int) from by unfold wrap64; decide]
      exact refAt_l0 (a :: r) t h.1 r 1 a rfl h.2 (by omega)
end Go.Proofs.Ythjejgaekoopnaa.PCostLeaves
