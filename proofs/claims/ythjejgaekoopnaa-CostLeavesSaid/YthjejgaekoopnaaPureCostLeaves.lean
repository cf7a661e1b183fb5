/- The law CostLeaves in plain words: Leave and Later return what the reference says for all curves and times. No condition. -/
import Derived.Test.YthjejgaekoopnaaStatCostLeaves
import Derived.Test.YthjejgaekoopnaaCostLeavesCostV
import Derived.Test.YthjejgaekoopnaaCostLeavesCostS
import Derived.Test.YthjejgaekoopnaaCostLeavesCostB
namespace Go.Proofs.Ythjejgaekoopnaa.Pure
open Go.RowKit Go.Proofs.Ythjejgaekoopnaa.PCostLeaves Go.Proofs.YthjejgaekoopnaaW.PrintWords Go.Proofs.YthjejgaekoopnaaW.PrintLast Go.Proofs.YthjejgaekoopnaaW.PrintMore Go.Proofs.Ythjejgaekoopnaa.Evs
set_option linter.unusedVariables false
theorem costed_ev : Ev (fun k => terrlaw4_costed.f k) true := by
  unfold terrlaw4_costed.f
  exact Ev.bind (Arrive_ev _ 5) (same (ifp (by decide) (Ev.now _)) (by decide))
theorem latest_one {c : List S42} (hv : Valid c) {a b y t t' : Int} (h : Latest c a b y t) (h' : Latest c a b y t') : t = t' := by
  have one : ∀ {t t' : Int}, Latest c a b y t → Latest c a b y t' → ¬ t < t' := by
    intro t t' ⟨h1, h2, h3, h4⟩ ⟨k1, k2, k3, k4⟩ hlt
    rcases h4 with h4 | h4
    · omega
    · have := atC_mono (t := t + 1) (t' := t') hv (by omega)
      omega
  have := one h h'
  have := one h' h
  omega
section
variable (l : List S42) (a1 a2 a3 a4 : Int)
theorem j8_no (x11 x12 x15 x20 : Int) (h : x15 ≠ 0) (h1 : x12 = x15) (h2 : x11 = 0) : Ev (fun k => terrlaw4_CostLeaves.j8 k x11 x12 x15 x20 false) true := by
  refine Ev.step (fun k => by rw [terrlaw4_CostLeaves.j8]) ?_
  refine ifn (by simp) ?_
  refine ifn h ?_
  refine ifp h1 ?_
  exact some_ (by rw [h2]; rfl)
theorem l1_no (x11 x12 x15 x20 x21 : Int) (h : x15 ≠ 0) (h1 : x12 = x15) (h2 : x11 = 0) : Ev (fun k => terrlaw4_CostLeaves.l1 k l a1 a3 x11 x12 x15 x20 x21) true := by
  refine Ev.step (fun k => by rw [terrlaw4_CostLeaves.l1]) ?_
  refine ifn h ?_
  refine Ev.step (fun k => by rw [terrlaw4_CostLeaves.j7]) ?_
  refine ifn (by simp) ?_
  refine ifn h ?_
  exact j8_no x11 x12 x15 x20 h h1 h2
/-- Behind an error the times do not matter. -/
theorem j3_no (x11 x12 x15 : Int) (h : x15 ≠ 0) (h1 : x12 = x15) (h2 : x11 = 0) : Ev (fun k => terrlaw4_CostLeaves.j3 k l a1 a2 a3 x11 x12 x15 false) true := by
  refine Ev.step (fun k => by rw [terrlaw4_CostLeaves.j3]) ?_
  refine ifn (by simp) ?_
  refine ifn h ?_
  refine Ev.step (fun k => by rw [terrlaw4_CostLeaves.j4]) ?_
  refine ifn (by simp) ?_
  refine Ev.step (fun k => by rw [terrlaw4_CostLeaves.j5]) ?_
  exact l1_no l a1 a3 x11 x12 x15 _ _ h h1 h2
theorem j3_arg (hb : a1 < 0 ∨ a2 < a1 ∨ 1073741824 < a2) : Ev (fun k => terrlaw4_CostLeaves.j3 k l a1 a2 a3 0 1 0 false) true := by
  have bad : ∀ z : Bool, z = true → Ev (fun k => terrlaw4_CostLeaves.j4 k l a1 a2 a3 0 1 0 z) true := fun z hz => by
    subst hz
    refine Ev.step (fun k => by rw [terrlaw4_CostLeaves.j4]) ?_
    refine ifp rfl ?_
    refine Ev.step (fun k => by rw [terrlaw4_CostLeaves.j5]) ?_
    exact l1_no l a1 a3 0 1 1 _ _ (by decide) rfl rfl
  refine Ev.step (fun k => by rw [terrlaw4_CostLeaves.j3]) ?_
  refine ifn (by simp) ?_
  refine ifp rfl ?_
  refine ifc (fun _ => bad _ rfl) (fun h1 => ?_)
  refine ifc (fun _ => bad _ rfl) (fun h2 => ?_)
  exact bad _ (decide_eq_true (by omega))
/-- The search of the reference. -/
theorem l1_ok {l : List S42} (hv : Valid l) (x11 x12 : Int) (h0 : 0 ≤ a1) (hab : a1 ≤ a2) (hb : a2 ≤ 1073741824)
    (hres : ∀ t, Latest l a1 a2 a3 t → x11 = t ∧ x12 = 0) (hfar : a3 < a1 + atC l a1 → x11 = 0 ∧ x12 = 17) : ∀ (d : Nat) (p q : Int), q - p = (d : Int) → a1 ≤ p → q ≤ a2 + 1 → (p = a1 ∨ p - 1 + atC l (p - 1) ≤ a3) → (q = a2 + 1 ∨ a3 < q + atC l q) →
    Ev (fun k => terrlaw4_CostLeaves.l1 k l a1 a3 x11 x12 0 p q) true := by
  intro d
  induction d using Nat.strongRecOn with
  | _ d ih =>
    intro p q hd h1 h2 h3 h4
    refine Ev.step (fun k => by rw [terrlaw4_CostLeaves.l1]) ?_
    refine ifp rfl ?_
    refine Ev.step (fun k => by rw [terrlaw4_CostLeaves.j7]) ?_
    by_cases hlt : p < q
    · have hg := atC_good (t := (p + q) / 2) hv
      refine ifp (decide_eq_true hlt) ?_
      rw [wrap_in (x := p + q) (by omega) (by omega), Int.tdiv_eq_ediv_of_nonneg (a := p + q) (b := 2) (by omega), wrap_in (x := (p + q) / 2) (by omega) (by omega)]
      refine Ev.bind (refAt_ev hv) ?_
      rw [wrap_in (x := (p + q) / 2 + atC l ((p + q) / 2)) (by omega) (by omega)]
      refine ifc (fun hle => ?_) (fun hle => ?_)
      · rw [wrap_in (x := (p + q) / 2 + 1) (by omega) (by omega)]
        exact ih (q - ((p + q) / 2 + 1)).toNat (by omega) _ _ (by omega) (by omega) h2 (Or.inr (by rw [show (p + q) / 2 + 1 - 1 = (p + q) / 2 by omega]; exact hle)) h4
      · exact ih ((p + q) / 2 - p).toNat (by omega) _ _ (by omega) h1 (by omega) h3 (Or.inr (by omega))
    · have e : q = p := by omega
      subst e
      refine ifn (fun h => hlt (of_decide_eq_true h)) ?_
      refine ifp rfl ?_
      by_cases hp : q = a1
      · have hf := hfar (by rcases h4 with h | h; omega; rw [hp] at h; exact h)
        refine Ev.step (fun k => by rw [terrlaw4_CostLeaves.j8]) ?_
        refine ifp (beq_iff_eq.mpr hp) ?_
        refine ifn (by decide) ?_
        refine ifp hf.2 ?_
        exact some_ (by rw [hf.1]; rfl)
      · have h3' : q - 1 + atC l (q - 1) ≤ a3 := by rcases h3 with h | h; exact absurd h hp; exact h
        have hr := hres (q - 1) ⟨by omega, by omega, h3', by rcases h4 with h | h; exact Or.inl (by omega); exact Or.inr (by rw [show q - 1 + 1 = q by omega]; exact h)⟩
        refine Ev.step (fun k => by rw [terrlaw4_CostLeaves.j8]) ?_
        refine ifn (fun h => hp (beq_iff_eq.mp h)) ?_
        refine ifp rfl ?_
        refine ifp hr.2 ?_
        exact some_ (by rw [hr.1, wrap_in (x := q - 1) (by omega) (by omega)]; simp)
theorem j3_ok {l : List S42} (hv : Valid l) (x11 x12 : Int) (h0 : 0 ≤ a1) (hab : a1 ≤ a2) (hb : a2 ≤ 1073741824)
    (hres : ∀ t, Latest l a1 a2 a3 t → x11 = t ∧ x12 = 0) (hfar : a3 < a1 + atC l a1 → x11 = 0 ∧ x12 = 17) : Ev (fun k => terrlaw4_CostLeaves.j3 k l a1 a2 a3 x11 x12 0 false) true := by
  refine Ev.step (fun k => by rw [terrlaw4_CostLeaves.j3]) ?_
  refine ifn (by simp) ?_
  refine ifp rfl ?_
  refine ifn (by omega) ?_
  refine ifn (by omega) ?_
  refine Ev.step (fun k => by rw [terrlaw4_CostLeaves.j4]) ?_
  refine ifn (by simp; omega) ?_
  refine Ev.step (fun k => by rw [terrlaw4_CostLeaves.j5]) ?_
  rw [wrap_in (x := a2 + 1) (by omega) (by omega)]
  exact l1_ok a1 a2 a3 hv x11 x12 h0 hab hb hres hfar (a2 + 1 - a1).toNat a1 (a2 + 1) (by omega) (Int.le_refl _) (Int.le_refl _) (Or.inl rfl) (Or.inl rfl)
/-- The loop that lists the moved curve: behind an error it lists nothing. -/
theorem l0_no (x11 x12 x15 x16 : Int) (hl : l.length < 4611686018427387904) (h16 : x16 ≠ 0) (hj : Ev (fun k => terrlaw4_CostLeaves.j3 k l a1 a2 a3 x11 x12 x15 false) true) : ∀ (r : List S42) (n : Nat), l.drop n = r →
    Ev (fun k => terrlaw4_CostLeaves.l0 k l a1 a2 a3 a4 x11 x12 [] x16 x15 x16 [] l (l.length : Int) (n : Int)) true := by
  intro r
  induction r with
  | nil =>
    intro n hd
    have hn := drop_nil hd
    refine Ev.step (fun k => by rw [terrlaw4_CostLeaves.l0]) ?_
    refine ifn (by omega) ?_
    refine Ev.bind costed_ev ?_
    refine ifp rfl ?_
    refine ifp rfl ?_
    refine Ev.bind (equal_ev [] (by simp)) ?_
    exact hj
  | cons s r ih =>
    intro n hd
    obtain ⟨hn, hs, hr⟩ := drop_cons z42 hd
    refine Ev.step (fun k => by rw [terrlaw4_CostLeaves.l0]) ?_
    refine ifp (by omega) ?_
    refine ifp (by omega) ?_
    refine ifp (by omega) ?_
    refine ifn h16 ?_
    rw [wrap_succ (by omega)]
    exact ih (n + 1) hr
theorem l0_ok {l : List S42} (hv : Valid l) (h4 : 0 ≤ a4) (h5 : lastT l + a4 ≤ 1073741824) (x11 x12 : Int) (hj : Ev (fun k => terrlaw4_CostLeaves.j3 k l a1 a2 a3 x11 x12 0 false) true) : ∀ (r : List S42) (n : Nat), l.drop n = r →
    Ev (fun k => terrlaw4_CostLeaves.l0 k l a1 a2 a3 a4 x11 x12 (l.map (sh a4)) 0 0 0 ((l.take n).map (sh a4)) l (l.length : Int) (n : Int)) true := by
  have hl : l.length ≤ 24 := by cases l with | nil => exact hv.elim | cons a r => exact hv.1
  intro r
  induction r with
  | nil =>
    intro n hd
    have hn := drop_nil hd
    refine Ev.step (fun k => by rw [terrlaw4_CostLeaves.l0]) ?_
    refine ifn (by omega) ?_
    refine Ev.bind costed_ev ?_
    refine ifp rfl ?_
    refine ifp rfl ?_
    rw [List.take_of_length_le hn]
    refine Ev.bind (equal_ev _ (by simp; omega)) ?_
    exact hj
  | cons s r ih =>
    intro n hd
    obtain ⟨hn, hs, hr⟩ := drop_cons z42 hd
    have hrd : rd_T42 l (n : Int) = s := hs
    have hm : l[n]? = some s := by
      have := congrArg (fun z => z[0]?) hd
      simpa using this
    have hs1 := lastT_ge hv s (List.mem_of_getElem? hm)
    have hs2 := valid_all hv s (List.mem_of_getElem? hm)
    unfold good at hs2
    refine Ev.step (fun k => by rw [terrlaw4_CostLeaves.l0]) ?_
    refine ifp (by omega) ?_
    refine ifp (by omega) ?_
    refine ifp (by omega) ?_
    refine ifp rfl ?_
    refine ifp (by simp; omega) ?_
    rw [hrd, wrap_in (x := s.f0 + a4) (by omega) (by omega), wrap_succ (by omega)]
    have e : (l.take n).map (sh a4) ++ [(⟨s.f0 + a4, s.f1⟩ : S42)] = (l.take (n + 1)).map (sh a4) := by
      rw [List.take_add_one, hm]
      simp [sh]
    rw [e]
    exact ih (n + 1) hr
end
theorem CostLeaves : terrlaw4_CostLeaves.Pure := by
  intro l a1 a2 a3 a4 hlen _ w1 w2 w3 w4
  have b4 := wf_bounds w4
  refine Ev.rounds (?_ : Ev (fun k => terrlaw4_CostLeaves.f k l a1 a2 a3 a4) true)
  unfold terrlaw4_CostLeaves.f
  by_cases hE : chk l = 0
  · have hv := (chk_zero l).1 hE
    have hl0 : 0 < l.length := by cases l with | nil => exact hv.elim | cons a r => simp
    have hl : l.length ≤ 24 := by cases l with | nil => exact hv.elim | cons a r => exact hv.1
    have hT := lastT_good hv
    obtain ⟨x11, x12, hL, hj⟩ : ∃ x11 x12, Ev (fun k => cost_Leave.f k l a1 a2 a3) (x11, x12) ∧ ∀ a4 : Int, Ev (fun k => terrlaw4_CostLeaves.j3 k l a1 a2 a3 x11 x12 0 false) true := by
      by_cases hb : a1 < 0 ∨ a2 < a1 ∨ 1073741824 < a2
      · exact ⟨0, 1, Leave_arg hv hb, fun _ => j3_arg l a1 a2 a3 hb⟩
      · by_cases hy : a1 + atC l a1 ≤ a3
        · obtain ⟨t, ht, hLt⟩ := Leave_ok hv (a := a1) (b := a2) (y := a3) (by omega) (by omega) (by omega) hy
          exact ⟨t, 0, ht, fun _ => j3_ok a1 a2 a3 hv t 0 (by omega) (by omega) (by omega) (fun t' h' => ⟨latest_one hv hLt h', rfl⟩) (fun h => by omega)⟩
        · refine ⟨0, 17, Leave_far hv (by omega) (by omega) (by omega) (by omega), fun _ => j3_ok a1 a2 a3 hv 0 17 (by omega) (by omega) (by omega) (fun t' h' => ?_) (fun _ => ⟨rfl, rfl⟩)⟩
          have := atC_mono (t := a1) (t' := t') hv h'.1
          have := h'.2.2.1
          omega
    refine Ev.bind hL ?_
    refine Ev.bind (Later_ev l a4) ?_
    refine Ev.bind (fault_ev l) ?_
    refine ifp hE ?_
    rw [hE]
    by_cases hb : a4 < 0 ∨ a4 > 1073741824 - lastT l
    · have hLt : LaterOf l a4 = ([], 1) := by unfold LaterOf; rw [if_pos hE, if_pos hb]
      rw [hLt]
      have bad : ∀ z : Bool, z = true → Ev (fun k => terrlaw4_CostLeaves.j0 k l a1 a2 a3 a4 x11 x12 [] 1 0 0 [] z) true := fun z hz => by
        subst hz
        refine Ev.step (fun k => by rw [terrlaw4_CostLeaves.j0]) ?_
        refine ifp rfl ?_
        refine Ev.step (fun k => by rw [terrlaw4_CostLeaves.j1]) ?_
        exact l0_no l a1 a2 a3 a4 x11 x12 0 1 (by omega) (by decide) (hj a4) l 0 rfl
      refine ifc (fun _ => bad _ rfl) (fun h1 => ?_)
      refine ifc (fun _ => bad _ rfl) (fun h2 => ?_)
      rw [wrap_pred hl0 (by omega)]
      refine ifp (by omega) ?_
      refine ifp (by omega) ?_
      have hrd : (rd_T42 l ((l.length - 1 : Nat) : Int)).f0 = lastT l := rfl
      rw [hrd, wrap_in (x := lastT l + a4) (by omega) (by omega)]
      exact bad _ (decide_eq_true (by omega))
    · have hLt : LaterOf l a4 = (l.map (sh a4), 0) := by unfold LaterOf; rw [if_pos hE, if_neg hb]
      rw [hLt]
      refine ifn (by omega) ?_
      refine ifn (by omega) ?_
      rw [wrap_pred hl0 (by omega)]
      refine ifp (by omega) ?_
      refine ifp (by omega) ?_
      have hrd : (rd_T42 l ((l.length - 1 : Nat) : Int)).f0 = lastT l := rfl
      rw [hrd, wrap_in (x := lastT l + a4) (by omega) (by omega)]
      refine Ev.step (fun k => by rw [terrlaw4_CostLeaves.j0]) ?_
      refine ifn (by simp; omega) ?_
      refine Ev.step (fun k => by rw [terrlaw4_CostLeaves.j1]) ?_
      exact l0_ok a1 a2 a3 a4 hv (by omega) (by omega) x11 x12 (hj a4) l 0 rfl
  · refine Ev.bind (Leave_bad hE) ?_
    have hLt : LaterOf l a4 = ([], chk l) := by unfold LaterOf; rw [if_neg hE]
    refine Ev.bind (same (Later_ev l a4) hLt) ?_
    refine Ev.bind (fault_ev l) ?_
    refine ifn hE ?_
    refine Ev.step (fun k => by rw [terrlaw4_CostLeaves.j0]) ?_
    refine ifn (by simp) ?_
    refine Ev.step (fun k => by rw [terrlaw4_CostLeaves.j1]) ?_
    exact l0_no l a1 a2 a3 a4 0 (chk l) (chk l) (chk l) (by omega) hE (j3_no l a1 a2 a3 0 (chk l) (chk l) hE rfl rfl) l 0 rfl
end Go.Proofs.Ythjejgaekoopnaa.Pure
