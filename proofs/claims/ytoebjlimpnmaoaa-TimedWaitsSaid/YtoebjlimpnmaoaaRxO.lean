/- Reflection, part O: a call of a function that has a contract, soundly. -/
import Derived.Test.YtoebjlimpnmaoaaRxN
namespace Go.Rx
set_option linter.unusedVariables false
set_option linter.unusedSimpArgs false
set_option linter.unusedSectionVars false

section
variable {w0 : World} {Fz Pr0 : Nat → Prop} {Lo : Nat → RL} {a : Act} {w : World} {Pr : Nat → Prop}

theorem adds_cons {σ σ' : St} {κ : Nat} {o : Ob} {r : List (Nat × Ob)} (h : σ.adds ((κ, o) :: r) = some σ') : okK κ σ.objs.length = true ∧ σ.ob κ = none ∧ (σ.setOb κ (some o)).adds r = some σ' := by
  simp only [St.adds] at h
  split at h
  · rename_i h1 h2
    exact ⟨h1, h2, h⟩
  · cases h

theorem RepV_rep {R : Nat → RL} {agg : Bool} {τ : Ty} {x : τ.D} {v : Value} (h : RepV w Pr (agg, τ) x v) : match agg with
    | true => RepCp w R Pr (.agg (τ.cells x)) v
    | false => ∀ c, τ.cells x = [c] → RepCp w R Pr (.one c) v := by
  cases agg with
  | true =>
    obtain ⟨us, rfl, h1⟩ := h
    exact ⟨us, rfl, cells_rep h1⟩
  | false =>
    intro c hc
    have := cells_rep (R := R) (show RepTy w Pr τ x [v] from h)
    rw [hc] at this
    exact this.1

theorem adds_sound {N d n : Nat} (hn : w0.heap.size ≤ n) : ∀ (rs : List RT) (r : RDL rs) (i : Nat) (us : List Value) (bs : List Nat) (σ σ' : St) (R : Nat → RL) (cs : List Cp) (ns : List (Nat × Ob)),
    Inv w0 Fz Pr0 Lo R Pr σ a w → (∀ κ o, σ.ob κ = some o → real R κ o → (R κ).blk < n ∨ (R κ).blk ∈ bs) → RepRets w n Pr rs r us bs → rets N d i rs r = some (cs, ns) → σ.adds ns = some σ' →
    ∃ R', Inv w0 Fz Pr0 Lo R' Pr σ' a w ∧ All2 (RepCp w R' Pr) cs us ∧ (∀ c ∈ cs, ∀ κ ∈ c.refs, σ'.ob κ ≠ none) ∧ (∀ κ, σ.ob κ ≠ none → R' κ = R κ ∧ σ'.ob κ ≠ none) ∧ σ'.tmps = σ.tmps
  | [], r, i, us, bs, σ, σ', R, cs, ns, h, hb, hr, hc, ha => by
    simp only [rets] at hc
    cases hc
    simp only [St.adds] at ha
    cases ha
    rw [show us = [] from hr]
    exact ⟨R, h, trivial, fun c hc => (by cases hc), fun κ hκ => ⟨rfl, hκ⟩, rfl⟩
  | .d true τ :: rs, r, i, us, bs, σ, σ', R, cs, ns, h, hb, hr, hc, ha => by
    obtain ⟨v, us', rfl, h1, h2⟩ := hr
    simp only [rets] at hc
    split at hc
    · rename_i cs' ns' hc'
      cases hc
      obtain ⟨R', k1, k2, k3, k4, k5⟩ := adds_sound hn rs r.2 i us' bs σ σ' R _ _ h hb h2 hc' ha
      refine ⟨R', k1, ⟨RepV_rep h1, k2⟩, fun c hc κ hκ => ?_, k4, k5⟩
      rcases List.mem_cons.1 hc with rfl | hc
      · obtain ⟨c, hc, hk⟩ := List.mem_flatMap.1 hκ
        rw [cells_refs _ _ c hc] at hk; cases hk
      · exact k3 c hc κ hκ
    · cases hc
  | .d false τ :: rs, r, i, us, bs, σ, σ', R, cs, ns, h, hb, hr, hc, ha => by
    obtain ⟨v, us', rfl, h1, h2⟩ := hr
    simp only [rets] at hc
    split at hc
    · rename_i c cs' ns' hx hc'
      cases hc
      obtain ⟨R', k1, k2, k3, k4, k5⟩ := adds_sound hn rs r.2 i us' bs σ σ' R _ _ h hb h2 hc' ha
      refine ⟨R', k1, ⟨RepV_rep h1 c hx, k2⟩, fun c' hc κ hκ => ?_, k4, k5⟩
      rcases List.mem_cons.1 hc with rfl | hc
      · have : c.refs = [] := cells_refs τ r.1 c (by rw [hx]; simp)
        rw [show (Cp.one c).refs = c.refs from rfl, this] at hκ; cases hκ
      · exact k3 c' hc κ hκ
    · cases hc
  | .new e :: rs, r, i, us, bs, σ, σ', R, cs, ns, h, hb, hr, hc, ha => by
    obtain ⟨v, us', blk, rfl, h1, h2, h3⟩ := hr
    simp only [rets] at hc
    split at hc
    · rename_i cs' ns' hc'
      cases hc
      obtain ⟨g1, g2, g3⟩ := adds_cons ha
      -- where the row lies
      have hloc : ∃ loc : RL, v = loc.hdr ∧ (loc.hdr ≠ .slice none 0 0 → loc.blk = blk ∧ n ≤ blk ∧ ¬ Pr blk) ∧ ∀ R1 : Nat → RL, R1 (d + i * N) = loc → RepOb w R1 Pr (d + i * N) (.vec e r.1) := by
        rcases h1 with ⟨h1, h1'⟩ | ⟨off, cap, cells, el, k1, k2, k3, k4, k5, k6, k7⟩
        · refine ⟨⟨0, none, 0, 0⟩, h1, fun g => (g rfl).elim, fun R1 hR1 => ⟨?_, .inl ⟨by rw [hR1]; rfl, h1'⟩⟩⟩
          rw [hR1, h1']; rfl
        · refine ⟨⟨blk, some ⟨blk, off, none⟩, r.1.length, cap⟩, k1, fun _ => ⟨rfl, k5, k6⟩, fun R1 hR1 => ⟨by rw [hR1], .inr ⟨off, cap, cells, el, by rw [hR1]; rfl, k2, by rw [hR1]; exact k3, k4, k7⟩⟩⟩
      obtain ⟨loc, l1, l2, l3⟩ := hloc
      have hRd : (fun κ => if κ = d + i * N then loc else R κ) (d + i * N) = loc := by simp
      have hRn : ∀ κ, κ ≠ d + i * N → (fun κ => if κ = d + i * N then loc else R κ) κ = R κ := fun κ hk => by simp [hk]
      have hreal : ∀ κ o, κ ≠ d + i * N → real (fun κ => if κ = d + i * N then loc else R κ) κ o → real R κ o := fun κ o hk hx => by
        cases o with
        | box _ => trivial
        | set _ => trivial
        | vec _ _ => simp only [real] at hx ⊢; rw [if_neg hk] at hx; exact hx
      have hi1 := h.add (d + i * N) (.vec e r.1) loc g2 g1 rfl (l3 _ hRd) (fun κ hκ => by cases hκ) (fun hre => by
        have hre' : loc.hdr ≠ .slice none 0 0 := by simpa [real] using hre
        obtain ⟨m1, m2, m3⟩ := l2 hre'
        rw [m1]
        refine ⟨m3, fun z => by have := (h.fz _ z).1; omega, fun κ o' ho' hre2 => ?_⟩
        rcases hb κ o' ho' hre2 with q | q
        · omega
        · intro e; exact h2 (by rw [l1]; exact hre') (e ▸ q))
      obtain ⟨R', k1, k2, k3, k4, k5⟩ := adds_sound hn rs r.2 (i + 1) us' (blk :: bs) _ σ' _ _ _ hi1 (fun κ o ho hre => by
        rw [St.ob_setOb] at ho
        by_cases e : d + i * N = κ
        · subst e
          have hre' : loc.hdr ≠ .slice none 0 0 := by
            rw [if_pos ⟨rfl, okK_lt g1⟩] at ho; cases ho
            simpa [real] using hre
          rw [if_pos rfl, (l2 hre').1]
          exact .inr (by simp)
        · rw [if_neg (fun z => e z.1)] at ho
          have hk : κ ≠ d + i * N := fun z => e z.symm
          rw [if_neg hk]
          rcases hb κ o ho (hreal κ o hk hre) with q | q
          · exact .inl q
          · exact .inr (by simp [q])) h3 hc' g3
      have hpk := k4 (d + i * N) (by rw [St.ob_setOb, if_pos ⟨rfl, okK_lt g1⟩]; simp)
      refine ⟨R', k1, ⟨?_, k2⟩, fun c hc κ hκ => ?_, fun κ hκ => ?_, k5⟩
      · show v = (R' (d + i * N)).hdr
        rw [hpk.1, if_pos rfl, l1]
      · rcases List.mem_cons.1 hc with rfl | hc
        · have : κ = d + i * N := by simpa [Cp.refs, C.refs] using hκ
          rw [this]; exact hpk.2
        · exact k3 c hc κ hκ
      · have hk : κ ≠ d + i * N := fun e => hκ (e ▸ g2)
        have := k4 κ (by rw [St.ob_setOb, if_neg (fun z => hk z.1.symm)]; exact hκ)
        exact ⟨this.1.trans (hRn κ hk), this.2⟩
    · cases hc

theorem packA_rep {R : Nat → RL} {cs : List Cp} {us : List Value} (h : All2 (RepCp w R Pr) cs us) : RepA w R Pr (packA cs) (packV us) := by
  cases cs with
  | nil =>
    cases us with
    | nil => exact ⟨#[], rfl, trivial⟩
    | cons _ _ => exact h.elim
  | cons c cs =>
    cases us with
    | nil => exact h.elim
    | cons u us =>
      cases cs with
      | nil =>
        cases us with
        | nil => exact h.1
        | cons _ _ => exact h.2.elim
      | cons c2 cs =>
        cases us with
        | nil => exact h.2.elim
        | cons u2 us => exact ⟨(u :: u2 :: us).toArray, rfl, h⟩
theorem packA_refs {cs : List Cp} {κ : Nat} (h : κ ∈ (packA cs).refs) : ∃ c ∈ cs, κ ∈ c.refs := by
  unfold packA at h
  split at h
  · exact ⟨_, by simp, h⟩
  · exact List.mem_flatMap.1 h

theorem frzs_inv : ∀ (l : List Nat) {R : Nat → RL} {Pr : Nat → Prop} {σ : St}, Inv w0 Fz Pr0 Lo R Pr σ a w → (∀ b, b < w0.heap.size → Fz b ∨ Pr0 b) → Inv w0 Fz Pr0 Lo R (fun b => Pr b ∨ ∃ κ ∈ l, ∃ e m, σ.ob κ = some (.vec e m) ∧ real R κ (.vec e m) ∧ b = (R κ).blk) (frzs l σ) a w
  | [], R, Pr, σ, h, _ => by
    have : Pr = (fun b => Pr b ∨ ∃ κ ∈ ([] : List Nat), ∃ e m, σ.ob κ = some (.vec e m) ∧ real R κ (.vec e m) ∧ b = (R κ).blk) := funext fun b => propext ⟨.inl, fun g => g.elim id (fun ⟨_, g, _⟩ => by cases g)⟩
    rw [← this]; exact h
  | κ :: l, R, Pr, σ, h, hf => by
    have h1 := frzs_inv l (h.frz κ hf) hf
    refine cast (congrArg (fun p => Inv w0 Fz Pr0 Lo R p (frzs (κ :: l) σ) a w) (funext fun b => propext ⟨fun g => ?_, fun g => ?_⟩)) h1
    · rcases g with (g | ⟨e, m, g1, g2, g3⟩) | ⟨κ', hκ', e, m, g1, g2, g3⟩
      · exact .inl g
      · exact .inr ⟨κ, by simp, e, m, g1, g2, g3⟩
      · by_cases hlt : κ < σ.objs.length
        · exact .inr ⟨κ', by simp [hκ'], e, m, ((frz_ob_vec σ κ κ' hlt).1 g1).1, g2, g3⟩
        · have : σ.frz κ = σ := by
            have : σ.ob κ = none := by unfold St.ob; rw [List.getD_eq_getElem?_getD, List.getElem?_eq_none (by omega)]; rfl
            unfold St.frz; rw [this]
          rw [this] at g1
          exact .inr ⟨κ', by simp [hκ'], e, m, g1, g2, g3⟩
    · rcases g with g | ⟨κ', hκ', e, m, g1, g2, g3⟩
      · exact .inl (.inl g)
      · by_cases e1 : κ' = κ
        · subst e1; exact .inl (.inr ⟨e, m, g1, g2, g3⟩)
        · have hκ' : κ' ∈ l := by simpa [e1] using hκ'
          refine .inr ⟨κ', hκ', e, m, ?_, g2, g3⟩
          by_cases hlt : κ < σ.objs.length
          · exact (frz_ob_vec σ κ κ' hlt).2 ⟨g1, fun z => e1 z.1⟩
          · have : σ.frz κ = σ := by
              have : σ.ob κ = none := by unfold St.ob; rw [List.getD_eq_getElem?_getD, List.getElem?_eq_none (by omega)]; rfl
              unfold St.frz; rw [this]
            rw [this]; exact g1
theorem frzs_tmps : ∀ (l : List Nat) (σ : St), (frzs l σ).tmps.length = σ.tmps.length
  | [], σ => rfl
  | κ :: l, σ => by
    rw [frzs, frzs_tmps l]
    unfold St.frz
    split <;> simp

theorem rets_solid {N d n : Nat} {w : World} {Pr Pr' : Nat → Prop} : ∀ (rs : List RT) (r : RDL rs) (us : List Value) (bs : List Nat), (rs.all RT.solid) = true → (∀ b, n ≤ b → Pr' b → Pr b) → RepRets w n Pr rs r us bs → RepRets w n Pr' rs r us bs
  | [], _, _, _, _, _, h => h
  | .d agg τ :: rs, r, us, bs, hs, hp, h => by
    simp only [List.all_cons, Bool.and_eq_true] at hs
    obtain ⟨v, us', rfl, h1, h2⟩ := h
    refine ⟨v, us', rfl, ?_, rets_solid (N := N) (d := d) rs r.2 us' bs hs.2 hp h2⟩
    unfold RepV at *
    cases agg with
    | true => obtain ⟨u, e, h3⟩ := h1; exact ⟨u, e, h3.solid hs.1⟩
    | false => exact RepTy.solid hs.1 h1
  | .new e :: rs, r, us, bs, hs, hp, h => by
    simp only [List.all_cons, Bool.and_eq_true] at hs
    obtain ⟨v, us', blk, rfl, h1, h2, h3⟩ := h
    refine ⟨v, us', blk, rfl, ?_, h2, rets_solid (N := N) (d := d) rs r.2 us' _ hs.2 hp h3⟩
    rcases h1 with h1 | ⟨off, cap, cells, el, k1, k2, k3, k4, k5, k6, k7⟩
    · exact .inl h1
    · refine .inr ⟨off, cap, cells, el, k1, k2, k3, k4, k5, fun z => k6 (hp blk k5 z), fun i y hi => ?_⟩
      obtain ⟨u, m1, m2⟩ := k7 i y hi
      exact ⟨u, m1, m2.solid hs.1⟩

theorem call_sound {P : Program} {f : FuncId} {c : Con} (hok : PureOK P f c.sig c.rs c.fn) {R : Nat → RL} {σ σ1 σ' : St} (h : Inv w0 Fz Pr0 Lo R Pr σ a w) (hFz : ∀ b, b < w0.heap.size → Fz b ∨ Pr0 b) {args : List AV} {vs : List Value} (hargs : All2 (RepA w R Pr) args vs)
    {acc : List Nat} {xs : DL c.sig} {r : RDL c.rs} {dst : Option Nat} (hpre : callPre σ c args = some (acc, σ1, xs)) (hfn : c.fn xs = some r) {x : AV} {nsl : List (Nat × Ob)} (hpost : callPost σ1 dst c.rs r = some (σ', x, nsl)) :
    Calls P f vs.toArray w fun e w' => ∃ v R' Pr', e = .returned v ∧ Inv w0 Fz Pr0 Lo R' Pr' σ' a w' ∧ RepA w' R' Pr' x v ∧ ∀ κ ∈ x.refs, σ'.ob κ ≠ none := by
  unfold callPre at hpre
  split at hpre
  · rename_i acc' xs' hta
    cases hpre
    unfold callPost at hpost
    split at hpost
    · rename_i cs ns hrets
      split at hpost
      · rename_i σ2 hadds
        obtain ⟨rfl, rfl, rfl⟩ : σ2 = σ' ∧ packA cs = x ∧ ns = nsl := by simpa using hpost
        have hgr := h.sm.sz
        -- the objects whose rows are handed over are kept meanwhile
        let Pc : Nat → Prop := fun b => Pr b ∨ ∃ κ ∈ acc, ∃ e m, σ.ob κ = some (.vec e m) ∧ real R κ (.vec e m) ∧ b = (R κ).blk
        have hPc : ∀ b, Pr b → Pc b := fun b hb => .inl hb
        have hPclt : ∀ b, Pc b → b < w.heap.size := fun b hb => by
          rcases hb with hb | ⟨κ, _, e, m, h1, h2, rfl⟩
          · exact h.pr b hb
          · exact RepOb.lt h2 (h.ob κ _ h1)
        have hra := toArgs_rep (Pr' := Pc) h.ob hPc hta (fun κ hκ e m ho hre => .inr ⟨κ, hκ, e, m, ho, hre, rfl⟩) hargs
        refine (hok xs r hfn w Pc vs hPclt hra).mono ?_
        rintro e w' ⟨Pr', us, rfl, hw, hg, hp1, hp2, hp3, hrr⟩
        have hs := hg.sz
        refine ⟨packV us, ?_⟩
        -- the state in the new world
        have key : ∀ (σ1 : St) (R1 : Nat → RL) (Pr1 Pr2 : Nat → Prop), Inv w0 Fz Pr0 Lo R1 Pr1 σ1 a w → (∀ κ, R1 κ = R κ) → (∀ κ o, σ1.ob κ = some o → real R κ o → (R κ).blk < w.heap.size) → (∀ b, Pr1 b → Pr2 b) → (∀ b, Pr2 b → b < w.heap.size → Pr1 b) → (∀ b, Pr2 b → b < w'.heap.size) →
            RepRets w' w.heap.size Pr2 c.rs r us [] → rets σ1.tmps.length (dst.getD 0) 0 c.rs r = some (cs, ns) → σ1.adds ns = some σ2 → ∃ R' Pr', Ending.returned (packV us) = .returned (packV us) ∧ Inv w0 Fz Pr0 Lo R' Pr' σ2 a w' ∧ RepA w' R' Pr' (packA cs) (packV us) ∧ ∀ κ ∈ (packA cs).refs, σ2.ob κ ≠ none := fun σ1 R1 Pr1 Pr2 h1 hR hlt q1 q2 q3 hr2 hrets hadds => by
          have h2 := h1.world (w' := w') (Pr' := Pr2) hw hg q1 q2 q3
          have hR' : R1 = R := funext hR
          subst hR'
          obtain ⟨R', k1, k2, k3, k4, k5⟩ := adds_sound (N := σ1.tmps.length) (d := dst.getD 0) (n := w.heap.size) hgr c.rs r 0 us [] σ1 σ2 R1 cs ns h2 (fun κ o ho hre => .inl (hlt κ o ho hre)) hr2 hrets hadds
          exact ⟨R', Pr2, rfl, k1, packA_rep k2, fun κ hκ => by obtain ⟨c, hc, hk⟩ := packA_refs hκ; exact k3 c hc κ hk⟩
        have hbase : ∀ (hσ : acc = [] ∨ c.rs.all RT.solid = true) , rets σ.tmps.length (dst.getD 0) 0 c.rs r = some (cs, ns) → σ.adds ns = some σ2 → ∃ R' Pr', Ending.returned (packV us) = .returned (packV us) ∧ Inv w0 Fz Pr0 Lo R' Pr' σ2 a w' ∧ RepA w' R' Pr' (packA cs) (packV us) ∧ ∀ κ ∈ (packA cs).refs, σ2.ob κ ≠ none := fun hσ hrets hadds => by
          rcases hσ with rfl | hsol
          · have hPcPr : ∀ b, Pc b → Pr b := fun b hb => by
              rcases hb with hb | ⟨κ, hκ, _⟩
              · exact hb
              · cases hκ
            exact key σ R Pr Pr' h (fun _ => rfl) (fun κ o ho hre => RepOb.lt hre (h.ob κ o ho)) (fun b hb => hp1 b (hPc b hb)) (fun b hb hlt => hPcPr b (hp2 b hb hlt)) hp3 hrr hrets hadds
          · refine key σ R Pr (fun b => Pr b ∨ (w.heap.size ≤ b ∧ Pr' b)) h (fun _ => rfl) (fun κ o ho hre => RepOb.lt hre (h.ob κ o ho)) (fun b hb => .inl hb) (fun b hb hlt => ?_) (fun b hb => ?_) ?_ hrets hadds
            · rcases hb with hb | hb
              · exact hb
              · omega
            · rcases hb with hb | hb
              · have := h.pr b hb; omega
              · exact hp3 b hb.2
            · exact rets_solid (N := 0) (d := 0) c.rs r us [] hsol (fun b hn hb => by
                rcases hb with hb | hb
                · have := h.pr b hb; omega
                · exact hb.2) hrr
        cases hacc : acc with
        | nil =>
          rw [hacc] at hrets hadds
          exact hbase (.inl hacc) hrets hadds
        | cons κ0 rest =>
          cases hsol : c.rs.all RT.solid with
          | true =>
            have e1 : frzIf c.rs acc σ = σ := by rw [hacc]; simp only [frzIf, hsol]
            rw [e1] at hrets hadds
            exact hbase (.inr hsol) hrets hadds
          | false =>
            have e1 : frzIf c.rs acc σ = frzs acc σ := by rw [hacc]; simp only [frzIf, hsol]
            rw [e1] at hrets hadds
            have hf := frzs_inv acc h hFz
            exact key (frzs acc σ) R Pc Pr' hf (fun _ => rfl) (fun κ o ho hre => RepOb.lt hre (hf.ob κ o ho)) hp1 hp2 hp3 hrr hrets hadds
      · cases hpost
    · cases hpost
  · cases hpre

theorem frz_keep {σ : St} {κ κ' : Nat} {o : Ob} (h : σ.ob κ = some o) (hne : κ ≠ κ') : ∃ o', (σ.frz κ').ob κ = some o' ∧ ∀ R : Nat → RL, real R κ o' ↔ real R κ o := by
  cases hob : σ.ob κ' with
  | none => exact ⟨o, by unfold St.frz; rw [hob]; exact h, fun _ => Iff.rfl⟩
  | some o1 =>
    cases o1 with
    | box cs2 => exact ⟨o, by unfold St.frz; rw [hob]; exact h, fun _ => Iff.rfl⟩
    | set l2 => exact ⟨o, by unfold St.frz; rw [hob]; exact h, fun _ => Iff.rfl⟩
    | vec e l =>
      have hfr : σ.frz κ' = ⟨σ.tmps.map (frzA κ' e l), (σ.objs.map (frzO κ' e l)).set κ' none⟩ := by unfold St.frz; rw [hob]
      have hget : (σ.frz κ').ob κ = frzO κ' e l (some o) := by
        rw [hfr]
        unfold St.ob at h ⊢
        simp only [List.getD_eq_getElem?_getD, List.getElem?_set, List.length_map, List.getElem?_map] at h ⊢
        rw [if_neg (fun z => hne z.symm)]
        cases hx : σ.objs[κ]? with
        | none => rw [hx] at h; cases h
        | some o2 => rw [hx] at h; simp only [Option.getD_some] at h; subst h; simp
      rw [hget]
      cases o <;> exact ⟨_, rfl, fun _ => Iff.rfl⟩
theorem frzs_keep {κ : Nat} : ∀ (l : List Nat) {σ : St} {o : Ob}, σ.ob κ = some o → κ ∉ l → ∃ o', (frzs l σ).ob κ = some o' ∧ ∀ R : Nat → RL, real R κ o' ↔ real R κ o
  | [], _, o, h, _ => ⟨o, h, fun _ => Iff.rfl⟩
  | κ' :: l, _, _, h, hn => by
    obtain ⟨o1, h1, h2⟩ := frz_keep h (fun e => hn (by rw [e]; exact List.mem_cons_self ..))
    obtain ⟨o2, h3, h4⟩ := frzs_keep l h1 (fun e => hn (List.mem_cons_of_mem _ e))
    exact ⟨o2, h3, fun R => (h4 R).trans (h2 R)⟩
theorem All2.flip {α β : Type} {r : α → β → Prop} {s : β → α → Prop} (hs : ∀ a b, r a b → s b a) : ∀ {l : List α} {m : List β}, All2 r l m → All2 s m l
  | [], [], _ => trivial
  | _ :: _, _ :: _, h => ⟨hs _ _ h.1, All2.flip hs h.2⟩
  | [], _ :: _, h => h.elim
  | _ :: _, [], h => h.elim
theorem all2_range {L R : Nat → RL} : ∀ {l : List Nat} {s n : Nat}, l.length = n → (∀ (i k : Nat), l[i]? = some k → L (s + i) = R k) → All2 (fun k k' => L k' = R k) l (List.range' s n)
  | [], s, n, hl, h => by subst hl; trivial
  | k :: l, s, n, hl, h => by
    subst hl
    refine ⟨h 0 k rfl, all2_range (s := s + 1) rfl fun i k' hk => ?_⟩
    have := h (i + 1) k' (by simpa using hk)
    rw [show s + 1 + i = s + (i + 1) by omega]; exact this
/-- More is kept for good. -/
theorem Inv.more {R : Nat → RL} {Pr Pr' : Nat → Prop} {σ : St} (h : Inv w0 Fz Pr0 Lo R Pr σ a w) (hp : ∀ b, Pr b → Pr' b) (hp1 : ∀ κ o, σ.ob κ = some o → real R κ o → ¬ Pr' (R κ).blk) (hp2 : ∀ b, Pr' b → b < w.heap.size) (hpo : ∀ b, b < w0.heap.size → Pr' b → Pr0 b) : Inv w0 Fz Pr0 Lo R Pr' σ a w :=
  { h with tm := fun t => RepA.move (fun _ _ => rfl) hp (fun _ _ => rfl) (h.tm t), ob := fun κ o ho => RepOb.move (fun _ _ => rfl) hp (fun _ => rfl) rfl (fun _ _ => rfl) (h.ob κ o ho), un := fun κ o ho hre => ⟨hp1 κ o ho hre, (h.un κ o ho hre).2⟩, pr := hp2, po := hpo }
theorem callb_sound {P : Program} {f : FuncId} {c : BCon} (hok : BoxOK P f c.pos c.ls c.sig c.rs c.fn) {R : Nat → RL} {σ σ' : St} (h : Inv w0 Fz Pr0 Lo R Pr σ a w) (hFz : ∀ b, b < w0.heap.size → Fz b ∨ Pr0 b) {args : List AV} {vs : List Value} (hargs : All2 (RepA w R Pr) args vs)
    {κ : Nat} {acc ks : List Nat} {x0 : LOD c.ls} {xs : DL c.sig} {y : LOD c.ls} {r : RDL c.rs} {dst : Option Nat} (hpre : callPreB σ c κ args = some (acc, ks, x0, xs)) (hfn : c.fn x0 xs = some (y, r)) {x : AV} {nsl : List (Nat × Ob)} (hpost : callPostB (frzs acc σ) dst κ ks c.ls c.rs y r = some (σ', x, nsl)) :
    Calls P f (vs.take c.pos ++ headV R κ c.ls :: vs.drop c.pos).toArray w fun e w' => ∃ v R' Pr', e = .returned v ∧ Inv w0 Fz Pr0 Lo R' Pr' σ' a w' ∧ RepA w' R' Pr' x v ∧ ∀ κ ∈ x.refs, σ'.ob κ ≠ none := by
  unfold callPreB at hpre
  split at hpre
  · rename_i k1 x1 k2 xs1 hta htas
    split at hpre
    · rename_i hokr
      cases hpre
      obtain ⟨hnd, hoff⟩ := okR_spec hokr
      unfold callPostB at hpost
      split at hpost
      · rename_i cs1 ns hrets
        split at hpost
        · rename_i σ2 hadds
          obtain ⟨rfl, rfl, rfl⟩ : σ2 = σ' ∧ packA cs1 = x ∧ ns = nsl := by simpa using hpost
          generalize hks : rowKeys σ.ob κ c.ls = ks at *
          let Pc : Nat → Prop := fun b => Pr b ∨ ∃ κ ∈ k1 ++ k2, ∃ e m, σ.ob κ = some (.vec e m) ∧ real R κ (.vec e m) ∧ b = (R κ).blk
          have hPc : ∀ b, Pr b → Pc b := fun b hb => .inl hb
          have hf : Inv w0 Fz Pr0 Lo R Pc (frzs (k1 ++ k2) σ) a w := frzs_inv (k1 ++ k2) h hFz
          have hlen : (κ :: ks).length = c.ls.length := takeL_len hta
          have hthere := takeL_ob h.ob hta
          have hrep := takeL_rep (Pr' := Pc) h.ob hPc hta (fun κ' hκ e m ho hre => .inr ⟨κ', List.mem_append_left _ hκ, e, m, ho, hre, rfl⟩)
          have hra := toArgs_rep (Pr' := Pc) h.ob hPc htas (fun κ' hκ e m ho hre => .inr ⟨κ', List.mem_append_right _ hκ, e, m, ho, hre, rfl⟩) hargs
          let L : Nat → RL := fun j => R ((κ :: ks).getD j 0)
          have hsame : All2 (fun k k' => L k' = R k) (κ :: ks) (rg c.ls) := all2_range hlen fun i k hk => by
            show R ((κ :: ks).getD (0 + i) 0) = R k
            rw [Nat.zero_add, List.getD_eq_getElem?_getD, hk]; rfl
          have hback : All2 (fun k k' => R k' = L k) (rg c.ls) (κ :: ks) := hsame.flip fun _ _ e => e.symm
          have htl : All2 (fun k k' => L k' = R k) ks (rg c.ls).tail := by
            revert hsame
            cases rg c.ls with
            | nil => exact fun z => z.elim
            | cons _ _ => exact fun z => z.2
          have htb : All2 (fun k k' => R k' = L k) (rg c.ls).tail ks := htl.flip fun _ _ e => e.symm
          have hinj : ∀ (i j κ1 : Nat), (κ :: ks)[i]? = some κ1 → (κ :: ks)[j]? = some κ1 → i = j := fun i j κ1 h1 h2 => by
            have hi : i < (κ :: ks).length := (List.getElem?_eq_some_iff.1 h1).1
            exact (List.getElem?_inj hi hnd).1 (h1.trans h2.symm)
          have hnp : ∀ (i κ1 : Nat) (o : LO), (κ :: ks)[i]? = some κ1 → c.ls[i]? = some o → realO R κ1 o → ¬ Pc (R κ1).blk := fun i κ1 o g1 g2 g3 hb => by
            obtain ⟨o1, m1, _, m2⟩ := hthere i κ1 o g1 g2
            rcases hb with hb | ⟨κ', hκ', e, m, h1, h2, h3⟩
            · exact (h.un κ1 _ m1 ((m2 R).2 g3)).1 hb
            · exact h.ds κ1 κ' _ _ m1 h1 ((m2 R).2 g3) h2 (fun z => hoff κ1 (List.mem_of_getElem? g1) (z ▸ hκ')) h3
          have hap : ApartL R Pc (κ :: ks) c.ls := ApartL.of fun i κ1 o g1 g2 g3 => ⟨hnp i κ1 o g1 g2 g3, fun j κ' o' hj k1' k2' k3' => by
            obtain ⟨o1, m1, _, m2⟩ := hthere i κ1 o g1 g2
            obtain ⟨o2, m3, _, m4⟩ := hthere j κ' o' k1' k2'
            exact h.ds κ1 κ' _ _ m1 m3 ((m2 R).2 g3) ((m4 R).2 k3') (fun z => by subst z; have := hinj i j κ1 g1 k1'; omega)⟩
          have hhead : headV L 0 c.ls = headV R κ c.ls := by
            cases c.ls with
            | nil => rfl
            | cons o _ => cases o <;> rfl
          have hcall := hok _ xs _ r hfn w Pc vs L hf.pr (RepLs.relabel htl hsame hrep) (ApartL.relabel hsame hap) hra
          rw [hhead] at hcall
          refine hcall.mono ?_
          rintro e w' ⟨Pr', rv, rfl, hw, hg, hp1, hp2, hp3, hy, hrr⟩
          have hs := hg.sz
          have hgr := h.sm.sz
          have hy' := RepLs.relabel htb hback hy
          have hkeys : (obsL ks (κ :: ks) c.ls y).map (·.1) = κ :: ks := obsL_keys y hlen
          have hfr : ∀ (i κ1 : Nat) (o : LO), (κ :: ks)[i]? = some κ1 → c.ls[i]? = some o → ∃ o2, (frzs (k1 ++ k2) σ).ob κ1 = some o2 ∧ ∀ R' : Nat → RL, real R' κ1 o2 ↔ realO R' κ1 o := fun i κ1 o g1 g2 => by
            obtain ⟨o1, m1, _, m2⟩ := hthere i κ1 o g1 g2
            obtain ⟨o2, m3, m4⟩ := frzs_keep (k1 ++ k2) m1 (hoff κ1 (List.mem_of_getElem? g1))
            exact ⟨o2, m3, fun R' => (m4 R').trans (m2 R')⟩
          have hin : ∀ κ1 ∈ κ :: ks, (frzs (k1 ++ k2) σ).ob κ1 ≠ none := fun κ1 hκ1 => by
            obtain ⟨i, hi⟩ := List.getElem?_of_mem hκ1
            have hi' : i < c.ls.length := by rw [← hlen]; exact (List.getElem?_eq_some_iff.1 hi).1
            obtain ⟨o2, m1, _⟩ := hfr i κ1 _ hi (List.getElem?_eq_getElem hi')
            rw [m1]; simp
          have i1 := hf.lent (obsL ks (κ :: ks) c.ls y) (w' := w') (Pr' := Pr') (by rw [hkeys]; exact hnd) (fun κ1 o' hm => by
            obtain ⟨i, o, g1, g2, g3, g4, g5⟩ := obsL_mem hm hy'
            obtain ⟨o2, m1, m2⟩ := hfr i κ1 o g1 g2
            exact ⟨o2, m1, fun z => (m2 R).2 ((g3 R).1 z), g4, fun κ' hκ' => hin κ' (List.mem_cons_of_mem _ (g5 κ' hκ'))⟩) (fun b hb hall => by
            refine hw b hb (OffL.relabel hsame (OffL.of fun i κ1 o g1 g2 g3 => ?_))
            obtain ⟨o2, m1, m2⟩ := hfr i κ1 o g1 g2
            exact hall κ1 (by rw [hkeys]; exact List.mem_of_getElem? g1) o2 m1 ((m2 R).2 g3)) hg hp1 hp2 hp3
          have hlt : ∀ κ1 o1, ((frzs (k1 ++ k2) σ).setObs (obsL ks (κ :: ks) c.ls y)).ob κ1 = some o1 → real R κ1 o1 → (R κ1).blk < w.heap.size := fun κ1 o1 ho hre => by
            by_cases g : κ1 ∈ κ :: ks
            · obtain ⟨i, hi⟩ := List.getElem?_of_mem g
              have hi' : i < c.ls.length := by rw [← hlen]; exact (List.getElem?_eq_some_iff.1 hi).1
              have hi2 : c.ls[i]? = some c.ls[i] := List.getElem?_eq_getElem hi'
              obtain ⟨o2, m1, m2⟩ := hfr i κ1 _ hi hi2
              have hm : ∃ o', (κ1, o') ∈ obsL ks (κ :: ks) c.ls y := by
                have : κ1 ∈ (obsL ks (κ :: ks) c.ls y).map (·.1) := by rw [hkeys]; exact g
                obtain ⟨⟨q1, q2⟩, q3, q4⟩ := List.mem_map.1 this
                simp only at q4; subst q4; exact ⟨q2, q3⟩
              obtain ⟨o', hm⟩ := hm
              have e1 := setsL_mem _ (frzs (k1 ++ k2) σ).objs κ1 o' hm (by rw [hkeys]; exact hnd) (ob_lt' (hin κ1 g))
              have e2 : (setsL (frzs (k1 ++ k2) σ).objs (obsL ks (κ :: ks) c.ls y)).getD κ1 none = some o1 := ho
              rw [e1] at e2; cases e2
              obtain ⟨i', o3, g1, g2, g3, _⟩ := obsL_mem hm hy'
              have := hinj i i' κ1 hi g1
              subst this
              rw [hi2] at g2; cases g2
              exact RepOb.lt ((m2 R).2 ((g3 R).1 hre)) (hf.ob κ1 _ m1)
            · rw [ob_setObs _ _ _ (by rw [hkeys]; exact g)] at ho
              exact RepOb.lt hre (hf.ob κ1 _ ho)
          obtain ⟨R', m1, m2, m3, m4, m5⟩ := adds_sound (N := (frzs (k1 ++ k2) σ).tmps.length) (d := dst.getD 0) (n := w.heap.size) hgr c.rs r 0 rv [] _ _ R cs1 ns i1 (fun κ1 o1 ho hre => .inl (hlt κ1 o1 ho hre)) hrr hrets hadds
          exact ⟨packV rv, R', Pr', rfl, m1, packA_rep m2, fun κ hκ => by obtain ⟨c, hc, hk⟩ := packA_refs hκ; exact m3 c hc κ hk⟩
        · cases hpost
      · cases hpost
    · cases hpre
  · cases hpre
end
end Go.Rx
