/- Reflection, part M: contracts of functions over plain data, and their calls. -/
import Derived.Test.YtoebjlimpnmaoaaRxL
namespace Go.Rx
set_option linter.unusedVariables false
set_option linter.unusedSimpArgs false
set_option linter.unusedSectionVars false

/-! ### Freezing: an object becomes data for good -/
def frzC (κ : Nat) (e : Ty) (l : List e.D) (c : C) : C :=
  match c with
  | .own κ' => if κ' = κ then .val false e l else .own κ'
  | c => if c.refs.contains κ then .any else c
def frzCp (κ : Nat) (e : Ty) (l : List e.D) : Cp → Cp
  | .one c => .one (frzC κ e l c)
  | .agg cs => .agg (cs.map (frzC κ e l))
def frzA (κ : Nat) (e : Ty) (l : List e.D) : AV → AV
  | .cp x => .cp (frzCp κ e l x)
  | .tup vs => .tup (vs.map (frzCp κ e l))
def frzO (κ : Nat) (e : Ty) (l : List e.D) : Option Ob → Option Ob
  | some (.box cs) => some (.box (cs.map (frzC κ e l)))
  | o => o
def St.frz (σ : St) (κ : Nat) : St :=
  match σ.ob κ with
  | some (.vec e l) => ⟨σ.tmps.map (frzA κ e l), (σ.objs.map (frzO κ e l)).set κ none⟩
  | _ => σ

section
variable {w : World} {R : Nat → RL} {Pr Pr' : Nat → Prop} {κ : Nat} {e : Ty} {l : List e.D}
theorem frzC_rep (hp : ∀ b, Pr b → Pr' b) (hv : RepTy w Pr' (.sl false e) l [(R κ).hdr]) {c : C} {v : Value} (h : RepC w R Pr c v) : RepC w R Pr' (frzC κ e l c) v := by
  unfold frzC
  split
  · split
    · rename_i hk
      have h1 : v = (R κ).hdr := by rw [← hk]; exact h
      rw [h1]
      exact hv
    · exact RepC.move (fun _ _ => rfl) hp (fun _ _ => rfl) h
  · split
    · trivial
    · exact RepC.move (fun _ _ => rfl) hp (fun _ _ => rfl) h
theorem frzC_refs {κ' : Nat} {c : C} (h : κ' ∈ (frzC κ e l c).refs) : κ' ∈ c.refs ∧ κ' ≠ κ := by
  unfold frzC at h
  split at h
  · split at h
    · cases h
    · rename_i hn
      refine ⟨h, fun e => hn ?_⟩
      simp only [C.refs, List.mem_singleton] at h
      exact h.symm.trans e
  · split at h
    · cases h
    · rename_i hn
      refine ⟨h, fun e => hn ?_⟩
      subst e
      simpa using h
theorem frzCp_rep (hp : ∀ b, Pr b → Pr' b) (hv : RepTy w Pr' (.sl false e) l [(R κ).hdr]) {c : Cp} {v : Value} (h : RepCp w R Pr c v) : RepCp w R Pr' (frzCp κ e l c) v := by
  cases c with
  | one c => exact frzC_rep hp hv h
  | agg cs => obtain ⟨vs, h1, h2⟩ := h; exact ⟨vs, h1, h2.map_left fun a _ b hb => frzC_rep hp hv hb⟩
theorem frzCp_refs {κ' : Nat} {c : Cp} (h : κ' ∈ (frzCp κ e l c).refs) : κ' ∈ c.refs ∧ κ' ≠ κ := by
  cases c with
  | one c => exact frzC_refs h
  | agg cs =>
    obtain ⟨c, hc, hk⟩ := List.mem_flatMap.1 h
    obtain ⟨d, hd, rfl⟩ := List.mem_map.1 hc
    have := frzC_refs hk
    exact ⟨List.mem_flatMap.2 ⟨d, hd, this.1⟩, this.2⟩
theorem frzA_rep (hp : ∀ b, Pr b → Pr' b) (hv : RepTy w Pr' (.sl false e) l [(R κ).hdr]) {c : AV} {v : Value} (h : RepA w R Pr c v) : RepA w R Pr' (frzA κ e l c) v := by
  cases c with
  | cp c => exact frzCp_rep hp hv h
  | tup cs => obtain ⟨vs, h1, h2⟩ := h; exact ⟨vs, h1, h2.map_left fun a _ b hb => frzCp_rep hp hv hb⟩
theorem frzA_refs {κ' : Nat} {c : AV} (h : κ' ∈ (frzA κ e l c).refs) : κ' ∈ c.refs ∧ κ' ≠ κ := by
  cases c with
  | cp c => exact frzCp_refs h
  | tup cs =>
    obtain ⟨c, hc, hk⟩ := List.mem_flatMap.1 h
    obtain ⟨d, hd, rfl⟩ := List.mem_map.1 hc
    have := frzCp_refs hk
    exact ⟨List.mem_flatMap.2 ⟨d, hd, this.1⟩, this.2⟩
end

/-- A row that is read while it is kept: the object as data. -/
theorem view_vec {w : World} {R : Nat → RL} {Pr Pr' : Nat → Prop} {κ : Nat} {e : Ty} {l : List e.D} (h : RepOb w R Pr κ (.vec e l)) (hp : ∀ b, Pr b → Pr' b) (hk : real R κ (.vec e l) → Pr' (R κ).blk) : RepTy w Pr' (.sl false e) l [(R κ).hdr] := by
  obtain ⟨h0, h⟩ := h
  rcases h with ⟨h1, h2⟩ | ⟨off, cap, cells, el, h1, h2, h3, h4, h5⟩
  · subst h2
    exact ⟨none, 0, by rw [h1]; rfl, Nat.le_refl _, trivial, fun h => (h rfl).elim⟩
  · refine ⟨_, cap, by rw [h1]; rfl, h2, trivial, fun _ => ⟨_, off, cells, el, _, rfl, hk (fun z => by rw [z] at h1; cases h1), h3, fun i y hi => ?_⟩⟩
    obtain ⟨us, k1, k2⟩ := h5 i y hi
    exact ⟨us, k1, k2.move (fun _ _ => rfl) hp⟩

section
variable {w0 : World} {Fz Pr0 : Nat → Prop} {Lo : Nat → RL} {R : Nat → RL} {Pr : Nat → Prop} {σ : St} {a : Act} {w : World}
theorem Inv.frz (h : Inv w0 Fz Pr0 Lo R Pr σ a w) (κ : Nat) (hFz : ∀ b, b < w0.heap.size → Fz b ∨ Pr0 b) : Inv w0 Fz Pr0 Lo R (fun b => Pr b ∨ ∃ e l, σ.ob κ = some (.vec e l) ∧ real R κ (.vec e l) ∧ b = (R κ).blk) (σ.frz κ) a w := by
  have hcong : ∀ {Pr1 Pr2 : Nat → Prop} {σ' : St}, (∀ b, Pr1 b ↔ Pr2 b) → Inv w0 Fz Pr0 Lo R Pr1 σ' a w → Inv w0 Fz Pr0 Lo R Pr2 σ' a w := fun h1 h2 => by
    have : _ = _ := funext fun b => propext (h1 b)
    rw [← this]; exact h2
  cases hob : σ.ob κ with
  | none => exact hcong (fun b => ⟨.inl, fun g => g.elim id (fun ⟨_, _, g, _⟩ => by cases g)⟩) (by unfold St.frz; rw [hob]; exact h)
  | some o =>
    cases o with
    | box cs => exact hcong (fun b => ⟨.inl, fun g => g.elim id (fun ⟨_, _, g, _⟩ => by cases g)⟩) (by unfold St.frz; rw [hob]; exact h)
    | set l => exact hcong (fun b => ⟨.inl, fun g => g.elim id (fun ⟨_, _, g, _⟩ => by cases g)⟩) (by unfold St.frz; rw [hob]; exact h)
    | vec e l =>
      have hlt : κ < σ.objs.length := by
        rcases Nat.lt_or_ge κ σ.objs.length with g | g
        · exact g
        · unfold St.ob at hob; rw [List.getD_eq_getElem?_getD, List.getElem?_eq_none g] at hob; cases hob
      let Pr' : Nat → Prop := fun b => Pr b ∨ (real R κ (.vec e l) ∧ b = (R κ).blk)
      have hp : ∀ b, Pr b → Pr' b := fun b hb => .inl hb
      have hv : RepTy w Pr' (.sl false e) l [(R κ).hdr] := view_vec (h.ob κ _ hob) hp (fun hre => .inr ⟨hre, rfl⟩)
      have hfr : σ.frz κ = ⟨σ.tmps.map (frzA κ e l), (σ.objs.map (frzO κ e l)).set κ none⟩ := by unfold St.frz; rw [hob]
      have hget : ∀ t, (σ.frz κ).get t = frzA κ e l (σ.get t) := fun t => by
        rw [hfr]
        unfold St.get
        simp only [List.getD_eq_getElem?_getD, List.getElem?_map]
        cases σ.tmps[t]? <;> simp [frzA, frzCp, frzC, C.refs]
      have hobs : ∀ κ', (σ.frz κ).ob κ' = if κ' = κ then none else frzO κ e l (σ.ob κ') := fun κ' => by
        rw [hfr]
        unfold St.ob
        simp only [List.getD_eq_getElem?_getD, List.getElem?_set, List.length_map, List.getElem?_map]
        by_cases g : κ = κ'
        · subst g; simp [hlt]
        · rw [if_neg g, if_neg (fun z => g z.symm)]
          cases σ.objs[κ']? <;> simp [frzO]
      have hsome : ∀ κ' o', (σ.frz κ).ob κ' = some o' → κ' ≠ κ ∧ ∃ o1, σ.ob κ' = some o1 ∧ ((∃ cs, o1 = .box cs ∧ o' = .box (cs.map (frzC κ e l))) ∨ (o' = o1 ∧ o1.refs = [])) := fun κ' o' ho => by
        rw [hobs] at ho
        split at ho
        · cases ho
        · rename_i hne
          refine ⟨hne, ?_⟩
          cases hx : σ.ob κ' with
          | none => rw [hx] at ho; cases ho
          | some o1 =>
            rw [hx] at ho
            cases o1 with
            | box cs => simp only [frzO] at ho; cases ho; exact ⟨_, rfl, .inl ⟨_, rfl, rfl⟩⟩
            | vec e2 l2 => simp only [frzO] at ho; cases ho; exact ⟨_, rfl, .inr ⟨rfl, rfl⟩⟩
            | set l2 => simp only [frzO] at ho; cases ho; exact ⟨_, rfl, .inr ⟨rfl, rfl⟩⟩
      have hkeep : ∀ κ', σ.ob κ' ≠ none → κ' ≠ κ → (σ.frz κ).ob κ' ≠ none := fun κ' h1 h2 => by
        rw [hobs, if_neg h2]
        cases hx : σ.ob κ' with
        | none => exact (h1 hx).elim
        | some o1 => cases o1 <;> simp [frzO]
      refine hcong (Pr1 := Pr') (fun b => ⟨fun g => g.imp id (fun g => ⟨e, l, rfl, g.1, g.2⟩), fun g => g.imp id (fun ⟨e', l', g1, g2, g3⟩ => by cases g1; exact ⟨g2, g3⟩)⟩) { h with fx := fun κ' hκ' => h.fx κ' (by rw [hfr] at hκ'; simpa using hκ'), tm := fun t => ?_, sz := ?_, ob := fun κ' o' ho => ?_, un := fun κ' o' ho hre => ?_, ds := fun κ1 κ2 o1 o2 h1 h2 hr1 hr2 hne => ?_, wt := fun t κ' hk => ?_, wo := fun κ1 o1 κ2 h1 hk => ?_, pr := fun b hb => ?_, po := fun b hb hb' => ?_ }
      · rw [hget]; exact frzA_rep hp hv (h.tm t)
      · rw [hfr]; simpa using h.sz
      · obtain ⟨hne, o1, h1, ⟨cs, rfl, rfl⟩ | ⟨rfl, hr0⟩⟩ := hsome κ' o' ho
        · obtain ⟨el, vs, g1, g2⟩ := h.ob κ' _ h1
          exact ⟨el, vs, g1, g2.map_left fun a _ b hb => frzC_rep hp hv hb⟩
        · exact RepOb.move (fun _ _ => rfl) hp (fun _ => rfl) rfl (fun _ _ => rfl) (h.ob κ' _ h1)
      · obtain ⟨hne, o1, h1, hh⟩ := hsome κ' o' ho
        have hre1 : real R κ' o1 := by
          rcases hh with ⟨cs, rfl, rfl⟩ | ⟨rfl, hr0⟩
          · trivial
          · exact hre
        have := h.un κ' o1 h1 hre1
        refine ⟨fun z => ?_, this.2⟩
        rcases z with z | ⟨z1, z2⟩
        · exact this.1 z
        · exact h.ds κ' κ o1 _ h1 hob hre1 z1 hne z2
      · obtain ⟨_, x1, g1, hh1⟩ := hsome κ1 o1 h1
        obtain ⟨_, x2, g2, hh2⟩ := hsome κ2 o2 h2
        refine h.ds κ1 κ2 x1 x2 g1 g2 ?_ ?_ hne
        · rcases hh1 with ⟨cs, rfl, rfl⟩ | ⟨rfl, hr0⟩
          · trivial
          · exact hr1
        · rcases hh2 with ⟨cs, rfl, rfl⟩ | ⟨rfl, hr0⟩
          · trivial
          · exact hr2
      · rw [hget] at hk
        have := frzA_refs hk
        exact hkeep κ' (h.wt t κ' this.1) this.2
      · obtain ⟨_, x1, g1, ⟨cs, rfl, rfl⟩ | ⟨rfl, hr0⟩⟩ := hsome κ1 o1 h1
        · obtain ⟨c, hc, hk⟩ := List.mem_flatMap.1 hk
          obtain ⟨d, hd, rfl⟩ := List.mem_map.1 hc
          have := frzC_refs hk
          exact hkeep κ2 (h.wo κ1 _ κ2 g1 (List.mem_flatMap.2 ⟨d, hd, this.1⟩)) this.2
        · rw [hr0] at hk; cases hk
      · rcases hb with hb | ⟨hb1, rfl⟩
        · exact h.pr b hb
        · exact RepOb.lt hb1 (h.ob κ _ hob)
      · rcases hb' with hb' | ⟨hb1, rfl⟩
        · exact h.po b hb hb'
        · exact (hFz _ hb).elim (fun g => ((h.un κ _ hob hb1).2 g).elim) id
theorem frz_ob_vec (σ : St) (κ κ' : Nat) (hκ : κ < σ.objs.length) {e : Ty} {l : List e.D} : (σ.frz κ).ob κ' = some (.vec e l) ↔ (σ.ob κ' = some (.vec e l) ∧ ¬ (κ' = κ ∧ ∃ e l, σ.ob κ = some (.vec e l))) := by
  cases hob : σ.ob κ with
  | none => unfold St.frz; rw [hob]; simp
  | some o =>
    cases o with
    | box cs => unfold St.frz; rw [hob]; simp
    | set l => unfold St.frz; rw [hob]; simp
    | vec e2 l2 =>
      have hfr : σ.frz κ = ⟨σ.tmps.map (frzA κ e2 l2), (σ.objs.map (frzO κ e2 l2)).set κ none⟩ := by unfold St.frz; rw [hob]
      rw [hfr]
      unfold St.ob
      simp only [List.getD_eq_getElem?_getD, List.getElem?_set, List.length_map, List.getElem?_map]
      by_cases g : κ = κ'
      · subst g; simp [hκ]
      · rw [if_neg g]
        have g' : ¬ κ' = κ := fun z => g z.symm
        cases hx : σ.objs[κ']? with
        | none => simp
        | some o1 =>
          cases o1 with
          | none => simp [frzO]
          | some o2 => cases o2 <;> simp [frzO, g']
end
end Go.Rx
