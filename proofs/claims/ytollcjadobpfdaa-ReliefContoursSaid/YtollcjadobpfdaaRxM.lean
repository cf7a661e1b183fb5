/- Reflection, part M: contracts of functions over plain data, and their calls. -/
import Derived.Test.YtollcjadobpfdaaRxLx
namespace Go.Rx
set_option linter.unusedVariables false
set_option linter.unusedSimpArgs false
set_option linter.unusedSectionVars false
def frzC (κ : Nat) (e : Ty) (l : List e.D) (c : C) : C :=
 match c with
 | .own κ' => if κ' = κ then .val false e l else .own κ'
 | c => if c.refs.contains κ then .any else c
def frzCp (κ : Nat) (e : Ty) (l : List e.D) : Cp → Cp
 | .one c => .one (frzC κ e l c)
 | .agg cs => .agg (cs.map (frzC κ e l))
def frzA (κ : Nat) (e : Ty) (l : List e.D) : AV → AV
 | .cp x => .cp (frzCp κ e l x)
 | .tup vs => .tup (vs.map (frzCp κ e l))
def dropIt {α : Type} (κ : Nat) : Option (Nat × α) → Option (Nat × α)
 | some (d, L) => match d.beq κ with
   | true => none
   | false => some (d, L)
 | none => none
def frzO (κ : Nat) (e : Ty) (l : List e.D) : Option Ob → Option Ob
 | some (.box cs) => some (.box (cs.map (frzC κ e l)))
 | some (.map K V m it) => some (.map K V m (dropIt κ it))
 | o => o
theorem dropIt_or {K V : Ty} {m : List (K.D × V.D)} (κ : Nat) (it : Option (Nat × List (K.D × V.D) × Option (K.D × V.D))) : (dropIt κ it = it ∧ κ ∉ (Ob.map K V m it).refs) ∨ dropIt κ it = none := by
 unfold dropIt
 split
 · rename_i d L
   split
   · exact .inr rfl
   · rename_i hd
     refine .inl ⟨rfl, fun hk => ?_⟩
     simp only [Ob.refs, List.mem_singleton] at hk
     subst hk
     simp at hd
 · exact .inr rfl
def St.frz (σ : St) (κ : Nat) : St :=
 match σ.ob κ with
 | some (.vec e l) => ⟨σ.tmps.map (frzA κ e l), (σ.objs.map (frzO κ e l)).set κ none⟩
 | _ => σ
section
variable {w : World} {R : Nat → RL} {Pr Pr' : Nat → Prop} {κ : Nat} {e : Ty} {l : List e.D}
theorem frzC_rep (hp : ∀ b, Pr b → Pr' b) (hv : RepTy w Pr' (.sl false e) l [(R κ).hdr]) {c : C} {v : Value} (h : RepC w R Pr c v) : RepC w R Pr' (frzC κ e l c) v := by
 unfold frzC
 split
 · split
   · rename_i hk
     have h1 : v = (R κ).hdr := by rw [← hk]; exact h
     rw [h1]
     exact hv
   · exact RepC.move (fun _ _ => rfl) hp (fun _ _ => rfl) h
 · split
   · trivial
   · exact RepC.move (fun _ _ => rfl) hp (fun _ _ => rfl) h
theorem frzC_refs {κ' : Nat} {c : C} (h : κ' ∈ (frzC κ e l c).refs) : κ' ∈ c.refs ∧ κ' ≠ κ := by
 unfold frzC at h
 split at h
 · split at h
   · cases h
   · rename_i hn
     refine ⟨h, fun e => hn ?_⟩
     simp only [C.refs, List.mem_singleton] at h
     exact h.symm.trans e
 · split at h
   · cases h
   · rename_i hn
     refine ⟨h, fun e => hn ?_⟩
     subst e
     simpa using h
theorem frzCp_rep (hp : ∀ b, Pr b → Pr' b) (hv : RepTy w Pr' (.sl false e) l [(R κ).hdr]) {c : Cp} {v : Value} (h : RepCp w R Pr c v) : RepCp w R Pr' (frzCp κ e l c) v := by
 cases c with
 | one c => exact frzC_rep hp hv h
 | agg cs => obtain ⟨vs, h1, h2⟩ := h; exact ⟨vs, h1, h2.map_left fun a _ b hb => frzC_rep hp hv hb⟩
theorem frzCp_refs {κ' : Nat} {c : Cp} (h : κ' ∈ (frzCp κ e l c).refs) : κ' ∈ c.refs ∧ κ' ≠ κ := by
 cases c with
 | one c => exact frzC_refs h
 | agg cs =>
   obtain ⟨c, hc, hk⟩ := List.mem_flatMap.1 h
   obtain ⟨d, hd, rfl⟩ := List.mem_map.1 hc
   have := frzC_refs hk
   exact ⟨List.mem_flatMap.2 ⟨d, hd, this.1⟩, this.2⟩
theorem frzA_rep (hp : ∀ b, Pr b → Pr' b) (hv : RepTy w Pr' (.sl false e) l [(R κ).hdr]) {c : AV} {v : Value} (h : RepA w R Pr c v) : RepA w R Pr' (frzA κ e l c) v := by
 cases c with
 | cp c => exact frzCp_rep hp hv h
 | tup cs => obtain ⟨vs, h1, h2⟩ := h; exact ⟨vs, h1, h2.map_left fun a _ b hb => frzCp_rep hp hv hb⟩
theorem frzA_refs {κ' : Nat} {c : AV} (h : κ' ∈ (frzA κ e l c).refs) : κ' ∈ c.refs ∧ κ' ≠ κ := by
 cases c with
 | cp c => exact frzCp_refs h
 | tup cs =>
   obtain ⟨c, hc, hk⟩ := List.mem_flatMap.1 h
   obtain ⟨d, hd, rfl⟩ := List.mem_map.1 hc
   have := frzCp_refs hk
   exact ⟨List.mem_flatMap.2 ⟨d, hd, this.1⟩, this.2⟩
end
theorem view_vec {w : World} {R : Nat → RL} {Pr Pr' : Nat → Prop} {κ : Nat} {e : Ty} {l : List e.D} (h : RepOb w R Pr κ (.vec e l)) (hp : ∀ b, Pr b → Pr' b) (hk : real R κ (.vec e l) → Pr' (R κ).blk) : RepTy w Pr' (.sl false e) l [(R κ).hdr] := by
 obtain ⟨h0, h⟩ := h
 rcases h with ⟨h1, h2⟩ | ⟨off, cap, cells, el, h1, h2, h3, h4, h5⟩
 · subst h2
   exact ⟨none, 0, by rw [h1]; rfl, Nat.le_refl _, trivial, fun h => (h rfl).elim⟩
 · refine ⟨_, cap, by rw [h1]; rfl, h2, trivial, fun _ => ⟨_, off, cells, el, _, rfl, hk (fun z => by rw [z] at h1; cases h1), h3, fun i y hi => ?_⟩⟩
   obtain ⟨us, k1, k2⟩ := h5 i y hi
   exact ⟨us, k1, k2.move (fun _ _ => rfl) hp⟩
section
variable {w0 : World} {Fz Pr0 : Nat → Prop} {Lo : Nat → RL} {R : Nat → RL} {Pr : Nat → Prop} {σ : St} {a : Act} {w : World}
theorem Inv.frz (h : Inv w0 Fz Pr0 Lo R Pr σ a w) (κ : Nat) (hFz : ∀ b, b < w0.heap.size → Fz b ∨ Pr0 b) : Inv w0 Fz Pr0 Lo R (fun b => Pr b ∨ ∃ e l, σ.ob κ = some (.vec e l) ∧ real R κ (.vec e l) ∧ b = (R κ).blk) (σ.frz κ) a w := by
 have hcong : ∀ {Pr1 Pr2 : Nat → Prop} {σ' : St}, (∀ b, Pr1 b ↔ Pr2 b) → Inv w0 Fz Pr0 Lo R Pr1 σ' a w → Inv w0 Fz Pr0 Lo R Pr2 σ' a w := fun h1 h2 => by
  have : _ = _ := funext fun b => propext (h1 b)
  rw [← this]; exact h2
 cases hob : σ.ob κ with
 | none => exact hcong (fun b => ⟨.inl, fun g => g.elim id (fun ⟨_, _, g, _⟩ => by cases g)⟩) (by unfold St.frz; rw [hob]; exact h)
 | some o =>
   cases o with
   | box cs => exact hcong (fun b => ⟨.inl, fun g => g.elim id (fun ⟨_, _, g, _⟩ => by cases g)⟩) (by unfold St.frz; rw [hob]; exact h)
   | fbox _ _ => exact hcong (fun b => ⟨.inl, fun g => g.elim id (fun ⟨_, _, g, _⟩ => by cases g)⟩) (by unfold St.frz; rw [hob]; exact h)
   | tok _ => exact hcong (fun b => ⟨.inl, fun g => g.elim id (fun ⟨_, _, g, _⟩ => by cases g)⟩) (by unfold St.frz; rw [hob]; exact h)
   | map _ _ _ _ => exact hcong (fun b => ⟨.inl, fun g => g.elim id (fun ⟨_, _, g, _⟩ => by cases g)⟩) (by unfold St.frz; rw [hob]; exact h)
   | set l => exact hcong (fun b => ⟨.inl, fun g => g.elim id (fun ⟨_, _, g, _⟩ => by cases g)⟩) (by unfold St.frz; rw [hob]; exact h)
   | rows _ _ _ => exact hcong (fun b => ⟨.inl, fun g => g.elim id (fun ⟨_, _, g, _⟩ => by cases g)⟩) (by unfold St.frz; rw [hob]; exact h)
   | vec e l =>
     have hlt : κ < σ.objs.length := by
      rcases Nat.lt_or_ge κ σ.objs.length with g | g
      · exact g
      · unfold St.ob at hob; rw [List.getD_eq_getElem?_getD, List.getElem?_eq_none g] at hob; cases hob
     let Pr' : Nat → Prop := fun b => Pr b ∨ (real R κ (.vec e l) ∧ b = (R κ).blk)
     have hp : ∀ b, Pr b → Pr' b := fun b hb => .inl hb
     have hv : RepTy w Pr' (.sl false e) l [(R κ).hdr] := view_vec (h.ob κ _ hob) hp (fun hre => .inr ⟨hre, rfl⟩)
     have hfr : σ.frz κ = ⟨σ.tmps.map (frzA κ e l), (σ.objs.map (frzO κ e l)).set κ none⟩ := by unfold St.frz; rw [hob]
     have hget : ∀ t, (σ.frz κ).get t = frzA κ e l (σ.get t) := fun t => by
      rw [hfr]
      unfold St.get
      simp only [List.getD_eq_getElem?_getD, List.getElem?_map]
      cases σ.tmps[t]? <;> simp [frzA, frzCp, frzC, C.refs]
     have hobs : ∀ κ', (σ.frz κ).ob κ' = if κ' = κ then none else frzO κ e l (σ.ob κ') := fun κ' => by
      rw [hfr]
      unfold St.ob
      simp only [List.getD_eq_getElem?_getD, List.getElem?_set, List.length_map, List.getElem?_map]
      by_cases g : κ = κ'
      · subst g; simp [hlt]
      · rw [if_neg g, if_neg (fun z => g z.symm)]
        cases σ.objs[κ']? <;> simp [frzO]
     have hsome : ∀ κ' o', (σ.frz κ).ob κ' = some o' → κ' ≠ κ ∧ ∃ o1, σ.ob κ' = some o1 ∧ ((∃ cs, o1 = .box cs ∧ o' = .box (cs.map (frzC κ e l))) ∨ (o' = o1 ∧ κ ∉ o1.refs) ∨ ∃ K V m it, o1 = .map K V m it ∧ o' = .map K V m none) := fun κ' o' ho => by
      rw [hobs] at ho
      split at ho
      · cases ho
      · rename_i hne
        refine ⟨hne, ?_⟩
        cases hx : σ.ob κ' with
        | none => rw [hx] at ho; cases ho
        | some o1 =>
          rw [hx] at ho
          cases o1 with
          | box cs => simp only [frzO] at ho; cases ho; exact ⟨_, rfl, .inl ⟨_, rfl, rfl⟩⟩
          | vec e2 l2 => simp only [frzO] at ho; cases ho; exact ⟨_, rfl, .inr (.inl ⟨rfl, fun z => by cases z⟩)⟩
          | set l2 => simp only [frzO] at ho; cases ho; exact ⟨_, rfl, .inr (.inl ⟨rfl, fun z => by cases z⟩)⟩
          | fbox e2 l2 => simp only [frzO] at ho; cases ho; exact ⟨_, rfl, .inr (.inl ⟨rfl, fun z => by cases z⟩)⟩
          | tok l2 => simp only [frzO] at ho; cases ho; exact ⟨_, rfl, .inr (.inl ⟨rfl, fun z => by cases z⟩)⟩
          | rows e2 l2 h2 => simp only [frzO] at ho; cases ho; exact ⟨_, rfl, .inr (.inl ⟨rfl, fun z => by cases z⟩)⟩
          | map K V m it =>
            simp only [frzO] at ho; cases ho
            rcases dropIt_or (K := K) (V := V) (m := m) κ it with ⟨q1, q2⟩ | q1
            · exact ⟨_, rfl, .inr (.inl ⟨by rw [q1], q2⟩)⟩
            · exact ⟨_, rfl, .inr (.inr ⟨K, V, m, it, rfl, by rw [q1]⟩)⟩
     have hkeep : ∀ κ', σ.ob κ' ≠ none → κ' ≠ κ → (σ.frz κ).ob κ' ≠ none := fun κ' h1 h2 => by
      rw [hobs, if_neg h2]
      cases hx : σ.ob κ' with
      | none => exact (h1 hx).elim
      | some o1 => cases o1 <;> simp [frzO]
     refine hcong (Pr1 := Pr') (fun b => ⟨fun g => g.imp id (fun g => ⟨e, l, rfl, g.1, g.2⟩), fun g => g.imp id (fun ⟨e', l', g1, g2, g3⟩ => by cases g1; exact ⟨g2, g3⟩)⟩) { h with fx := fun κ' hκ' => h.fx κ' (by rw [hfr] at hκ'; simpa using hκ'), tm := fun t => ?_, sz := ?_, ob := fun κ' o' ho => ?_, un := fun κ' o' ho hre => ?_, ds := fun κ1 κ2 o1 o2 h1 h2 hr1 hr2 hne => ?_, wt := fun t κ' hk => ?_, wo := fun κ1 o1 κ2 h1 hk => ?_, pr := fun b hb => ?_, po := fun b hb hb' => ?_, lm := fun κ1 o1 b h1 hb => ?_ }
     · rw [hget]; exact frzA_rep hp hv (h.tm t)
     · rw [hfr]; simpa using h.sz
     · obtain ⟨hne, o1, h1, ⟨cs, rfl, rfl⟩ | ⟨rfl, hr0⟩ | ⟨K, V, m, it, rfl, rfl⟩⟩ := hsome κ' o' ho
       · obtain ⟨el, vs, g1, g2⟩ := h.ob κ' _ h1
         exact ⟨el, vs, g1, g2.map_left fun a _ b hb => frzC_rep hp hv hb⟩
       · exact RepOb.move (fun _ _ => rfl) hp (fun _ => rfl) rfl (fun _ _ => rfl) (h.ob κ' _ h1)
       · obtain ⟨es, clock, g1, g2, g3, g4, _⟩ := h.ob κ' _ h1
         exact ⟨es, clock, g1, g2, g3, fun i kv en q1 q2 => (g4 i kv en q1 q2).move (fun _ _ => rfl) hp, fun _ _ _ z => by cases z⟩
     · obtain ⟨hne, o1, h1, hh⟩ := hsome κ' o' ho
       have hre1 : real R κ' o1 := by
        rcases hh with ⟨cs, rfl, rfl⟩ | ⟨rfl, hr0⟩ | ⟨K, V, m, it, rfl, rfl⟩
        · trivial
        · exact hre
        · trivial
       have := h.un κ' o1 h1 hre1
       refine ⟨fun z => ?_, this.2⟩
       rcases z with z | ⟨z1, z2⟩
       · exact this.1 z
       · exact h.ds κ' κ o1 _ h1 hob hre1 z1 hne z2
     · obtain ⟨_, x1, g1, hh1⟩ := hsome κ1 o1 h1
       obtain ⟨_, x2, g2, hh2⟩ := hsome κ2 o2 h2
       refine h.ds κ1 κ2 x1 x2 g1 g2 ?_ ?_ hne
       · rcases hh1 with ⟨cs, rfl, rfl⟩ | ⟨rfl, hr0⟩ | ⟨K, V, m, it, rfl, rfl⟩
         · trivial
         · exact hr1
         · trivial
       · rcases hh2 with ⟨cs, rfl, rfl⟩ | ⟨rfl, hr0⟩ | ⟨K, V, m, it, rfl, rfl⟩
         · trivial
         · exact hr2
         · trivial
     · rw [hget] at hk
       have := frzA_refs hk
       exact hkeep κ' (h.wt t κ' this.1) this.2
     · obtain ⟨_, x1, g1, ⟨cs, rfl, rfl⟩ | ⟨rfl, hr0⟩ | ⟨K, V, m, it, rfl, rfl⟩⟩ := hsome κ1 o1 h1
       · obtain ⟨c, hc, hk⟩ := List.mem_flatMap.1 hk
         obtain ⟨d, hd, rfl⟩ := List.mem_map.1 hc
         have := frzC_refs hk
         exact hkeep κ2 (h.wo κ1 _ κ2 g1 (List.mem_flatMap.2 ⟨d, hd, this.1⟩)) this.2
       · exact hkeep κ2 (h.wo κ1 _ κ2 g1 hk) (fun e => hr0 (e ▸ hk))
       · cases hk
     · rcases hb with hb | ⟨hb1, rfl⟩
       · exact h.pr b hb
       · exact RepOb.lt hb1 (h.ob κ _ hob)
     · rcases hb' with hb' | ⟨hb1, rfl⟩
       · exact h.po b hb hb'
       · exact (hFz _ hb).elim (fun g => ((h.un κ _ hob hb1).2 g).elim) id
     · obtain ⟨_, x1, g1, hh1⟩ := hsome κ1 o1 h1
       have e1 : o1 = x1 := by
        rcases hh1 with ⟨cs, rfl, rfl⟩ | ⟨rfl, _⟩ | ⟨K, V, m, it, rfl, rfl⟩
        · exact hb.elim
        · rfl
        · obtain ⟨_, _, z, _⟩ := hb; cases z
       subst e1
       obtain ⟨a1, a2, a3⟩ := h.lm κ1 _ b g1 hb
       refine ⟨fun z => z.elim a1 fun z => (a3 κ _ hob).1 z.1 z.2.symm, a2, fun κ2 o2 h2 => ?_⟩
       obtain ⟨_, x2, g2, ⟨cs, rfl, rfl⟩ | ⟨rfl, _⟩ | ⟨K, V, m, it, rfl, rfl⟩⟩ := hsome κ2 o2 h2
       · exact ⟨fun _ => (a3 κ2 _ g2).1 trivial, fun _ hi => hi.elim⟩
       · exact a3 κ2 _ g2
       · exact ⟨fun _ => (a3 κ2 _ g2).1 trivial, fun _ hi => by obtain ⟨_, _, z, _⟩ := hi; cases z⟩
def St.unr (σ : St) (κ : Nat) : St :=
 match σ.ob κ with
 | some (.rows e ll none) => σ.setOb κ (some (.vec (.sl false e) ll))
 | _ => σ
theorem Inv.unr (h : Inv w0 Fz Pr0 Lo R Pr σ a w) (κ : Nat) (hFz : ∀ b, b < w0.heap.size → Fz b ∨ Pr0 b) : ∃ Pr', Inv w0 Fz Pr0 Lo R Pr' (σ.unr κ) a w := by
 unfold St.unr
 split
 · rename_i e ll hob
   have hlt := ob_lt' (σ := σ) (κ := κ) (by rw [hob]; simp)
   let Pr' : Nat → Prop := fun b => Pr b ∨ Inn w R κ (.rows e ll none) b
   have hp : ∀ b, Pr b → Pr' b := fun b hb => .inl hb
   have hs : ∀ κ1 x, (σ.setOb κ (some (.vec (.sl false e) ll))).ob κ1 = some x → (κ1 = κ ∧ x = .vec (.sl false e) ll) ∨ (κ1 ≠ κ ∧ σ.ob κ1 = some x) := fun κ1 x hx => by
    rw [St.ob_setOb] at hx
    by_cases g : κ = κ1
    · rw [if_pos ⟨g, hlt⟩] at hx; cases hx; exact .inl ⟨g.symm, rfl⟩
    · rw [if_neg (fun z => g z.1)] at hx; exact .inr ⟨fun z => g z.symm, hx⟩
   have hne : ∀ κ1, σ.ob κ1 ≠ none → (σ.setOb κ (some (.vec (.sl false e) ll))).ob κ1 ≠ none := fun κ1 hk1 => by
    rw [St.ob_setOb]
    split
    · simp
    · exact hk1
   have hin : ∀ b, Inn w R κ (.rows e ll none) b → _ := fun b hb => h.lm κ _ b hob hb
   refine ⟨Pr', { h with tm := fun t => RepA.move (fun _ _ => rfl) hp (fun _ _ => rfl) (h.tm t), ob := fun κ1 x hx => ?_, un := fun κ1 x hx hre => ?_, ds := fun κ1 κ2 x1 x2 h1 h2 hr1 hr2 hkk => ?_, wt := fun t κ1 hk => hne κ1 (h.wt t κ1 hk), wo := fun κ1 x κ2 hx hk => ?_, pr := fun b hb => ?_, po := fun b hb hb' => ?_, fx := fun κ1 hk => h.fx κ1 (by simpa [St.setOb] using hk), lm := fun κ1 x b hx hb => ?_ }⟩
   · rcases hs κ1 x hx with ⟨rfl, rfl⟩ | ⟨hk, hx⟩
     · obtain ⟨h0, off, cap, cells, el, h1, h2, h3, h4, h5, h6⟩ := h.ob _ _ hob
       refine ⟨h0, .inr ⟨off, cap, cells, el, h1, h2, h3, by simpa [Ty.n] using h4, fun i y hi => ?_⟩⟩
       obtain ⟨v, k1, k2⟩ := h5 i y hi (by simp)
       refine ⟨[v], fun c u hu => ?_, ?_⟩
       · cases c with
         | zero => simp only [List.getElem?_cons_zero] at hu; cases hu; simpa [Ty.n] using k1
         | succ c => simp at hu
       · rcases k2 with ⟨rfl, rfl⟩ | ⟨blk, o2, c2, ce, el2, rfl, m2, m3, m4, m5⟩
         · exact ⟨none, 0, rfl, Nat.le_refl _, trivial, fun h => (h rfl).elim⟩
         · refine ⟨_, c2, rfl, m2, trivial, fun _ => ⟨blk, o2, ce, el2, _, rfl, .inr ⟨off, _, cap, cells, el, i, _, h1, h3, (List.getElem?_eq_some_iff.1 hi).1, by simp, k1, rfl⟩, m3, fun j z hj => ?_⟩⟩
           obtain ⟨us, q1, q2⟩ := m5 j z hj
           exact ⟨us, q1, q2.move (fun _ _ => rfl) hp⟩
     · exact RepOb.move (fun _ _ => rfl) hp (fun _ => rfl) rfl (fun _ _ => rfl) (h.ob κ1 x hx)
   · rcases hs κ1 x hx with ⟨rfl, rfl⟩ | ⟨hk, hx⟩
     · have := h.un _ _ hob trivial
       exact ⟨fun z => z.elim this.1 fun z => ((hin _ z).2.2 _ _ hob).1 trivial rfl, this.2⟩
     · have := h.un κ1 x hx hre
       exact ⟨fun z => z.elim this.1 fun z => ((hin _ z).2.2 κ1 x hx).1 hre rfl, this.2⟩
   · rcases hs κ1 x1 h1 with ⟨rfl, rfl⟩ | ⟨hk1, g1⟩
     · rcases hs κ2 x2 h2 with ⟨rfl, rfl⟩ | ⟨hk2, g2⟩
       · exact (hkk rfl).elim
       · exact h.ds _ κ2 _ x2 hob g2 trivial hr2 hkk
     · rcases hs κ2 x2 h2 with ⟨rfl, rfl⟩ | ⟨hk2, g2⟩
       · exact h.ds κ1 _ x1 _ g1 hob hr1 trivial hkk
       · exact h.ds κ1 κ2 x1 x2 g1 g2 hr1 hr2 hkk
   · rcases hs κ1 x hx with ⟨rfl, rfl⟩ | ⟨hk1, hx⟩
     · cases hk
     · exact hne κ2 (h.wo κ1 x κ2 hx hk)
   · exact hb.elim (h.pr b) fun hb => (h.ob _ _ hob).inn_lt hb
   · exact hb'.elim (h.po b hb) fun z => (hFz b hb).elim (fun g => ((hin b z).2.1 g).elim) id
   · rcases hs κ1 x hx with ⟨rfl, rfl⟩ | ⟨hk1, hx⟩
     · exact hb.elim
     · obtain ⟨a1, a2, a3⟩ := h.lm κ1 x b hx hb
       refine ⟨fun z => z.elim a1 fun z => (a3 κ _ hob).2 (fun z => hk1 z.symm) z, a2, fun κ2 x2 hx2 => ?_⟩
       rcases hs κ2 x2 hx2 with ⟨rfl, rfl⟩ | ⟨hk2, hx2⟩
       · exact ⟨fun _ => (a3 _ _ hob).1 trivial, fun _ hi => hi.elim⟩
       · exact a3 κ2 x2 hx2
 · exact ⟨Pr, h⟩
theorem frz_ob_vec (σ : St) (κ κ' : Nat) (hκ : κ < σ.objs.length) {e : Ty} {l : List e.D} : (σ.frz κ).ob κ' = some (.vec e l) ↔ (σ.ob κ' = some (.vec e l) ∧ ¬ (κ' = κ ∧ ∃ e l, σ.ob κ = some (.vec e l))) := by
 cases hob : σ.ob κ with
 | none => unfold St.frz; rw [hob]; simp
 | some o =>
   cases o with
   | box cs => unfold St.frz; rw [hob]; simp
   | set l => unfold St.frz; rw [hob]; simp
   | fbox _ _ => unfold St.frz; rw [hob]; simp
   | tok _ => unfold St.frz; rw [hob]; simp
   | map _ _ _ _ => unfold St.frz; rw [hob]; simp
   | rows _ _ _ => unfold St.frz; rw [hob]; simp
   | vec e2 l2 =>
     have hfr : σ.frz κ = ⟨σ.tmps.map (frzA κ e2 l2), (σ.objs.map (frzO κ e2 l2)).set κ none⟩ := by unfold St.frz; rw [hob]
     rw [hfr]
     unfold St.ob
     simp only [List.getD_eq_getElem?_getD, List.getElem?_set, List.length_map, List.getElem?_map]
     by_cases g : κ = κ'
     · subst g; simp [hκ]
     · rw [if_neg g]
       have g' : ¬ κ' = κ := fun z => g z.symm
       cases hx : σ.objs[κ']? with
       | none => simp
       | some o1 =>
         cases o1 with
         | none => simp [frzO]
         | some o2 => cases o2 <;> simp [frzO, g']
theorem Inv.takeRow (h : Inv w0 Fz Pr0 Lo R Pr σ a w) {κ d j : Nat} {e : Ty} {ll : List (List e.D)} (hob : σ.ob κ = some (.rows e ll none)) (hj : j < ll.length) (hd : σ.ob d = none) (hok : okK d σ.objs.length = true) :
 ∃ (loc : RL) (o n c : Nat) (cells : Array Value) (el : TypeId), (R κ).hdr = .slice (some ⟨(R κ).blk, o, none⟩) n c ∧ w.heap[(R κ).blk]? = some (.cells cells el (0, 0)) ∧ cells[o + j]? = some loc.hdr ∧
   Inv w0 Fz Pr0 Lo (fun κ' => if κ' = d then loc else R κ') Pr ((σ.setOb κ (some (.rows e ll (some j)))).setOb d (some (.vec e (ll.getD j [])))) a w := by
 obtain ⟨h0, off, cap, cells, el, h1, h2, h3, h4, h5, h6⟩ := h.ob κ _ hob
 have hrow : ll[j]? = some (ll.getD j []) := by rw [List.getD_eq_getElem?_getD, List.getElem?_eq_getElem hj]; rfl
 obtain ⟨v, k1, k2⟩ := h5 j _ hrow (by simp)
 have hdκ : d ≠ κ := fun z => by rw [z, hob] at hd; cases hd
 have hi1 := h.upd κ _ (.rows e ll (some j)) hob (w' := w) (R' := R) (fun _ _ => rfl) (.inl rfl) (fun _ _ _ => rfl) (Grow.refl _) (fun _ => .inr ⟨trivial, rfl⟩)
  ⟨h0, off, cap, cells, el, h1, h2, h3, h4, fun j' row hj' _ => h5 j' row hj' (by simp), fun j1 j2 v1 v2 b q1 _ _ q4 q5 => h6 j1 j2 v1 v2 b q1 (by simp) (by simp) q4 q5⟩ (fun κ' hκ => by cases hκ)
  (fun b hb => by
    obtain ⟨o1, n1, c1, ce1, el1, j1, v1, q1, q2, q3, q4, q5, q6⟩ := hb
    obtain ⟨a1, a2, a3⟩ := h.lm κ _ b hob ⟨o1, n1, c1, ce1, el1, j1, v1, q1, q2, q3, by simp, q5, q6⟩
    exact ⟨a1, a2, (a3 κ _ hob).1 trivial, fun κ1 x1 hne hx1 => ⟨(a3 κ1 x1 hx1).1, (a3 κ1 x1 hx1).2 hne⟩⟩)
 have hκlt := ob_lt' (σ := σ) (κ := κ) (by rw [hob]; simp)
 have hd1 : (σ.setOb κ (some (.rows e ll (some j)))).ob d = none := by
  rw [St.ob_setOb, if_neg (fun z => hdκ z.1.symm)]; exact hd
 have hold : ∀ κ1 x, (σ.setOb κ (some (.rows e ll (some j)))).ob κ1 = some x → (κ1 = κ ∧ x = .rows e ll (some j)) ∨ (κ1 ≠ κ ∧ σ.ob κ1 = some x) := fun κ1 x hx => by
  rw [St.ob_setOb] at hx
  by_cases g : κ = κ1
  · rw [if_pos ⟨g, hκlt⟩] at hx; cases hx; exact .inl ⟨g.symm, rfl⟩
  · rw [if_neg (fun z => g z.1)] at hx; exact .inr ⟨fun z => g z.symm, hx⟩
 rcases k2 with ⟨rfl, hnil⟩ | ⟨blk, o2, c2, ce2, el2, rfl, m2, m3, m4, m5⟩
 · refine ⟨⟨0, none, 0, 0⟩, off, _, cap, cells, el, h1, h3, k1, hi1.add d (.vec e (ll.getD j [])) _ hd1 (by simpa [St.setOb] using hok) rfl ⟨by rw [hnil]; simp, .inl ⟨by simp [RL.hdr], hnil⟩⟩ (fun κ hκ => by cases hκ) (fun hre => (hre (by simp [RL.hdr])).elim)⟩
 · refine ⟨⟨blk, some ⟨blk, o2, none⟩, (ll.getD j []).length, c2⟩, off, _, cap, cells, el, h1, h3, k1, hi1.add d (.vec e (ll.getD j [])) _ hd1 (by simpa [St.setOb] using hok) rfl ⟨by simp, .inr ⟨o2, c2, ce2, el2, by simp [RL.hdr], m2, by simp [m3], m4, m5⟩⟩ (fun κ hκ => by cases hκ) (fun hre => ?_)⟩
   obtain ⟨a1, a2, a3⟩ := h.lm κ _ blk hob ⟨off, _, cap, cells, el, j, _, h1, h3, hj, by simp, k1, rfl⟩
   refine ⟨a1, a2, fun κ1 x hx => ?_⟩
   rcases hold κ1 x hx with ⟨rfl, rfl⟩ | ⟨hne, hx⟩
   · refine ⟨fun _ => (a3 _ _ hob).1 trivial, fun hb => ?_⟩
     obtain ⟨o1, n1, c1, ce1, el1, j1, v1, q1, q2, q3, q4, q5, q6⟩ := hb
     rw [h1] at q1
     rw [h3] at q2
     cases q1; cases q2
     exact h6 j j1 _ _ blk (fun z => q4 (by rw [z])) (by simp) (by simp) hj q3 k1 q5 rfl q6
   · exact ⟨(a3 κ1 x hx).1, (a3 κ1 x hx).2 hne⟩
def St.gone (σ : St) (d : Nat) : St := (σ.kill d).setOb d none
theorem Inv.gone (h : Inv w0 Fz Pr0 Lo R Pr σ a w) (d : Nat) : Inv w0 Fz Pr0 Lo R Pr (σ.gone d) a w ∧ ∀ κ, κ ≠ d → (σ.gone d).ob κ = killO d (σ.ob κ) := by
 obtain ⟨h1, h2, h3⟩ := h.kill d
 have hget : ∀ κ, κ ≠ d → (σ.gone d).ob κ = (σ.kill d).ob κ := fun κ hκ => by
  unfold St.gone
  rw [St.ob_setOb, if_neg (fun z => hκ z.1.symm)]
 have hsome : ∀ κ o, (σ.gone d).ob κ = some o → κ ≠ d ∧ (σ.kill d).ob κ = some o := fun κ o ho => by
  by_cases e : κ = d
  · subst e
    exfalso
    unfold St.gone at ho
    rw [St.ob_setOb] at ho
    split at ho
    · cases ho
    · rename_i hn
      exact hn ⟨rfl, ob_lt' (by rw [ho]; simp)⟩
  · exact ⟨e, by rw [← hget κ e]; exact ho⟩
 refine ⟨h1.weak _ (by simpa [St.gone, St.setOb] using h1.sz) (by simp [St.gone, St.setOb]) (fun t u hu => hu) (fun κ o' ho => ⟨o', (hsome κ o' ho).2, id, id, fun _ h => h⟩) (fun t κ hk => ?_) (fun κ' o κ ho hk => ?_), fun κ hκ => by rw [hget κ hκ, ob_kill]⟩
 · have hne : κ ≠ d := fun e => h2 t (e ▸ hk)
   rw [hget κ hne]; exact h1.wt t κ hk
 · have ho' := (hsome κ' o ho).2
   have hne : κ ≠ d := fun e => h3 κ' o ho' (e ▸ hk)
   rw [hget κ hne]; exact h1.wo κ' o κ ho' hk
theorem Inv.giveRow (h : Inv w0 Fz Pr0 Lo R Pr σ a w) {κ d j : Nat} {e : Ty} {ll : List (List e.D)} {l : List e.D} (hob : σ.ob κ = some (.rows e ll (some j))) (hj : j < ll.length) (hd : σ.ob d = some (.vec e l)) {off n cap : Nat} {cells cur : Array Value} {el : TypeId}
 (hh : (R κ).hdr = .slice (some ⟨(R κ).blk, off, none⟩) n cap) (hc : w.heap[(R κ).blk]? = some (.cells cells el (0, 0))) (hcur : ∀ q, cur[q]? = if q = off + j then some (R d).hdr else cells[q]?) (hsz : cur.size = cells.size) :
 Inv w0 Fz Pr0 Lo R Pr ((σ.gone d).setOb κ (some (.rows e (ll.set j l) none))) a (w.setRow (R κ).blk cur) := by
 have hdκ : κ ≠ d := fun z => by subst z; rw [hob] at hd; cases hd
 obtain ⟨g1, g2⟩ := h.gone d
 have hobg : (σ.gone d).ob κ = some (.rows e ll (some j)) := by rw [g2 κ hdκ, hob]; rfl
 obtain ⟨h0, off', cap', cells', el', h1, h2, h3, h4, h5, h6⟩ := h.ob κ _ hob
 rw [h1] at hh
 rw [h3] at hc
 cases hh; cases hc
 have hother : ∀ b, b ≠ (R κ).blk → (w.setRow (R κ).blk cur).heap[b]? = w.heap[b]? := fun b hb => setRow_other w _ b _ hb
 have hun := h.un κ _ hob trivial
 have hinn : ∀ b, Inn w R κ (.rows e ll (some j)) b → _ := fun b hb => h.lm κ _ b hob hb
 have hold : ∀ j', j' < ll.length → j' ≠ j → ∀ v, cells[off + j']? = some v → ∀ b, innB v = some b → Inn w R κ (.rows e ll (some j)) b := fun j' q1 q2 v q3 b q4 => ⟨off, _, cap, cells, el, j', v, h1, h3, q1, fun z => q2 (by injection z with z; exact z.symm), q3, q4⟩
 have hrow : InRow (w.setRow (R κ).blk cur) Pr e l (R d).hdr ∧ ∀ b, innB (R d).hdr = some b → real R d (.vec e l) ∧ b = (R d).blk := by
  obtain ⟨_, m⟩ := h.ob d _ hd
  rcases m with ⟨m1, m2⟩ | ⟨o2, c2, ce2, el2, m1, m2, m3, m4, m5⟩
  · exact ⟨.inl ⟨m1, m2⟩, fun b hb => by rw [m1] at hb; cases hb⟩
  · have hre : real R d (.vec e l) := fun z => by rw [m1] at z; cases z
    refine ⟨.inr ⟨_, o2, c2, ce2, el2, m1, m2, by rw [hother _ (h.ds d κ _ _ hd hob hre trivial hdκ.symm)]; exact m3, m4, fun i y hi => ?_⟩, fun b hb => ⟨hre, by rw [m1] at hb; exact (Option.some.inj hb).symm⟩⟩
    obtain ⟨us, q1, q2⟩ := m5 i y hi
    exact ⟨us, q1, q2.move (fun b hb => hother b (fun z => hun.1 (z ▸ hb))) (fun _ h => h)⟩
 have hset : (w.setRow (R κ).blk cur).heap[(R κ).blk]? = some (.cells cur el (0, 0)) := setRow_same w _ h3
 refine g1.upd κ _ (.rows e (ll.set j l) none) hobg (w' := w.setRow (R κ).blk cur) (R' := R) (fun _ _ => rfl) (.inl rfl) (fun b _ hne => hother b (hne trivial)) ⟨by simp, rfl, rfl, rfl, (by first | exact Nat.le_refl _ | exact Nat.le_succ _ | exact Nat.le_add_right _ _)⟩ (fun _ => .inr ⟨trivial, rfl⟩) ?_ (fun κ' hκ => by cases hκ) ?_
 · refine ⟨by rw [List.length_set]; exact h0, off, cap, cur, el, by rw [List.length_set]; exact h1, by rw [List.length_set]; exact h2, hset, by omega, fun j' row hj' _ => ?_, fun j1 j2 v1 v2 b q1 _ _ q4 q5 q6 q7 q8 => ?_⟩
   · rw [List.getElem?_set] at hj'
     by_cases e1 : j = j'
     · subst e1
       rw [if_pos rfl, if_pos hj] at hj'
       cases hj'
       exact ⟨_, by rw [hcur, if_pos rfl], hrow.1⟩
     · rw [if_neg e1] at hj'
       obtain ⟨v, q1, q2⟩ := h5 j' row hj' (fun z => e1 (by injection z))
       have hlt := (List.getElem?_eq_some_iff.1 hj').1
       refine ⟨v, by rw [hcur, if_neg (by omega)]; exact q1, q2.move (fun b hb => hother b (fun z => hun.1 (z ▸ hb))) (fun _ h => h) (fun b hb => hother b fun z => ?_)⟩
       have := hinn b (hold j' hlt (fun z => e1 z.symm) v q1 b hb)
       exact (this.2.2 κ _ hob).1 trivial z.symm
   · rw [List.length_set] at q4 q5
     rw [hcur] at q6 q7
     by_cases e1 : j1 = j
     · subst e1
       rw [if_pos rfl] at q6
       rw [if_neg (by omega)] at q7
       obtain ⟨m1, m2⟩ := hrow.2 b (by rw [← q8]; cases q6; rfl)
       intro hb
       have := hinn b (hold j2 q5 (fun z => q1 z.symm) v2 q7 b hb)
       exact (this.2.2 d _ hd).1 m1 m2.symm
     · rw [if_neg (by omega)] at q6
       by_cases e2 : j2 = j
       · subst e2
         rw [if_pos rfl] at q7
         intro hb
         obtain ⟨m1, m2⟩ := hrow.2 b (by cases q7; exact hb)
         have := hinn b (hold j1 q4 q1 v1 q6 b q8)
         exact (this.2.2 d _ hd).1 m1 m2.symm
       · rw [if_neg (by omega)] at q7
         exact h6 j1 j2 v1 v2 b q1 (fun z => e1 (by injection z with z; exact z.symm)) (fun z => e2 (by injection z with z; exact z.symm)) q4 q5 q6 q7 q8
 · rintro b ⟨o1, n1, c1, ce1, el1, j1, v1, q1, q2, q3, q4, q5, q6⟩
   rw [h1] at q1
   rw [hset] at q2
   cases q1; cases q2
   rw [List.length_set] at q3
   rw [hcur] at q5
   have hgo : ∀ κ1 o1, κ1 ≠ κ → (σ.gone d).ob κ1 = some o1 → κ1 ≠ d ∧ ∃ o2, σ.ob κ1 = some o2 ∧ (real R κ1 o1 → real R κ1 o2) ∧ ∀ b, Inn w R κ1 o1 b → Inn w R κ1 o2 b := fun κ1 o1 hne ho => by
    have hd1 : κ1 ≠ d := fun z => by
     subst z
     unfold St.gone at ho
     rw [St.ob_setOb] at ho
     split at ho
     · cases ho
     · rename_i hn
       exact hn ⟨rfl, ob_lt' (by rw [ho]; simp)⟩
    rw [g2 κ1 hd1] at ho
    obtain ⟨o2, m1, ⟨cs, rfl, rfl⟩ | ⟨rfl, _⟩ | ⟨K, V, l1, L, rfl, rfl⟩⟩ := killO_some ho
    · exact ⟨hd1, _, m1, fun _ => trivial, fun _ hb => hb.elim⟩
    · exact ⟨hd1, _, m1, id, fun _ h => h⟩
    · exact ⟨hd1, _, m1, fun _ => trivial, fun _ hb => by obtain ⟨_, _, z, _⟩ := hb; cases z⟩
   by_cases e1 : j1 = j
   · subst e1
     rw [if_pos rfl] at q5
     obtain ⟨m1, rfl⟩ := hrow.2 b (by cases q5; exact q6)
     have hud := h.un d _ hd m1
     refine ⟨hud.1, hud.2, h.ds κ d _ _ hob hd trivial m1 hdκ, fun κ1 x1 hne hx => ?_⟩
     obtain ⟨hd1, x2, p1, p2, p3⟩ := hgo κ1 x1 hne hx
     exact ⟨fun hre => h.ds κ1 d _ _ p1 hd (p2 hre) m1 hd1, fun hi => ((h.lm κ1 x2 _ p1 (p3 _ hi)).2.2 d _ hd).1 m1 rfl⟩
   · rw [if_neg (by omega)] at q5
     obtain ⟨a1, a2, a3⟩ := hinn b (hold j1 q3 e1 v1 q5 b q6)
     refine ⟨a1, a2, (a3 κ _ hob).1 trivial, fun κ1 x1 hne hx => ?_⟩
     obtain ⟨hd1, x2, p1, p2, p3⟩ := hgo κ1 x1 hne hx
     exact ⟨fun hre => (a3 κ1 x2 p1).1 (p2 hre), fun hi => (a3 κ1 x2 p1).2 hne (p3 _ hi)⟩
end
end Go.Rx
