/- Reflection, part Ms: objects that stand apart; objects that another function has written, moved or made. -/
import Derived.Test.YtollcjadobpfdaaRxM
namespace Go.Rx
set_option linter.unusedVariables false
set_option linter.unusedSimpArgs false
set_option linter.unusedSectionVars false
def Occ (w : World) (R : Nat → RL) (κ : Nat) (o : Ob) (b : Nat) : Prop := (real R κ o ∧ b = (R κ).blk) ∨ Inn w R κ o b
structure Sep (w : World) (R : Nat → RL) (Pr : Nat → Prop) (us : List (Nat × Ob)) : Prop where
 ob : ∀ (i : Nat) κ o, us[i]? = some (κ, o) → RepOb w R Pr κ o
 un : ∀ (i : Nat) κ o b, us[i]? = some (κ, o) → Occ w R κ o b → ¬ Pr b
 ds : ∀ (i j : Nat) κ o κ' o' b, us[i]? = some (κ, o) → us[j]? = some (κ', o') → i ≠ j → Occ w R κ o b → ¬ Occ w R κ' o' b
 own : ∀ (i : Nat) κ o, us[i]? = some (κ, o) → real R κ o → ¬ Inn w R κ o (R κ).blk
def Bl (w : World) (R : Nat → RL) (us : List (Nat × Ob)) (b : Nat) : Prop := ∃ (i : Nat) (κ : Nat) (o : Ob), us[i]? = some (κ, o) ∧ Occ w R κ o b
theorem real_same {R R' : Nat → RL} {κ : Nat} (h : R' κ = R κ) (o : Ob) : real R' κ o ↔ real R κ o := by
 cases o <;> simp only [real, h]
section
variable {w0 : World} {Fz Pr0 : Nat → Prop} {Lo : Nat → RL} {R : Nat → RL} {Pr : Nat → Prop} {σ : St} {a : Act} {w : World}
theorem RepOb.occ_lt {κ b : Nat} {o : Ob} (h : RepOb w R Pr κ o) (hb : Occ w R κ o b) : b < w.heap.size := by
 rcases hb with ⟨h1, rfl⟩ | h1
 · exact RepOb.lt h1 h
 · exact h.inn_lt h1
theorem Inv.occ_un (h : Inv w0 Fz Pr0 Lo R Pr σ a w) {κ b : Nat} {o : Ob} (ho : σ.ob κ = some o) (hb : Occ w R κ o b) : ¬ Pr b ∧ ¬ Fz b := by
 rcases hb with ⟨h1, rfl⟩ | h1
 · exact h.un κ o ho h1
 · exact ⟨(h.lm κ o b ho h1).1, (h.lm κ o b ho h1).2.1⟩
theorem Inv.occ_ds (h : Inv w0 Fz Pr0 Lo R Pr σ a w) {κ κ' b : Nat} {o o' : Ob} (ho : σ.ob κ = some o) (ho' : σ.ob κ' = some o') (hne : κ ≠ κ') (hb : Occ w R κ o b) : ¬ Occ w R κ' o' b := by
 intro hb'
 rcases hb with ⟨h1, rfl⟩ | h1
 · rcases hb' with ⟨h2, e⟩ | h2
   · exact h.ds κ κ' o o' ho ho' h1 h2 hne e
   · exact ((h.lm κ' o' _ ho' h2).2.2 κ o ho).1 h1 rfl
 · rcases hb' with ⟨h2, rfl⟩ | h2
   · exact ((h.lm κ o _ ho h1).2.2 κ' o' ho').1 h2 rfl
   · exact ((h.lm κ o b ho h1).2.2 κ' o' ho').2 hne.symm h2
theorem Inv.occ_own (h : Inv w0 Fz Pr0 Lo R Pr σ a w) {κ : Nat} {o : Ob} (ho : σ.ob κ = some o) (hre : real R κ o) : ¬ Inn w R κ o (R κ).blk := fun hi => ((h.lm κ o _ ho hi).2.2 κ o ho).1 hre rfl
theorem occ_all {ob : Nat → Option Ob} (hun : ∀ κ o b, ob κ = some o → Occ w R κ o b → ¬ Pr b ∧ ¬ Fz b) (hds : ∀ κ κ' o o' b, ob κ = some o → ob κ' = some o' → κ ≠ κ' → Occ w R κ o b → ¬ Occ w R κ' o' b) (hown : ∀ κ o, ob κ = some o → real R κ o → ¬ Inn w R κ o (R κ).blk) :
 (∀ κ o, ob κ = some o → real R κ o → ¬ Pr (R κ).blk ∧ ¬ Fz (R κ).blk) ∧
 (∀ κ κ' o o', ob κ = some o → ob κ' = some o' → real R κ o → real R κ' o' → κ ≠ κ' → (R κ).blk ≠ (R κ').blk) ∧
 (∀ κ o b, ob κ = some o → Inn w R κ o b → ¬ Pr b ∧ ¬ Fz b ∧ ∀ κ' o', ob κ' = some o' → (real R κ' o' → (R κ').blk ≠ b) ∧ (κ' ≠ κ → ¬ Inn w R κ' o' b)) := by
 refine ⟨fun κ o ho hre => hun κ o _ ho (.inl ⟨hre, rfl⟩), fun κ κ' o o' ho ho' hre hre' hne e => hds κ κ' o o' _ ho ho' hne (.inl ⟨hre, rfl⟩) (.inl ⟨hre', e⟩), fun κ o b ho hi => ⟨(hun κ o b ho (.inr hi)).1, (hun κ o b ho (.inr hi)).2, fun κ' o' ho' => ⟨fun hre e => ?_, fun hne hi' => hds κ' κ o' o b ho' ho hne (.inr hi') (.inr hi)⟩⟩⟩
 by_cases g : κ' = κ
 · subst g
   rw [ho] at ho'; cases ho'
   exact hown κ' o ho hre (e ▸ hi)
 · exact hds κ' κ o' o b ho' ho g (.inl ⟨hre, e.symm⟩) (.inr hi)
theorem Inv.lent2 (h : Inv w0 Fz Pr0 Lo R Pr σ a w) (us : List (Nat × Ob)) {w' : World} {R' : Nat → RL} {Pr' : Nat → Prop} (hnd : (us.map (·.1)).Nodup)
 (hin : ∀ κ ∈ us.map (·.1), σ.ob κ ≠ none) (hR : ∀ κ, κ ∉ us.map (·.1) → R' κ = R κ)
 (hk : ∀ κ, R' κ = R κ ∨ ((∀ t, κ ∉ (σ.get t).refs) ∧ (∀ κ' o, κ' ∉ us.map (·.1) → σ.ob κ' = some o → κ ∉ o.refs) ∧ okK κ σ.objs.length = true))
 (hS : Sep w' R' Pr' us) (hrf : ∀ κ o, (κ, o) ∈ us → ∀ κ' ∈ o.refs, σ.ob κ' ≠ none)
 (hbl : ∀ b, Bl w' R' us b → (∃ κ ∈ us.map (·.1), ∃ o, σ.ob κ = some o ∧ Occ w R κ o b) ∨ w.heap.size ≤ b)
 (hw : ∀ b, b < w.heap.size → (∀ κ ∈ us.map (·.1), ∀ o, σ.ob κ = some o → ¬ Occ w R κ o b) → w'.heap[b]? = w.heap[b]?)
 (hg : Grow w w') (hp : ∀ b, Pr b → Pr' b) (hp1 : ∀ b, Pr' b → b < w.heap.size → Pr b ∨ ∃ κ ∈ us.map (·.1), ∃ o, σ.ob κ = some o ∧ Occ w R κ o b) (hp2 : ∀ b, Pr' b → b < w'.heap.size)
 (hFz : ∀ b, b < w0.heap.size → Fz b ∨ Pr0 b) :
 Inv w0 Fz Pr0 Lo R' Pr' (σ.setObs us) a w' := by
 have hs := hg.sz
 have hgr := h.sm.sz
 have hpr : ∀ b, Pr b → w'.heap[b]? = w.heap[b]? := fun b hb => hw b (h.pr b hb) (fun κ _ o ho hoc => (h.occ_un ho hoc).1 hb)
 have hmem : ∀ κ x, (κ, x) ∈ us → ∃ i, us[i]? = some (κ, x) := fun κ x hx => List.getElem?_of_mem hx
 have hob : ∀ κ x, (σ.setObs us).ob κ = some x → (κ, x) ∈ us ∨ (κ ∉ us.map (·.1) ∧ σ.ob κ = some x) := fun κ x hx => by
  by_cases g : κ ∈ us.map (·.1)
  · obtain ⟨⟨κ1, o1⟩, h1, h2⟩ := List.mem_map.1 g
    simp only at h2
    subst h2
    have := setsL_mem us σ.objs _ o1 h1 hnd (ob_lt' (hin _ g))
    have hx' : (setsL σ.objs us).getD κ1 none = some x := hx
    rw [this] at hx'
    cases hx'; exact .inl h1
  · rw [ob_setObs σ us κ g] at hx; exact .inr ⟨g, hx⟩
 have hne : ∀ κ, σ.ob κ ≠ none → (σ.setObs us).ob κ ≠ none := fun κ hk => by
  by_cases g : κ ∈ us.map (·.1)
  · obtain ⟨⟨κ1, o1⟩, h1, h2⟩ := List.mem_map.1 g
    simp only at h2
    subst h2
    have := setsL_mem us σ.objs _ o1 h1 hnd (ob_lt' hk)
    intro hx
    have hx' : (setsL σ.objs us).getD κ1 none = none := hx
    rw [this] at hx'; cases hx'
  · rw [ob_setObs σ us κ g]; exact hk
 have hkeep : ∀ κ x, κ ∉ us.map (·.1) → σ.ob κ = some x → ∀ b, Occ w R κ x b → w'.heap[b]? = w.heap[b]? := fun κ x hn hx b hoc =>
  hw b ((h.ob κ x hx).occ_lt hoc) (fun κ1 hκ1 o1 ho1 => h.occ_ds hx ho1 (fun z => hn (z ▸ hκ1)) hoc)
 have hocc : ∀ κ x b, κ ∉ us.map (·.1) → σ.ob κ = some x → Occ w' R' κ x b → Occ w R κ x b := fun κ x b hn hx hoc => by
  rcases hoc with ⟨h1, h2⟩ | h1
  · exact .inl ⟨(real_same (hR κ hn) x).1 h1, by rw [← hR κ hn]; exact h2⟩
  · exact .inr (h1.back (hR κ hn) (fun hre => hkeep κ x hn hx _ (.inl ⟨hre, rfl⟩)) (fun κ1 h1 => (hk κ1).elim id (fun z => (z.2.1 κ x hn hx h1).elim)))
 have hun' : ∀ κ o b, (σ.setObs us).ob κ = some o → Occ w' R' κ o b → ¬ Pr' b ∧ ¬ Fz b := fun κ x b hx hoc => by
  rcases hob κ x hx with g | ⟨g1, g2⟩
  · obtain ⟨i, hi⟩ := hmem κ x g
    refine ⟨hS.un i κ x b hi hoc, fun hz => ?_⟩
    rcases hbl b ⟨i, κ, x, hi, hoc⟩ with ⟨κ1, _, o1, m1, m2⟩ | m
    · exact (h.occ_un m1 m2).2 hz
    · have := (h.fz b hz).1; omega
  · have h0 := hocc κ x b g1 g2 hoc
    refine ⟨fun hz => ?_, (h.occ_un g2 h0).2⟩
    rcases hp1 b hz ((h.ob κ x g2).occ_lt h0) with m | ⟨κ1, m1, o1, m2, m3⟩
    · exact (h.occ_un g2 h0).1 m
    · exact h.occ_ds g2 m2 (fun z => g1 (z ▸ m1)) h0 m3
 have hds0 : ∀ κ κ' o o' b, (κ, o) ∈ us → κ' ∉ us.map (·.1) → σ.ob κ' = some o' → Occ w' R' κ o b → ¬ Occ w' R' κ' o' b := fun κ κ' o o' b g g1 g2 hoc hoc' => by
  obtain ⟨i, hi⟩ := hmem κ o g
  have h0 := hocc κ' o' b g1 g2 hoc'
  rcases hbl b ⟨i, κ, o, hi, hoc⟩ with ⟨κ1, m1, o1, m2, m3⟩ | m
  · exact h.occ_ds g2 m2 (fun z => g1 (z ▸ m1)) h0 m3
  · have := (h.ob κ' o' g2).occ_lt h0; omega
 have hds' : ∀ κ κ' o o' b, (σ.setObs us).ob κ = some o → (σ.setObs us).ob κ' = some o' → κ ≠ κ' → Occ w' R' κ o b → ¬ Occ w' R' κ' o' b := fun κ κ' o o' b hx hx' hkk hoc hoc' => by
  rcases hob κ o hx with g | ⟨g1, g2⟩
  · rcases hob κ' o' hx' with g' | ⟨g1', g2'⟩
    · obtain ⟨i, hi⟩ := hmem κ o g
      obtain ⟨j, hj⟩ := hmem κ' o' g'
      exact hS.ds i j κ o κ' o' b hi hj (fun z => by subst z; rw [hi] at hj; cases hj; exact hkk rfl) hoc hoc'
    · exact hds0 κ κ' o o' b g g1' g2' hoc hoc'
  · rcases hob κ' o' hx' with g' | ⟨g1', g2'⟩
    · exact hds0 κ' κ o' o b g' g1 g2 hoc' hoc
    · exact h.occ_ds g2 g2' hkk (hocc κ o b g1 g2 hoc) (hocc κ' o' b g1' g2' hoc')
 have hown' : ∀ κ o, (σ.setObs us).ob κ = some o → real R' κ o → ¬ Inn w' R' κ o (R' κ).blk := fun κ x hx hre hi => by
  rcases hob κ x hx with g | ⟨g1, g2⟩
  · obtain ⟨i, hi'⟩ := hmem κ x g
    exact hS.own i κ x hi' hre hi
  · have hre0 := (real_same (hR κ g1) x).1 hre
    exact h.occ_own g2 hre0 (by rw [hR κ g1] at hi; exact hi.back (hR κ g1) (fun hre => hkeep κ x g1 g2 _ (.inl ⟨hre, rfl⟩)) (fun κ1 h1 => (hk κ1).elim id (fun z => (z.2.1 κ x g1 g2 h1).elim)))
 obtain ⟨q1, q2, q3⟩ := occ_all hun' hds' hown'
 refine { h with un := q1, ds := q2, lm := q3, fx := fun κ hκ => ?_, tm := fun t => RepA.move hpr hp (fun κ hκ => (hk κ).elim id (fun z => (z.1 t hκ).elim)) (h.tm t), ob := fun κ x hx => ?_, wt := fun t κ hk => hne κ (h.wt t κ hk), wo := fun κ' x κ hx hk => ?_, sz := h.sz, fz := fun b hb => ?_, pr := hp2, po := fun b hb hb' => ?_, sm := h.sm.trans hg }
 · rcases hob κ x hx with g | ⟨g1, g2⟩
   · obtain ⟨i, hi⟩ := hmem κ x g
     exact hS.ob i κ x hi
   · exact RepOb.move hpr hp (fun hre => hkeep κ x g1 g2 _ (.inl ⟨hre, rfl⟩)) (hR κ g1) (fun κ1 hκ1 => (hk κ1).elim id (fun z => (z.2.1 κ x g1 g2 hκ1).elim)) (h.ob κ x g2) (fun b hb => hkeep κ x g1 g2 b (.inr hb))
 · rcases hob κ' x hx with g | ⟨g1, g2⟩
   · exact hne κ (hrf κ' x g κ hk)
   · exact hne κ (h.wo κ' x κ g2 hk)
 · have := h.fz b hb
   exact ⟨this.1, (hw b (by omega) (fun κ _ o ho hoc => (h.occ_un ho hoc).2 hb)).trans this.2⟩
 · rcases hp1 b hb' (by omega) with m | ⟨κ, _, o, m1, m2⟩
   · exact h.po b hb m
   · exact (hFz b hb).elim (fun z => ((h.occ_un m1 m2).2 z).elim) id
 · have hκ' : κ < σ.objs.length % 16 := by simpa [St.setObs, setsL_len] using hκ
   rcases hk κ with g | ⟨_, _, g⟩
   · rw [g]; exact h.fx κ hκ'
   · have := okK_ge g; omega
theorem Inv.add2 (h : Inv w0 Fz Pr0 Lo R Pr σ a w) (d : Nat) (o : Ob) (hd : σ.ob d = none) (hok : okK d σ.objs.length = true) {R' : Nat → RL} (hR : ∀ κ, κ ≠ d → R' κ = R κ)
 (ho : RepOb w R' Pr d o) (hor : ∀ κ ∈ o.refs, σ.ob κ ≠ none) (hun : ∀ b, Occ w R' d o b → ¬ Pr b ∧ ¬ Fz b ∧ ∀ κ o', σ.ob κ = some o' → ¬ Occ w R κ o' b) (hown : real R' d o → ¬ Inn w R' d o (R' d).blk) :
 Inv w0 Fz Pr0 Lo R' Pr (σ.setOb d (some o)) a w := by
 have hlt := okK_lt hok
 have hpres : ∀ κ, σ.ob κ ≠ none → κ ≠ d := fun κ hk e => hk (e ▸ hd)
 have hob : ∀ κ x, (σ.setOb d (some o)).ob κ = some x → (κ = d ∧ x = o) ∨ (κ ≠ d ∧ σ.ob κ = some x) := fun κ x hx => by
  rw [St.ob_setOb] at hx
  by_cases g : d = κ
  · rw [if_pos ⟨g, hlt⟩] at hx; cases hx; exact .inl ⟨g.symm, rfl⟩
  · rw [if_neg (fun z => g z.1)] at hx; exact .inr ⟨fun z => g z.symm, hx⟩
 have hne : ∀ κ, σ.ob κ ≠ none → (σ.setOb d (some o)).ob κ ≠ none := fun κ hk => by
  rw [St.ob_setOb, if_neg (fun z => hpres κ hk z.1.symm)]; exact hk
 have hocc : ∀ κ x b, κ ≠ d → σ.ob κ = some x → Occ w R' κ x b → Occ w R κ x b := fun κ x b hn hx hoc => by
  rcases hoc with ⟨h1, h2⟩ | h1
  · exact .inl ⟨(real_same (hR κ hn) x).1 h1, by rw [← hR κ hn]; exact h2⟩
  · exact .inr (h1.back (hR κ hn) (fun _ => rfl) (fun κ1 h1 => hR κ1 (hpres κ1 (h.wo κ x κ1 hx h1))))
 obtain ⟨q1, q2, q3⟩ := occ_all (w := w) (R := R') (Pr := Pr) (Fz := Fz) (ob := (σ.setOb d (some o)).ob) (fun κ x b hx hoc => by
  rcases hob κ x hx with ⟨rfl, rfl⟩ | ⟨hk, hx⟩
  · exact ⟨(hun b hoc).1, (hun b hoc).2.1⟩
  · exact h.occ_un hx (hocc κ x b hk hx hoc)) (fun κ κ' x x' b hx hx' hkk hoc hoc' => by
  rcases hob κ x hx with ⟨rfl, rfl⟩ | ⟨hk, hy⟩
  · rcases hob κ' x' hx' with ⟨rfl, rfl⟩ | ⟨hk', hy'⟩
    · exact hkk rfl
    · exact (hun b hoc).2.2 κ' x' hy' (hocc κ' x' b hk' hy' hoc')
  · rcases hob κ' x' hx' with ⟨rfl, rfl⟩ | ⟨hk', hy'⟩
    · exact (hun b hoc').2.2 κ x hy (hocc κ x b hk hy hoc)
    · exact h.occ_ds hy hy' hkk (hocc κ x b hk hy hoc) (hocc κ' x' b hk' hy' hoc')) (fun κ x hx hre hi => by
  rcases hob κ x hx with ⟨rfl, rfl⟩ | ⟨hk, hx⟩
  · exact hown hre hi
  · rw [hR κ hk] at hi
    exact h.occ_own hx ((real_same (hR κ hk) x).1 hre) (hi.back (hR κ hk) (fun _ => rfl) (fun κ1 h1 => hR κ1 (hpres κ1 (h.wo κ x κ1 hx h1)))))
 refine { h with un := q1, ds := q2, lm := q3, tm := fun t => ?_, ob := fun κ x hx => ?_, wt := fun t κ hk => hne κ (h.wt t κ hk), wo := fun κ' x κ hx hk => ?_, sz := h.sz, fx := fun κ hκ => ?_ }
 · exact RepA.move (fun _ _ => rfl) (fun _ h => h) (fun κ hk => hR κ (hpres κ (h.wt t κ hk))) (h.tm t)
 · rcases hob κ x hx with ⟨rfl, rfl⟩ | ⟨hk, hx⟩
   · exact ho
   · exact RepOb.move (fun _ _ => rfl) (fun _ h => h) (fun _ => rfl) (hR κ hk) (fun κ1 hk1 => hR κ1 (hpres κ1 (h.wo κ x κ1 hx hk1))) (h.ob κ x hx)
 · rcases hob κ' x hx with ⟨rfl, rfl⟩ | ⟨hk', hx⟩
   · exact hne κ (hor κ hk)
   · exact hne κ (h.wo κ' x κ hx hk)
 · have hκ : κ < σ.objs.length % 16 := by simpa [St.setOb] using hκ
   have hd0 := okK_ge hok
   rw [hR κ (by omega)]; exact h.fx κ hκ
def St.adds (σ : St) : List (Nat × Ob) → Option St
 | [] => some σ
 | (κ, o) :: r => match okK κ σ.objs.length, σ.ob κ with
   | true, none => St.adds (σ.setOb κ (some o)) r
   | _, _ => none
theorem adds_cons {σ σ' : St} {κ : Nat} {o : Ob} {r : List (Nat × Ob)} (h : σ.adds ((κ, o) :: r) = some σ') : okK κ σ.objs.length = true ∧ σ.ob κ = none ∧ (σ.setOb κ (some o)).adds r = some σ' := by
 simp only [St.adds] at h
 split at h
 · rename_i h1 h2
   exact ⟨h1, h2, h⟩
 · cases h
theorem adds_none : ∀ {us : List (Nat × Ob)} {σ σ' : St}, σ.adds us = some σ' → ∀ κ ∈ us.map (·.1), σ.ob κ = none
 | (κ, o) :: r, σ, σ', h, κ', hκ => by
   obtain ⟨h1, h2, h3⟩ := adds_cons h
   rcases List.mem_cons.1 hκ with rfl | hκ
   · exact h2
   · have := adds_none h3 κ' hκ
     rw [St.ob_setOb] at this
     split at this
     · cases this
     · exact this
theorem adds_fresh {us : List (Nat × Ob)} {σ σ' : St} {κ : Nat} {o : Ob} (h : σ.adds ((κ, o) :: us) = some σ') : κ ∉ us.map (·.1) := fun hκ => by
 obtain ⟨h1, h2, h3⟩ := adds_cons h
 have := adds_none h3 κ hκ
 rw [St.ob_setOb, if_pos ⟨rfl, okK_lt h1⟩] at this
 cases this
def RefsIn : List Nat → List (Nat × Ob) → Prop
 | _, [] => True
 | S, (κ, o) :: r => (∀ κ' ∈ o.refs, κ' ∈ S) ∧ RefsIn (κ :: S) r
theorem Sep.tail {u : Nat × Ob} {us : List (Nat × Ob)} (h : Sep w R Pr (u :: us)) : Sep w R Pr us where
 ob i κ o hi := h.ob (i + 1) κ o (by simpa using hi)
 un i κ o b hi := h.un (i + 1) κ o b (by simpa using hi)
 ds i j κ o κ' o' b hi hj hne := h.ds (i + 1) (j + 1) κ o κ' o' b (by simpa using hi) (by simpa using hj) (by omega)
 own i κ o hi := h.own (i + 1) κ o (by simpa using hi)
theorem Inv.addL (L : Nat → RL) : ∀ (us : List (Nat × Ob)) (S : List Nat) (σ σ' : St) (R : Nat → RL), Inv w0 Fz Pr0 Lo R Pr σ a w → σ.adds us = some σ' → (∀ κ ∈ S, R κ = L κ ∧ σ.ob κ ≠ none) → RefsIn S us → Sep w L Pr us →
 (∀ b, Bl w L us b → ¬ Fz b ∧ ∀ κ o', σ.ob κ = some o' → ¬ Occ w R κ o' b) →
 ∃ R', Inv w0 Fz Pr0 Lo R' Pr σ' a w ∧ (∀ κ ∈ us.map (·.1), R' κ = L κ ∧ σ'.ob κ ≠ none) ∧ (∀ κ, σ.ob κ ≠ none → R' κ = R κ ∧ σ'.ob κ ≠ none) ∧ σ'.tmps = σ.tmps ∧
   ∀ κ x, σ'.ob κ = some x → (κ, x) ∈ us ∨ σ.ob κ = some x
 | [], S, σ, σ', R, h, ha, hS, hr, hs, hb => by
   simp only [St.adds] at ha
   cases ha
   exact ⟨R, h, fun κ hκ => (by cases hκ), fun κ hκ => ⟨rfl, hκ⟩, rfl, fun κ x hx => .inr hx⟩
 | (κ, o) :: us, S, σ, σ', R, h, ha, hS, hr, hs, hb => by
   obtain ⟨g1, g2, g3⟩ := adds_cons ha
   have hfr := adds_fresh ha
   have hR1 : (fun κ' => if κ' = κ then L κ else R κ') κ = L κ := by simp
   have hRn : ∀ κ', κ' ≠ κ → (fun κ' => if κ' = κ then L κ else R κ') κ' = R κ' := fun κ' hk => by simp [hk]
   have hSn : ∀ κ' ∈ S, κ' ≠ κ := fun κ' hκ e => (hS κ' hκ).2 (e ▸ g2)
   have hoccL : ∀ b, Occ w (fun κ' => if κ' = κ then L κ else R κ') κ o b → Occ w L κ o b := fun b hoc => by
    rcases hoc with ⟨h1, h2⟩ | h1
    · exact .inl ⟨(real_same hR1 o).1 h1, by rw [← hR1]; exact h2⟩
    · exact .inr (h1.back hR1 (fun _ => rfl) (fun κ1 hκ1 => (hRn κ1 (hSn κ1 (hr.1 κ1 hκ1))).trans (hS κ1 (hr.1 κ1 hκ1)).1))
   have h0 : ∀ b, Occ w L κ o b → Bl w L ((κ, o) :: us) b := fun b hoc => ⟨0, κ, o, rfl, hoc⟩
   have hi1 := h.add2 κ o g2 g1 hRn (RepOb.move (fun _ _ => rfl) (fun _ h => h) (fun _ => rfl) hR1 (fun κ1 hκ1 => by
    have hm := hr.1 κ1 hκ1
    exact (hRn κ1 (hSn κ1 hm)).trans (hS κ1 hm).1) (hs.ob 0 κ o rfl)) (fun κ1 hκ1 => (hS κ1 (hr.1 κ1 hκ1)).2) (fun b hoc => ⟨hs.un 0 κ o b rfl (hoccL b hoc), (hb b (h0 b (hoccL b hoc))).1, (hb b (h0 b (hoccL b hoc))).2⟩) (fun hre hi => by
    simp only [if_true] at hi
    exact hs.own 0 κ o rfl ((real_same hR1 o).1 hre) (hi.back hR1 (fun _ => rfl) (fun κ1 hκ1 => (hRn κ1 (hSn κ1 (hr.1 κ1 hκ1))).trans (hS κ1 (hr.1 κ1 hκ1)).1)))
   obtain ⟨R', k1, k2, k3, k4, k5⟩ := Inv.addL L us (κ :: S) _ σ' _ hi1 g3 (fun κ' hκ => by
    rcases List.mem_cons.1 hκ with rfl | hκ
    · exact ⟨hR1, by rw [St.ob_setOb, if_pos ⟨rfl, okK_lt g1⟩]; simp⟩
    · exact ⟨(hRn κ' (hSn κ' hκ)).trans (hS κ' hκ).1, by rw [St.ob_setOb, if_neg (fun z => hSn κ' hκ z.1.symm)]; exact (hS κ' hκ).2⟩) hr.2 hs.tail (fun b ⟨i, κ1, o1, hi, hoc⟩ => ⟨(hb b ⟨i + 1, κ1, o1, by simpa using hi, hoc⟩).1, fun κ2 x hx hoc2 => by
    rw [St.ob_setOb] at hx
    by_cases e : κ = κ2
    · subst e
      rw [if_pos ⟨rfl, okK_lt g1⟩] at hx; cases hx
      exact hs.ds 0 (i + 1) κ o κ1 o1 b rfl (by simpa using hi) (by omega) (hoccL b hoc2) hoc
    · rw [if_neg (fun z => e z.1)] at hx
      refine (hb b ⟨i + 1, κ1, o1, by simpa using hi, hoc⟩).2 κ2 x hx ?_
      rcases hoc2 with ⟨q1, q2⟩ | q1
      · exact .inl ⟨(real_same (hRn κ2 (fun z => e z.symm)) x).1 q1, by rw [← hRn κ2 (fun z => e z.symm)]; exact q2⟩
      · exact .inr (q1.back (hRn κ2 (fun z => e z.symm)) (fun _ => rfl) (fun κ3 h3 => hRn κ3 (fun z => h.wo κ2 x κ3 hx h3 (z ▸ g2))))⟩)
   have hpk := k3 κ (by rw [St.ob_setOb, if_pos ⟨rfl, okK_lt g1⟩]; simp)
   refine ⟨R', k1, fun κ' hκ => ?_, fun κ' hκ => ?_, k4, fun κ' x hx => ?_⟩
   · rcases List.mem_cons.1 hκ with rfl | hκ
     · exact ⟨hpk.1.trans hR1, hpk.2⟩
     · exact k2 κ' hκ
   · have hk : κ' ≠ κ := fun e => hκ (e ▸ g2)
     have := k3 κ' (by rw [St.ob_setOb, if_neg (fun z => hk z.1.symm)]; exact hκ)
     exact ⟨this.1.trans (hRn κ' hk), this.2⟩
   · rcases k5 κ' x hx with m | m
     · exact .inl (List.mem_cons_of_mem _ m)
     · rw [St.ob_setOb] at m
       by_cases e : κ = κ'
       · subst e
         rw [if_pos ⟨rfl, okK_lt g1⟩] at m; cases m
         exact .inl (List.mem_cons_self ..)
       · rw [if_neg (fun z => e z.1)] at m; exact .inr m
end
end Go.Rx
