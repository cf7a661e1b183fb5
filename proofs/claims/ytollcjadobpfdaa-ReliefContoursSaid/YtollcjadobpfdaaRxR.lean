/- Reflection, part R: what need not be known any more (at heads of loops and where ways meet). -/
import Derived.Test.YtollcjadobpfdaaRxQ
namespace Go.Rx
set_option linter.unusedVariables false
set_option linter.unusedSimpArgs false
set_option linter.unusedSectionVars false
inductive Sh where
 | id
 | bool
 | val (b : Bool) (e : Ty)
structure Cl where
 frz : List Nat := []
 mat : List (Nat × Nat × Ty) := []
 matb : List (Nat × Nat × Nat × Ty) := []
 slots : List (Nat × Sh) := []
 keys : List (Nat × List Sh) := []
 unr : List Nat := []
 fbs : List (Nat × Ty) := []
def convC : Sh → C → C
 | .id, c => c
 | .bool, .prop p d => .prop (@decide p d = true) (instDecidableEqBool (@decide p d) true)
 | .bool, .lit b => .prop (b = true) (instDecidableEqBool b true)
 | .bool, c => c
 | .val b e, .nil => .val b e (slZ b)
 | .val false _, .val true e' x => .val false e' (slL true x)
 | .val _ _, c => c
def convA (s : Sh) : AV → AV
 | .cp (.one c) => .cp (.one (convC s c))
 | v => v
def dropC (ks : List Nat) (c : C) : C := if c.refs.all ks.contains then c else .any
def dropCp (ks : List Nat) : Cp → Cp
 | .one c => .one (dropC ks c)
 | .agg cs => .agg (cs.map (dropC ks))
def dropA (ks : List Nat) : AV → AV
 | .cp x => .cp (dropCp ks x)
 | .tup vs => .tup (vs.map (dropCp ks))
def convL : List Sh → List C → List C
 | s :: r, c :: cs => convC s c :: convL r cs
 | _, cs => cs
def keepIt {α : Type} (ks : List Nat) : Option (Nat × α) → Option (Nat × α)
 | some (d, L) => match ks.contains d with
   | true => some (d, L)
   | false => none
 | none => none
def dropO (ks : List Nat) (shs : List Sh) : Option Ob → Option Ob
 | some (.box cs) => some (.box ((convL shs cs).map (dropC ks)))
 | some (.map K V l it) => some (.map K V l (keepIt ks it))
 | o => o
def setsT (σ : St) (ks : List Nat) : List (Nat × Sh) → List AV → List AV
 | [], l => l
 | (t, s) :: r, l => (setsT σ ks r l).set t (dropA ks (convA s (σ.get t)))
def setsO (σ : St) (ks : List Nat) : List (Nat × List Sh) → List (Option Ob) → List (Option Ob)
 | [], l => l
 | (κ, shs) :: r, l => (setsO σ ks r l).set κ (dropO ks shs (σ.ob κ))
def there (σ : St) : List (Nat × List Sh) → List (Nat × List Sh)
 | [] => []
 | (κ, shs) :: r => match σ.ob κ with
   | some _ => (κ, shs) :: there σ r
   | none => there σ r
def matbs : List (Nat × Nat × Nat × Ty) → St → St
 | [], σ => σ
 | (q, i, κ, e) :: r, σ => match σ.ob q, σ.ob κ, okK κ σ.objs.length with
   | some (.box cs), none, true => match cs[i]? with
     | some .nil => matbs r ((σ.setOb κ (some (.vec e []))).setOb q (some (.box (cs.set i (.own κ)))))
     | _ => matbs r σ
   | _, _, _ => matbs r σ
def mats : List (Nat × Nat × Ty) → St → St
 | [], σ => σ
 | (t, κ, e) :: r, σ => match σ.get t, σ.ob κ, okK κ σ.objs.length with
   | .cp (.one .nil), none, true => mats r ((σ.setOb κ (some (.vec e []))).put (some t) (oneA (.own κ)))
   | _, _, _ => mats r σ
def keep (slots : List (Nat × Sh)) (ks : List (Nat × List Sh)) (σ : St) : St := ⟨setsT σ (ks.map (·.1)) slots (List.replicate σ.tmps.length anyA), setsO σ (ks.map (·.1)) ks (List.replicate σ.objs.length none)⟩
def unrs : List Nat → St → St
 | [], σ => σ
 | κ :: r, σ => unrs r (σ.unr κ)
def fbos : List (Nat × Ty) → St → St
 | [], σ => σ
 | (κ, e) :: r, σ => match σ.ob κ with
   | some (.box cs) => match e.of cs with
     | some (y, []) => fbos r (σ.setOb κ (some (.fbox e y)))
     | _ => fbos r σ
   | _ => fbos r σ
def Cl.go (c : Cl) (σ : St) : St :=
 let σ1 := matbs c.matb (mats c.mat (fbos c.fbs (frzs c.frz (unrs c.unr σ))))
 keep c.slots (there σ1 c.keys) σ1
theorem convC_rep {w : World} {R : Nat → RL} {Pr : Nat → Prop} {s : Sh} {c : C} {v : Value} (h : RepC w R Pr c v) : RepC w R Pr (convC s c) v := by
 unfold convC
 split
 · exact h
 · rename_i p d
   show v = _
   rw [show v = _ from h]
   by_cases hp : p <;> simp [hp]
 · rename_i b
   show v = _
   rw [show v = _ from h]
   cases b <;> rfl
 · exact h
 · rename_i b e
   have hv : v = .slice none 0 0 := h
   subst hv
   refine ⟨none, 0, ?_⟩
   cases b <;> exact ⟨rfl, Nat.le_refl _, by simp [slN, slZ], fun h => (h rfl).elim⟩
 · rename_i e e' x
   obtain ⟨A, cap, k1, k2, k3, k4⟩ := h
   exact ⟨A, cap, k1, k2, trivial, k4⟩
 · exact h
theorem convC_refs (s : Sh) (c : C) {κ : Nat} (h : κ ∈ (convC s c).refs) : κ ∈ c.refs := by
 unfold convC at h
 split at h
 · exact h
 · cases h
 · cases h
 · exact h
 · cases h
 · cases h
 · exact h
theorem convA_rep {w : World} {R : Nat → RL} {Pr : Nat → Prop} {s : Sh} {c : AV} {v : Value} (h : RepA w R Pr c v) : RepA w R Pr (convA s c) v := by
 unfold convA
 split
 · exact convC_rep h
 · exact h
theorem dropC_rep {w : World} {R : Nat → RL} {Pr : Nat → Prop} {ks : List Nat} {c : C} {v : Value} (h : RepC w R Pr c v) : RepC w R Pr (dropC ks c) v := by
 unfold dropC
 split
 · exact h
 · trivial
theorem dropC_refs {ks : List Nat} {c : C} {κ : Nat} (h : κ ∈ (dropC ks c).refs) : κ ∈ ks ∧ κ ∈ c.refs := by
 unfold dropC at h
 split at h
 · rename_i ha
   exact ⟨by simpa using List.all_eq_true.1 ha κ h, h⟩
 · cases h
theorem dropA_rep {w : World} {R : Nat → RL} {Pr : Nat → Prop} {ks : List Nat} {c : AV} {v : Value} (h : RepA w R Pr c v) : RepA w R Pr (dropA ks c) v := by
 have hcp : ∀ {x : Cp} {u : Value}, RepCp w R Pr x u → RepCp w R Pr (dropCp ks x) u := fun {x u} h => by
  cases x with
  | one c => exact dropC_rep h
  | agg cs => obtain ⟨vs, h1, h2⟩ := h; exact ⟨vs, h1, h2.map_left fun a _ b hb => dropC_rep hb⟩
 cases c with
 | cp x => exact hcp h
 | tup xs => obtain ⟨vs, h1, h2⟩ := h; exact ⟨vs, h1, h2.map_left fun a _ b hb => hcp hb⟩
theorem dropA_refs {ks : List Nat} {c : AV} {κ : Nat} (h : κ ∈ (dropA ks c).refs) : κ ∈ ks := by
 have hcp : ∀ {x : Cp}, κ ∈ (dropCp ks x).refs → κ ∈ ks := fun {x} h => by
  cases x with
  | one c => exact (dropC_refs h).1
  | agg cs =>
    obtain ⟨c, hc, hk⟩ := List.mem_flatMap.1 h
    obtain ⟨d, hd, rfl⟩ := List.mem_map.1 hc
    exact (dropC_refs hk).1
 cases c with
 | cp x => exact hcp h
 | tup xs =>
   obtain ⟨c, hc, hk⟩ := List.mem_flatMap.1 h
   obtain ⟨d, hd, rfl⟩ := List.mem_map.1 hc
   exact hcp hk
theorem setsT_len (σ : St) (ks : List Nat) : ∀ (l : List (Nat × Sh)) (m : List AV), (setsT σ ks l m).length = m.length
 | [], m => rfl
 | (t, s) :: r, m => by simp [setsT, setsT_len σ ks r m]
theorem setsT_get (σ : St) (ks : List Nat) : ∀ (l : List (Nat × Sh)) (n : Nat) (t : Nat), (setsT σ ks l (List.replicate n anyA)).getD t anyA = anyA ∨ ∃ s, (setsT σ ks l (List.replicate n anyA)).getD t anyA = dropA ks (convA s (σ.get t))
 | [], n, t => by
   left
   simp only [setsT, List.getD_eq_getElem?_getD, List.getElem?_replicate]
   split <;> rfl
 | (u, s) :: r, n, t => by
   simp only [setsT]
   rw [getD_set_list]
   split
   · rename_i h; rw [← h.1]; exact .inr ⟨s, rfl⟩
   · exact setsT_get σ ks r n t
theorem setsO_get (σ : St) (ks : List Nat) : ∀ (l : List (Nat × List Sh)) (n κ : Nat), (setsO σ ks l (List.replicate n none)).getD κ none = none ∨ ∃ shs, (setsO σ ks l (List.replicate n none)).getD κ none = dropO ks shs (σ.ob κ)
 | [], n, κ => by
   left
   simp only [setsO, List.getD_eq_getElem?_getD, List.getElem?_replicate]
   split <;> rfl
 | (u, s) :: r, n, κ => by
   simp only [setsO]
   rw [getD_set_list]
   split
   · rename_i h; rw [← h.1]; exact .inr ⟨s, rfl⟩
   · exact setsO_get σ ks r n κ
theorem setsO_len (σ : St) (ks : List Nat) : ∀ (l : List (Nat × List Sh)) (m : List (Option Ob)), (setsO σ ks l m).length = m.length
 | [], m => rfl
 | (κ, _) :: r, m => by simp [setsO, setsO_len σ ks r m]
theorem setsO_mem (σ : St) (ks : List Nat) : ∀ (l : List (Nat × List Sh)) (n κ : Nat), κ ∈ l.map (·.1) → κ < n → ∃ shs, (setsO σ ks l (List.replicate n none)).getD κ none = dropO ks shs (σ.ob κ)
 | (u, s) :: r, n, κ, h, hn => by
   simp only [setsO]
   rw [getD_set_list]
   by_cases e : u = κ
   · subst e; exact ⟨s, by rw [if_pos ⟨rfl, by rw [setsO_len]; simpa using hn⟩]⟩
   · rw [if_neg (fun z => e z.1)]
     exact setsO_mem σ ks r n κ (by simpa [Ne.symm e] using h) hn
theorem there_mem (σ : St) : ∀ (l : List (Nat × List Sh)) {κ : Nat}, κ ∈ (there σ l).map (·.1) → ∃ o, σ.ob κ = some o
 | [], _, h => by cases h
 | (u, s) :: r, κ, h => by
   unfold there at h
   split at h
   · rename_i o ho
     rcases List.mem_cons.1 h with rfl | h
     · exact ⟨o, ho⟩
     · exact there_mem σ r h
   · exact there_mem σ r h
section
variable {w0 : World} {Fz Pr0 : Nat → Prop} {Lo : Nat → RL} {R : Nat → RL} {Pr : Nat → Prop} {σ : St} {a : Act} {w : World}
theorem convL_rep {w : World} {R : Nat → RL} {Pr : Nat → Prop} : ∀ {shs : List Sh} {cs : List C} {vs : List Value}, All2 (RepC w R Pr) cs vs → All2 (RepC w R Pr) (convL shs cs) vs
 | [], cs, vs, h => by cases cs <;> exact h
 | s :: shs, [], vs, h => h
 | s :: shs, c :: cs, [], h => h.elim
 | s :: shs, c :: cs, v :: vs, h => ⟨convC_rep h.1, convL_rep h.2⟩
theorem keepIt_or {K V : Ty} {m : List (K.D × V.D)} (ks : List Nat) (it : Option (Nat × List (K.D × V.D) × Option (K.D × V.D))) : (keepIt ks it = it ∧ ∀ κ ∈ (Ob.map K V m it).refs, κ ∈ ks) ∨ keepIt ks it = none := by
 unfold keepIt
 split
 · rename_i d L
   split
   · rename_i hd
     refine .inl ⟨rfl, fun κ hk => ?_⟩
     simp only [Ob.refs, List.mem_singleton] at hk
     subst hk
     simpa using hd
   · exact .inr rfl
 · exact .inr rfl
theorem Inv.keep (h : Inv w0 Fz Pr0 Lo R Pr σ a w) (slots : List (Nat × Sh)) (ks : List (Nat × List Sh)) (hks : ∀ κ ∈ ks.map (·.1), ∃ o, σ.ob κ = some o) : Inv w0 Fz Pr0 Lo R Pr (keep slots ks σ) a w := by
 have hpres : ∀ κ ∈ ks.map (·.1), (Go.Rx.keep slots ks σ).ob κ ≠ none := fun κ hκ => by
  obtain ⟨o, ho⟩ := hks κ hκ
  have hlt : κ < σ.objs.length := by
   rcases Nat.lt_or_ge κ σ.objs.length with g | g
   · exact g
   · unfold St.ob at ho; rw [List.getD_eq_getElem?_getD, List.getElem?_eq_none g] at ho; cases ho
  show (setsO σ (ks.map (·.1)) ks (List.replicate σ.objs.length none)).getD κ none ≠ none
  obtain ⟨shs, hs⟩ := setsO_mem σ (ks.map (·.1)) ks _ κ hκ hlt
  rw [hs, ho]
  cases o <;> simp [dropO]
 have hob : ∀ κ o', (Go.Rx.keep slots ks σ).ob κ = some o' → ∃ o, σ.ob κ = some o ∧ ((∃ cs shs, o = .box cs ∧ o' = .box ((convL shs cs).map (dropC (ks.map (·.1))))) ∨ (o' = o ∧ ∀ κ ∈ o.refs, κ ∈ ks.map (·.1)) ∨ ∃ K V l it, o = .map K V l it ∧ o' = .map K V l none) := fun κ o' ho => by
  rcases setsO_get σ (ks.map (·.1)) ks σ.objs.length κ with g | ⟨shs, g⟩
  · rw [show (Go.Rx.keep slots ks σ).ob κ = _ from g] at ho; cases ho
  · rw [show (Go.Rx.keep slots ks σ).ob κ = _ from g] at ho
    cases hx : σ.ob κ with
    | none => rw [hx] at ho; cases ho
    | some o =>
      rw [hx] at ho
      cases o with
      | box cs => simp only [dropO] at ho; cases ho; exact ⟨_, rfl, .inl ⟨_, shs, rfl, rfl⟩⟩
      | vec e l => simp only [dropO] at ho; cases ho; exact ⟨_, rfl, .inr (.inl ⟨rfl, fun _ z => by cases z⟩)⟩
      | set l => simp only [dropO] at ho; cases ho; exact ⟨_, rfl, .inr (.inl ⟨rfl, fun _ z => by cases z⟩)⟩
      | rows e l hh => simp only [dropO] at ho; cases ho; exact ⟨_, rfl, .inr (.inl ⟨rfl, fun _ z => by cases z⟩)⟩
      | fbox e l => simp only [dropO] at ho; cases ho; exact ⟨_, rfl, .inr (.inl ⟨rfl, fun _ z => by cases z⟩)⟩
      | tok l => simp only [dropO] at ho; cases ho; exact ⟨_, rfl, .inr (.inl ⟨rfl, fun _ z => by cases z⟩)⟩
      | map K V l it =>
        simp only [dropO] at ho; cases ho
        rcases keepIt_or (K := K) (V := V) (m := l) (ks.map (·.1)) it with ⟨q1, q2⟩ | q1
        · exact ⟨_, rfl, .inr (.inl ⟨by rw [q1], q2⟩)⟩
        · exact ⟨_, rfl, .inr (.inr ⟨K, V, l, it, rfl, by rw [q1]⟩)⟩
 refine h.weak _ ?_ ?_ (fun t u hu => ?_) (fun κ o' ho => ?_) (fun t κ hk => ?_) (fun κ' o κ ho hk => ?_)
 · show (setsT σ (ks.map (·.1)) slots (List.replicate σ.tmps.length anyA)).length ≤ _
   rw [setsT_len]; simpa using h.sz
 · show (setsO σ (ks.map (·.1)) ks (List.replicate σ.objs.length none)).length = _
   rw [setsO_len]; simp
 · rcases setsT_get σ (ks.map (·.1)) slots σ.tmps.length t with g | ⟨s, g⟩
   · rw [show (Go.Rx.keep slots ks σ).get t = _ from g]; trivial
   · rw [show (Go.Rx.keep slots ks σ).get t = _ from g]; exact dropA_rep (convA_rep hu)
 · obtain ⟨o, h1, ⟨cs, shs, rfl, rfl⟩ | ⟨rfl, hr0⟩ | ⟨K, V, l, it, rfl, rfl⟩⟩ := hob κ o' ho
   · exact ⟨_, h1, fun ⟨el, vs, g1, g2⟩ => ⟨el, vs, g1, (convL_rep g2).map_left fun a _ b hb => dropC_rep hb⟩, fun _ => trivial, fun _ hb => hb.elim⟩
   · exact ⟨_, h1, id, id, fun _ h => h⟩
   · exact ⟨_, h1, fun ⟨es, clock, g1, g2, g3, g4, _⟩ => ⟨es, clock, g1, g2, g3, g4, fun _ _ _ z => by cases z⟩, fun _ => trivial, fun b ⟨_, _, z, _⟩ => by cases z⟩
 · rcases setsT_get σ (ks.map (·.1)) slots σ.tmps.length t with g | ⟨s, g⟩
   · rw [show (Go.Rx.keep slots ks σ).get t = _ from g] at hk; cases hk
   · rw [show (Go.Rx.keep slots ks σ).get t = _ from g] at hk; exact hpres κ (dropA_refs hk)
 · obtain ⟨o1, h1, ⟨cs, shs, rfl, rfl⟩ | ⟨rfl, hr0⟩ | ⟨K, V, l, it, rfl, rfl⟩⟩ := hob κ' o ho
   · obtain ⟨c, hc, hk⟩ := List.mem_flatMap.1 hk
     obtain ⟨d, hd, rfl⟩ := List.mem_map.1 hc
     exact hpres κ (dropC_refs hk).1
   · exact hpres κ (hr0 κ hk)
   · cases hk
theorem mats_inv : ∀ (l : List (Nat × Nat × Ty)) {R : Nat → RL} {σ : St}, Inv w0 Fz Pr0 Lo R Pr σ a w → ∃ R', Inv w0 Fz Pr0 Lo R' Pr (mats l σ) a w
 | [], R, σ, h => ⟨R, h⟩
 | (t, κ, e) :: r, R, σ, h => by
   unfold mats
   split
   · rename_i h1 h2 h3
     have h30 := h3
     have h3 := okK_lt h3
     have hv := h.tm t
     rw [h1] at hv
     have hv : a.tmps.getD t undef = .slice none 0 0 := hv
     have hi := h.add κ (.vec e []) ⟨0, none, 0, 0⟩ h2 h30 (R' := fun κ' => if κ' = κ then ⟨0, none, 0, 0⟩ else R κ') rfl ⟨by simp, .inl ⟨by simp [RL.hdr], rfl⟩⟩ (fun κ hκ => by cases hκ) (fun hre => (hre (by simp [RL.hdr])).elim)
     have hi2 := hi.put (some t) (oneA (.own κ)) (a.tmps.getD t undef) (by rw [hv]; show _ = _; simp [RL.hdr]) (fun κ' hκ => by
      have : κ' = κ := by simpa [AV.refs, Cp.refs, C.refs] using hκ
      subst this
      rw [St.ob_setOb, if_pos ⟨rfl, h3⟩]; simp)
     have ha : a.put (some t) (a.tmps.getD t undef) = a := by
      have ht : t < a.tmps.size := by
       rcases Nat.lt_or_ge t a.tmps.size with g | g
       · exact g
       · rw [Array.getD_eq_getD_getElem?, Array.getElem?_eq_none g] at hv; simp [undef] at hv
      cases a with
      | mk tm df =>
        simp only [Act.put]
        congr 1
        have ht' : t < tm.size := ht
        apply Array.ext
        · simp
        · intro i h1 h2
          rw [Array.getElem_setIfInBounds]
          split
          · rename_i e; subst e; simp [Array.getD, ht']
          · rfl
     rw [ha] at hi2
     exact mats_inv r hi2
   · exact mats_inv r h
theorem matbs_inv : ∀ (l : List (Nat × Nat × Nat × Ty)) {R : Nat → RL} {σ : St}, Inv w0 Fz Pr0 Lo R Pr σ a w → ∃ R', Inv w0 Fz Pr0 Lo R' Pr (matbs l σ) a w
 | [], R, σ, h => ⟨R, h⟩
 | (q, i, κ, e) :: r, R, σ, h => by
   unfold matbs
   split
   · rename_i cs h1 h2 h3
     have h30 := h3
     have h3 := okK_lt h3
     split
     · rename_i hci
       have hqk : q ≠ κ := fun e1 => by subst e1; rw [h1] at h2; cases h2
       have hi := h.add κ (.vec e []) ⟨0, none, 0, 0⟩ h2 h30 (R' := fun κ' => if κ' = κ then ⟨0, none, 0, 0⟩ else R κ') rfl ⟨by simp, .inl ⟨by simp [RL.hdr], rfl⟩⟩ (fun κ hκ => by cases hκ) (fun hre => (hre (by simp [RL.hdr])).elim)
       have hq : (σ.setOb κ (some (.vec e []))).ob q = some (.box cs) := by
        rw [St.ob_setOb, if_neg (fun z => hqk z.1.symm)]; exact h1
       have hκ : (σ.setOb κ (some (.vec e []))).ob κ ≠ none := by
        rw [St.ob_setOb, if_pos ⟨rfl, h3⟩]; simp
       have hi2 := hi.upd q (.box cs) (.box (cs.set i (.own κ))) hq (w' := w) (R' := fun κ' => if κ' = κ then ⟨0, none, 0, 0⟩ else R κ') (fun _ _ => rfl) (.inl rfl) (fun _ _ _ => rfl) (Grow.refl _) (fun _ => .inr ⟨trivial, rfl⟩) (by
        obtain ⟨el, vs, g1, g2⟩ := hi.ob q _ hq
        refine ⟨el, vs, g1, ?_⟩
        have hlt : i < cs.length := by
         rcases Nat.lt_or_ge i cs.length with g | g
         · exact g
         · rw [List.getElem?_eq_none g] at hci; cases hci
        have key : ∀ {cs : List C} {vs : List Value} (i : Nat), All2 (RepC w (fun κ' => if κ' = κ then ⟨0, none, 0, 0⟩ else R κ') Pr) cs vs → cs[i]? = some .nil → All2 (RepC w (fun κ' => if κ' = κ then ⟨0, none, 0, 0⟩ else R κ') Pr) (cs.set i (.own κ)) vs := fun {cs vs} i hA hc => by
         induction cs generalizing vs i with
         | nil => simp at hc
         | cons c cs ih =>
           cases vs with
           | nil => exact hA.elim
           | cons v vs =>
             cases i with
             | zero =>
               simp at hc; subst hc
               have hv : v = .slice none 0 0 := hA.1
               refine ⟨?_, hA.2⟩
               show v = _
               rw [hv]; simp [RL.hdr]
             | succ i => exact ⟨hA.1, ih i hA.2 (by simpa using hc)⟩
        exact key i g2 hci) (fun κ' hκ' => by
        have hmem : ∀ {cs : List C} (i : Nat) {κ' : Nat}, κ' ∈ (Ob.box (cs.set i (.own κ))).refs → κ' = κ ∨ κ' ∈ (Ob.box cs).refs := fun {cs} i {κ'} hh => by
         obtain ⟨c, hc, hk⟩ := List.mem_flatMap.1 hh
         rcases List.mem_or_eq_of_mem_set hc with hc | rfl
         · exact .inr (List.mem_flatMap.2 ⟨c, hc, hk⟩)
         · exact .inl (by simpa [C.refs] using hk)
        rcases hmem i hκ' with rfl | h5
        · exact hκ
        · exact hi.wo q _ κ' hq h5)
       exact matbs_inv r hi2
     · exact matbs_inv r h
   · exact matbs_inv r h
theorem unrs_inv : ∀ (l : List Nat) {Pr : Nat → Prop} {σ : St}, Inv w0 Fz Pr0 Lo R Pr σ a w → (∀ b, b < w0.heap.size → Fz b ∨ Pr0 b) → ∃ Pr', Inv w0 Fz Pr0 Lo R Pr' (unrs l σ) a w
 | [], Pr, _, h, _ => ⟨Pr, h⟩
 | κ :: l, _, _, h, hF => by
   obtain ⟨Pr1, h1⟩ := h.unr κ hF
   exact unrs_inv l h1 hF
theorem fbos_inv : ∀ (l : List (Nat × Ty)) {Pr : Nat → Prop} {σ : St}, Inv w0 Fz Pr0 Lo R Pr σ a w → (∀ b, b < w0.heap.size → Fz b ∨ Pr0 b) → ∃ Pr', Inv w0 Fz Pr0 Lo R Pr' (fbos l σ) a w
 | [], Pr, _, h, _ => ⟨Pr, h⟩
 | (κ, e) :: l, _, _, h, hF => by
   unfold fbos
   split
   · rename_i cs hob
     split
     · rename_i y hy
       exact fbos_inv l (h.frzb hob hy hF) hF
     · exact fbos_inv l h hF
   · exact fbos_inv l h hF
theorem Inv.clean (h : Inv w0 Fz Pr0 Lo R Pr σ a w) (hFz : ∀ b, b < w0.heap.size → Fz b ∨ Pr0 b) (c : Cl) : ∃ R' Pr', Inv w0 Fz Pr0 Lo R' Pr' (c.go σ) a w := by
 obtain ⟨Pr1, h0⟩ := unrs_inv c.unr h hFz
 have h1' := frzs_inv c.frz h0 hFz
 obtain ⟨Pr2, h1⟩ := fbos_inv c.fbs h1' hFz
 obtain ⟨R1, h2⟩ := mats_inv c.mat h1
 obtain ⟨R', h2⟩ := matbs_inv c.matb h2
 exact ⟨R', _, h2.keep c.slots _ fun κ hκ => there_mem _ _ hκ⟩
end
end Go.Rx
