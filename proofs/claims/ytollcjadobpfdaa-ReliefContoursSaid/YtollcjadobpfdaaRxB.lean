/- Reflection, part B: states that stand for a frame and a world (St, Inv), and how such a standing moves. -/
import Derived.Test.YtollcjadobpfdaaRxA
namespace Go.Rx
set_option linter.unusedVariables false
set_option linter.unusedSimpArgs false
set_option linter.unusedSectionVars false
inductive Cp where
 | one (c : C)
 | agg (cs : List C)
inductive AV where
 | cp (x : Cp)
 | tup (vs : List Cp)
inductive Ob where
 | box (cs : List C)
 | vec (e : Ty) (l : List e.D)
 | set (l : List (Int × Int))
 | rows (e : Ty) (ll : List (List e.D)) (h : Option Nat)
 | fbox (e : Ty) (x : e.D)
 | map (K V : Ty) (l : List (K.D × V.D)) (it : Option (Nat × List (K.D × V.D) × Option (K.D × V.D)))
 | tok (κ : Nat)
structure St where
 tmps : List AV
 objs : List (Option Ob)
abbrev anyA : AV := .cp (.one .any)
def St.get (σ : St) (t : Nat) : AV := σ.tmps.getD t anyA
def St.ob (σ : St) (κ : Nat) : Option Ob := σ.objs.getD κ none
def St.put (σ : St) (dst : Option Nat) (v : AV) : St :=
 match dst with
 | some d => { σ with tmps := σ.tmps.set d v }
 | none => σ
def St.setOb (σ : St) (κ : Nat) (o : Option Ob) : St := { σ with objs := σ.objs.set κ o }
def Cp.refs : Cp → List Nat
 | .one c => c.refs
 | .agg cs => cs.flatMap C.refs
def AV.refs : AV → List Nat
 | .cp x => x.refs
 | .tup vs => vs.flatMap Cp.refs
def Ob.refs : Ob → List Nat
 | .box cs => cs.flatMap C.refs
 | .vec _ _ => []
 | .set _ => []
 | .rows _ _ _ => []
 | .fbox _ _ => []
 | .map _ _ _ (some (d, _)) => [d]
 | .map _ _ _ none => []
 | .tok _ => []
def RepSet (l : List (Int × Int)) (es : List MapEntry) : Prop := ∃ ks : List (Int × Int), (∀ x, x ∈ ks ↔ x ∈ l) ∧ All2 (fun k e => e.key = Value.agg #[.int .i64 k.1, .int .i64 k.2] ∧ e.val = Value.bool true) ks es
def innB : Value → Option Nat
 | .slice (some a) _ _ => some a.block
 | _ => none
def InRow (w : World) (Pr : Nat → Prop) (e : Ty) (row : List e.D) (v : Value) : Prop :=
 (v = .slice none 0 0 ∧ row = []) ∨ ∃ blk off cap cells el, v = .slice (some ⟨blk, off, none⟩) row.length cap ∧ row.length ≤ cap ∧ w.heap[blk]? = some (.cells cells el (0, 0)) ∧ off + cap * e.n ≤ cells.size ∧ ∀ i y, row[i]? = some y → ∃ us, At cells (off + i * e.n) us ∧ RepTy w Pr e y us
def RepEnt (w : World) (Pr : Nat → Prop) (K V : Ty) (kv : K.D × V.D) (en : MapEntry) : Prop :=
 (K.isP = true → ∃ us, en.key = .agg us ∧ RepTy w Pr K kv.1 us.toList) ∧ (K.isP = false → RepTy w Pr K kv.1 [en.key]) ∧
 (V.isP = true → ∃ us, en.val = .agg us ∧ RepTy w Pr V kv.2 us.toList) ∧ (V.isP = false → RepTy w Pr V kv.2 [en.val])
theorem RepEnt.move {w w' : World} {Pr Pr' : Nat → Prop} (hw : ∀ b, Pr b → w'.heap[b]? = w.heap[b]?) (hp : ∀ b, Pr b → Pr' b) {K V : Ty} {kv : K.D × V.D} {en : MapEntry} (h : RepEnt w Pr K V kv en) : RepEnt w' Pr' K V kv en := by
 obtain ⟨k1, k2, k3, k4⟩ := h
 exact ⟨fun g => (by obtain ⟨us, q1, q2⟩ := k1 g; exact ⟨us, q1, RepTy.move hw hp q2⟩), fun g => RepTy.move hw hp (k2 g), fun g => (by obtain ⟨us, q1, q2⟩ := k3 g; exact ⟨us, q1, RepTy.move hw hp q2⟩), fun g => RepTy.move hw hp (k4 g)⟩
def leftL {α : Type} : List MapEntry → List α → Array Nat → List α
 | e :: es, x :: l, seen => match seen.contains e.born with
   | true => leftL es l seen
   | false => x :: leftL es l seen
 | _, _, _ => []
section
variable (w : World) (R : Nat → RL) (Pr : Nat → Prop)
def RepCp : Cp → Value → Prop
 | .one c, v => RepC w R Pr c v
 | .agg cs, v => ∃ vs, v = .agg vs ∧ All2 (RepC w R Pr) cs vs.toList
def RepA : AV → Value → Prop
 | .cp x, v => RepCp w R Pr x v
 | .tup xs, v => ∃ vs, v = .tuple vs ∧ All2 (RepCp w R Pr) xs vs.toList
def RepOb (κ : Nat) : Ob → Prop
 | .box cs => ∃ el vs, w.heap[(R κ).blk]? = some (.cells vs el (0, 0)) ∧ All2 (RepC w R Pr) cs vs.toList
 | .vec e l => (R κ).len = l.length ∧ (((R κ).hdr = .slice none 0 0 ∧ l = []) ∨ ∃ off cap cells el, (R κ).hdr = .slice (some ⟨(R κ).blk, off, none⟩) l.length cap ∧ l.length ≤ cap ∧
    w.heap[(R κ).blk]? = some (.cells cells el (0, 0)) ∧ off + cap * e.n ≤ cells.size ∧ ∀ i y, l[i]? = some y → ∃ us, At cells (off + i * e.n) us ∧ RepTy w Pr e y us)
 | .set l => ∃ es clock, w.heap[(R κ).blk]? = some (.map es clock) ∧ RepSet l es.toList
 | .rows e ll h => (R κ).len = ll.length ∧ ∃ off cap cells el, (R κ).hdr = .slice (some ⟨(R κ).blk, off, none⟩) ll.length cap ∧ ll.length ≤ cap ∧ w.heap[(R κ).blk]? = some (.cells cells el (0, 0)) ∧ off + cap ≤ cells.size ∧
    (∀ j row, ll[j]? = some row → h ≠ some j → ∃ v, cells[off + j]? = some v ∧ InRow w Pr e row v) ∧
    ∀ j j' v v' b, j ≠ j' → h ≠ some j → h ≠ some j' → j < ll.length → j' < ll.length → cells[off + j]? = some v → cells[off + j']? = some v' → innB v = some b → innB v' ≠ some b
 | .fbox e x => Pr (R κ).blk ∧ ∃ cells el fr us, w.heap[(R κ).blk]? = some (.cells cells el fr) ∧ At cells 0 us ∧ RepTy w Pr e x us
 | .map K V l it => ∃ es clock, w.heap[(R κ).blk]? = some (.map es clock) ∧ Stamps es.toList clock ∧ es.toList.length = l.length ∧ (∀ (i : Nat) kv en, l[i]? = some kv → es.toList[i]? = some en → RepEnt w Pr K V kv en) ∧
    ∀ d L cur, it = some (d, L, cur) → ∃ since seen, w.heap[(R d).blk]? = some (.mapIter (some (R κ).blk) since seen clock) ∧ since ≤ clock ∧ (∀ e ∈ es.toList, e.born < since) ∧ L = leftL es.toList l seen ∧
      ∀ kv, cur = some kv → ∃ (i : Nat) (en : MapEntry) (seen' : Array Nat), l[i]? = some kv ∧ es.toList[i]? = some en ∧ seen = seen'.push en.born
 | .tok _ => True
def Inn (κ : Nat) : Ob → Nat → Prop
 | .rows e ll h, b => ∃ off n cap cells el j v, (R κ).hdr = .slice (some ⟨(R κ).blk, off, none⟩) n cap ∧ w.heap[(R κ).blk]? = some (.cells cells el (0, 0)) ∧ j < ll.length ∧ h ≠ some j ∧ cells[off + j]? = some v ∧ innB v = some b
 | .map _ _ _ it, b => ∃ d L, it = some (d, L) ∧ b = (R d).blk
 | _, _ => False
end
def real (R : Nat → RL) (κ : Nat) : Ob → Prop
 | .box _ => True
 | .vec _ _ => (R κ).hdr ≠ .slice none 0 0
 | .set _ => True
 | .rows _ _ _ => True
 | .fbox _ _ => False
 | .map _ _ _ _ => True
 | .tok _ => False
section
variable {w w' : World} {R R' : Nat → RL} {Pr Pr' : Nat → Prop}
theorem RepCp.move (hw : ∀ b, Pr b → w'.heap[b]? = w.heap[b]?) (hp : ∀ b, Pr b → Pr' b) {c : Cp} {v : Value} (hr : ∀ κ ∈ c.refs, R' κ = R κ) (h : RepCp w R Pr c v) : RepCp w' R' Pr' c v := by
 cases c with
 | one c => exact RepC.move hw hp hr h
 | agg cs =>
   obtain ⟨vs, h1, h2⟩ := h
   exact ⟨vs, h1, h2.mono fun a ha b hb => RepC.move hw hp (fun κ hκ => hr κ (List.mem_flatMap.2 ⟨a, ha, hκ⟩)) hb⟩
theorem RepA.move (hw : ∀ b, Pr b → w'.heap[b]? = w.heap[b]?) (hp : ∀ b, Pr b → Pr' b) {c : AV} {v : Value} (hr : ∀ κ ∈ c.refs, R' κ = R κ) (h : RepA w R Pr c v) : RepA w' R' Pr' c v := by
 cases c with
 | cp x => exact RepCp.move hw hp hr h
 | tup xs =>
   obtain ⟨vs, h1, h2⟩ := h
   exact ⟨vs, h1, h2.mono fun a ha b hb => RepCp.move hw hp (fun κ hκ => hr κ (List.mem_flatMap.2 ⟨a, ha, hκ⟩)) hb⟩
theorem Inn.back {κ : Nat} {o : Ob} {b : Nat} (hk : R' κ = R κ) (hb : real R κ o → w'.heap[(R κ).blk]? = w.heap[(R κ).blk]?) (h : Inn w' R' κ o b) (hr : ∀ κ ∈ o.refs, R' κ = R κ := by exact fun _ _ => rfl) : Inn w R κ o b := by
 cases o with
 | rows e ll hh =>
   obtain ⟨off, n, cap, cells, el, j, v, h1, h2, h3⟩ := h
   rw [hk] at h1 h2
   exact ⟨off, n, cap, cells, el, j, v, h1, by rw [← hb trivial]; exact h2, h3⟩
 | map K V l it =>
   obtain ⟨d, L, rfl, rfl⟩ := h
   exact ⟨d, L, rfl, by rw [hr d (by simp [Ob.refs])]⟩
 | _ => exact h
theorem InRow.move (hw : ∀ b, Pr b → w'.heap[b]? = w.heap[b]?) (hp : ∀ b, Pr b → Pr' b) {e : Ty} {row : List e.D} {v : Value} (hb : ∀ b, innB v = some b → w'.heap[b]? = w.heap[b]?) (h : InRow w Pr e row v) : InRow w' Pr' e row v := by
 rcases h with h | ⟨blk, off, cap, cells, el, h1, h2, h3, h4, h5⟩
 · exact .inl h
 · refine .inr ⟨blk, off, cap, cells, el, h1, h2, by rw [hb blk (by rw [h1]; rfl)]; exact h3, h4, fun i y hi => ?_⟩
   obtain ⟨us, k1, k2⟩ := h5 i y hi
   exact ⟨us, k1, k2.move hw hp⟩
theorem RepOb.move {κ : Nat} {o : Ob} (hw : ∀ b, Pr b → w'.heap[b]? = w.heap[b]?) (hp : ∀ b, Pr b → Pr' b) (hb : real R κ o → w'.heap[(R κ).blk]? = w.heap[(R κ).blk]?) (hk : R' κ = R κ)
 (hr : ∀ κ ∈ o.refs, R' κ = R κ) (h : RepOb w R Pr κ o) (hin : ∀ b, Inn w R κ o b → w'.heap[b]? = w.heap[b]? := by exact fun _ _ => rfl) : RepOb w' R' Pr' κ o := by
 cases o with
 | box cs =>
   obtain ⟨el, vs, h1, h2⟩ := h
   exact ⟨el, vs, by rw [hk, hb trivial, h1], h2.mono fun a ha b hb => RepC.move hw hp (fun κ hκ => hr κ (List.mem_flatMap.2 ⟨a, ha, hκ⟩)) hb⟩
 | vec e l =>
   obtain ⟨h0, h⟩ := h
   refine ⟨by rw [hk, h0], ?_⟩
   rcases h with ⟨h1, h2⟩ | ⟨off, cap, cells, el, h1, h2, h3, h4, h5⟩
   · exact .inl ⟨by rw [hk, h1], h2⟩
   · have hre : real R κ (.vec e l) := fun h => by rw [h] at h1; cases h1
     refine .inr ⟨off, cap, cells, el, by rw [hk, h1], h2, by rw [hk, hb hre, h3], h4, fun i y hi => ?_⟩
     obtain ⟨us, k1, k2⟩ := h5 i y hi
     exact ⟨us, k1, RepTy.move hw hp k2⟩
 | set l =>
   obtain ⟨es, clock, h1, h2⟩ := h
   exact ⟨es, clock, by rw [hk, hb trivial, h1], h2⟩
 | rows e ll hh =>
   obtain ⟨h0, off, cap, cells, el, h1, h2, h3, h4, h5, h6⟩ := h
   refine ⟨by rw [hk, h0], off, cap, cells, el, by rw [hk, h1], h2, by rw [hk, hb trivial, h3], h4, fun j row hj hne => ?_, h6⟩
   obtain ⟨v, k1, k2⟩ := h5 j row hj hne
   exact ⟨v, k1, k2.move hw hp fun b hvb => hin b ⟨off, _, cap, cells, el, j, v, h1, h3, (List.getElem?_eq_some_iff.1 hj).1, hne, k1, hvb⟩⟩
 | fbox e x =>
   obtain ⟨h0, cells, el, fr, us, h1, h2, h3⟩ := h
   exact ⟨by rw [hk]; exact hp _ h0, cells, el, fr, us, by rw [hk, hw _ h0, h1], h2, h3.move hw hp⟩
 | map K V l it =>
   obtain ⟨es, clock, h1, h2, h3, h4, h5⟩ := h
   refine ⟨es, clock, by rw [hk, hb trivial, h1], h2, h3, fun i kv en hx he => (h4 i kv en hx he).move hw hp, fun d L cur hL => ?_⟩
   subst hL
   obtain ⟨since, seen, g1, g2⟩ := h5 d L cur rfl
   exact ⟨since, seen, by rw [hk, hr d (by simp [Ob.refs]), hin _ ⟨d, _, rfl, rfl⟩, g1], g2⟩
 | tok κ => trivial
theorem RepOb.inn_lt {κ : Nat} {o : Ob} {b : Nat} (h : RepOb w R Pr κ o) (hi : Inn w R κ o b) : b < w.heap.size := by
 cases o with
 | rows e ll hh =>
   obtain ⟨h0, off, cap, cells, el, h1, h2, h3, h4, h5, h6⟩ := h
   obtain ⟨off', n, cap', cells', el', j, v, g1, g2, g3, g4, g5, g6⟩ := hi
   rw [h1] at g1
   rw [h3] at g2
   cases g1; cases g2
   obtain ⟨v', k1, k2⟩ := h5 j _ (List.getElem?_eq_getElem g3) g4
   rw [g5] at k1; cases k1
   rcases k2 with ⟨rfl, _⟩ | ⟨blk, o2, c2, ce, el2, rfl, m2, m3, _⟩
   · cases g6
   · have g7 : blk = b := by simpa [innB] using g6
     subst g7
     rcases Nat.lt_or_ge blk w.heap.size with g | g
     · exact g
     · rw [Array.getElem?_eq_none g] at m3; cases m3
 | map K V l it =>
   obtain ⟨es, clock, h1, h2, h3, h4, h5⟩ := h
   obtain ⟨d, ⟨L, cur⟩, rfl, rfl⟩ := hi
   obtain ⟨since, seen, k1, _⟩ := h5 d L cur rfl
   rcases Nat.lt_or_ge (R d).blk w.heap.size with g | g
   · exact g
   · rw [Array.getElem?_eq_none g] at k1; cases k1
 | _ => exact hi.elim
theorem RepOb.lt {κ : Nat} {o : Ob} (hre : real R κ o) (h : RepOb w R Pr κ o) : (R κ).blk < w.heap.size := by
 have key : ∀ (x : Obj), w.heap[(R κ).blk]? = some x → (R κ).blk < w.heap.size := fun x hx => by
  rcases Nat.lt_or_ge (R κ).blk w.heap.size with g | g
  · exact g
  · rw [Array.getElem?_eq_none g] at hx; cases hx
 cases o with
 | box cs => obtain ⟨el, vs, h1, _⟩ := h; exact key _ h1
 | set l => obtain ⟨es, clock, h1, _⟩ := h; exact key _ h1
 | fbox _ _ => exact hre.elim
 | tok _ => exact hre.elim
 | map _ _ _ _ => obtain ⟨es, clock, h1, _⟩ := h; exact key _ h1
 | rows e ll hh => obtain ⟨_, off, cap, cells, el, _, _, h3, _⟩ := h; exact key _ h3
 | vec e l =>
   rcases h.2 with ⟨h1, _⟩ | ⟨off, cap, cells, el, _, _, h3, _⟩
   · exact (hre h1).elim
   · exact key _ h3
end
structure Grow (w w' : World) : Prop where
 sz : w.heap.size ≤ w'.heap.size
 os : w'.os = w.os
 tape : w'.tape = w.tape
 output : w'.output = w.output
 dr : w.drawn ≤ w'.drawn
theorem Grow.refl (w : World) : Grow w w := ⟨Nat.le_refl _, rfl, rfl, rfl, Nat.le_refl _⟩
theorem Grow.trans {w w' w'' : World} (h : Grow w w') (k : Grow w' w'') : Grow w w'' := ⟨Nat.le_trans h.sz k.sz, k.os.trans h.os, k.tape.trans h.tape, k.output.trans h.output, Nat.le_trans h.dr k.dr⟩
structure Inv (w0 : World) (Fz Pr0 : Nat → Prop) (Lo : Nat → RL) (R : Nat → RL) (Pr : Nat → Prop) (σ : St) (a : Act) (w : World) : Prop where
 tm : ∀ t, RepA w R Pr (σ.get t) (a.tmps.getD t undef)
 sz : σ.tmps.length ≤ a.tmps.size
 ob : ∀ κ o, σ.ob κ = some o → RepOb w R Pr κ o
 un : ∀ κ o, σ.ob κ = some o → real R κ o → ¬ Pr (R κ).blk ∧ ¬ Fz (R κ).blk
 ds : ∀ κ κ' o o', σ.ob κ = some o → σ.ob κ' = some o' → real R κ o → real R κ' o' → κ ≠ κ' → (R κ).blk ≠ (R κ').blk
 wt : ∀ t κ, κ ∈ (σ.get t).refs → σ.ob κ ≠ none
 wo : ∀ κ' o κ, σ.ob κ' = some o → κ ∈ o.refs → σ.ob κ ≠ none
 fz : ∀ b, Fz b → b < w0.heap.size ∧ w.heap[b]? = w0.heap[b]?
 pr : ∀ b, Pr b → b < w.heap.size
 po : ∀ b, b < w0.heap.size → Pr b → Pr0 b
 sm : Grow w0 w
 df : a.defers = []
 fx : ∀ κ, κ < σ.objs.length % 16 → R κ = Lo κ
 lm : ∀ κ o b, σ.ob κ = some o → Inn w R κ o b → ¬ Pr b ∧ ¬ Fz b ∧ ∀ κ' o', σ.ob κ' = some o' → (real R κ' o' → (R κ').blk ≠ b) ∧ (κ' ≠ κ → ¬ Inn w R κ' o' b)
def okK (d len : Nat) : Bool := d.blt len && (len % 16).ble d
theorem okK_lt {d len : Nat} (h : okK d len = true) : d < len := by
 simp only [okK, Bool.and_eq_true, Nat.blt_eq] at h
 exact h.1
theorem okK_ge {d len : Nat} (h : okK d len = true) : len % 16 ≤ d := by
 simp only [okK, Bool.and_eq_true, Nat.ble_eq] at h
 exact h.2
theorem getD_set_list {α : Type} (l : List α) (i j : Nat) (v d : α) : (l.set i v).getD j d = if i = j ∧ i < l.length then v else l.getD j d := by
 simp only [List.getD_eq_getElem?_getD, List.getElem?_set]
 by_cases h : i = j
 · subst h
   by_cases g : i < l.length
   · simp [g]
   · simp [g, List.getElem?_eq_none (Nat.le_of_not_lt g)]
 · simp [h]
section
variable {w0 : World} {Fz Pr0 : Nat → Prop} {Lo : Nat → RL} {R : Nat → RL} {Pr : Nat → Prop} {σ : St} {a : Act} {w : World}
theorem St.get_put (d t : Nat) (v : AV) : (σ.put (some d) v).get t = if d = t ∧ d < σ.tmps.length then v else σ.get t := getD_set_list _ _ _ _ _
theorem St.ob_put (d : Option Nat) (v : AV) (κ : Nat) : (σ.put d v).ob κ = σ.ob κ := by cases d <;> rfl
theorem St.ob_setOb (κ κ' : Nat) (o : Option Ob) : (σ.setOb κ o).ob κ' = if κ = κ' ∧ κ < σ.objs.length then o else σ.ob κ' := getD_set_list _ _ _ _ _
theorem St.get_setOb (κ t : Nat) (o : Option Ob) : (σ.setOb κ o).get t = σ.get t := rfl
theorem Act.getD_put (a : Act) (d t : Nat) (u : Value) : (a.put (some d) u).tmps.getD t undef = if d = t ∧ d < a.tmps.size then u else a.tmps.getD t undef := by
 simp only [Act.put, Array.getD_eq_getD_getElem?, Array.getElem?_setIfInBounds]
 by_cases h : d = t
 · subst h
   by_cases g : d < a.tmps.size
   · simp [g]
   · simp [g, Array.getElem?_eq_none (Nat.le_of_not_lt g)]
 · simp [h]
theorem Inv.put (h : Inv w0 Fz Pr0 Lo R Pr σ a w) (dst : Option Nat) (v : AV) (u : Value) (hv : RepA w R Pr v u) (hr : ∀ κ ∈ v.refs, σ.ob κ ≠ none) : Inv w0 Fz Pr0 Lo R Pr (σ.put dst v) (a.put dst u) w := by
 cases dst with
 | none => exact h
 | some d =>
   refine { h with tm := fun t => ?_, sz := ?_, wt := fun t κ hk => ?_, df := h.df, fx := h.fx, ob := h.ob, un := h.un, ds := h.ds, wo := h.wo, lm := h.lm }
   · rw [St.get_put, Act.getD_put]
     have := h.sz
     by_cases g : d = t ∧ d < σ.tmps.length
     · rw [if_pos g, if_pos ⟨g.1, by omega⟩]; exact hv
     · rw [if_neg g]
       by_cases g2 : d = t ∧ d < a.tmps.size
       · have : σ.get t = anyA := by
          obtain ⟨g3, g4⟩ := g2
          subst g3
          have g5 : ¬ d < σ.tmps.length := fun x => g ⟨rfl, x⟩
          unfold St.get
          rw [List.getD_eq_getElem?_getD, List.getElem?_eq_none (by omega)]; rfl
         rw [this]; trivial
       · rw [if_neg g2]; exact h.tm t
   · have := h.sz
     simp only [St.put, Act.put, List.length_set, Array.size_setIfInBounds]; exact this
   · rw [St.get_put] at hk
     rw [St.ob_put]
     split at hk
     · exact hr κ hk
     · exact h.wt t κ hk
theorem Inv.world (h : Inv w0 Fz Pr0 Lo R Pr σ a w) {w' : World} {Pr' : Nat → Prop} (hw : ∀ b, b < w.heap.size → w'.heap[b]? = w.heap[b]?) (hg : Grow w w') (hp : ∀ b, Pr b → Pr' b)
 (hp1 : ∀ b, Pr' b → b < w.heap.size → Pr b) (hp2 : ∀ b, Pr' b → b < w'.heap.size) : Inv w0 Fz Pr0 Lo R Pr' σ a w' := by
 have hs := hg.sz
 have hwp : ∀ b, Pr b → w'.heap[b]? = w.heap[b]? := fun b hb => hw b (h.pr b hb)
 refine { h with tm := fun t => RepA.move hwp hp (fun _ _ => rfl) (h.tm t), ob := fun κ o ho => ?_, un := fun κ o ho hre => ?_, fz := fun b hb => ?_, pr := hp2, po := fun b hb g => ?_, sm := h.sm.trans hg, lm := fun κ o b ho hb => ?_ }
 · exact RepOb.move hwp hp (fun hre => hw _ (RepOb.lt hre (h.ob κ o ho))) rfl (fun _ _ => rfl) (h.ob κ o ho) (fun b hb => hw b ((h.ob κ o ho).inn_lt hb))
 · have := h.un κ o ho hre
   exact ⟨fun g => this.1 (hp1 _ g (RepOb.lt hre (h.ob κ o ho))), this.2⟩
 · have := h.fz b hb
   have g := h.sm.sz
   exact ⟨this.1, (hw b (by omega)).trans this.2⟩
 · have g1 := h.sm.sz
   exact h.po b hb (hp1 b g (by omega))
 · have hbk : ∀ κ o, σ.ob κ = some o → real R κ o → w'.heap[(R κ).blk]? = w.heap[(R κ).blk]? := fun κ o ho hre => hw _ (RepOb.lt hre (h.ob κ o ho))
   have hb0 := hb.back rfl (hbk κ o ho)
   obtain ⟨a1, a2, a3⟩ := h.lm κ o b ho hb0
   refine ⟨fun z => a1 (hp1 b z ((h.ob κ o ho).inn_lt hb0)), a2, fun κ' o' ho' => ⟨(a3 κ' o' ho').1, fun hne hi => (a3 κ' o' ho').2 hne (hi.back rfl (hbk κ' o' ho'))⟩⟩
theorem Inv.same (h : Inv w0 Fz Pr0 Lo R Pr σ a w) {w' : World} (hw : w'.heap = w.heap) (hg : Grow w w') : Inv w0 Fz Pr0 Lo R Pr σ a w' :=
 h.world (fun b _ => by rw [hw]) hg (fun _ h => h) (fun _ h _ => h) (fun b hb => by rw [hw]; exact h.pr b hb)
theorem Inv.add (h : Inv w0 Fz Pr0 Lo R Pr σ a w) (d : Nat) (o : Ob) (loc : RL) (hd : σ.ob d = none) (hok : okK d σ.objs.length = true) {R' : Nat → RL} (hR : R' = fun κ => if κ = d then loc else R κ)
 (ho : RepOb w R' Pr d o) (hor : ∀ κ ∈ o.refs, σ.ob κ ≠ none) (hun : real R' d o → ¬ Pr loc.blk ∧ ¬ Fz loc.blk ∧ ∀ κ o', σ.ob κ = some o' → (real R κ o' → (R κ).blk ≠ loc.blk) ∧ ¬ Inn w R κ o' loc.blk) (hni : ∀ b, ¬ Inn w R' d o b := by exact fun _ h => h) :
 Inv w0 Fz Pr0 Lo R' Pr (σ.setOb d (some o)) a w := by
 have hlt := okK_lt hok
 have hfx : ∀ κ, κ < (σ.setOb d (some o)).objs.length % 16 → R' κ = Lo κ := fun κ hκ => by
  have hκ : κ < σ.objs.length % 16 := by simpa [St.setOb] using hκ
  have hd0 := okK_ge hok
  rw [hR]; simp only; rw [if_neg (by omega)]; exact h.fx κ hκ
 have hRd : R' d = loc := by rw [hR]; simp
 have hRn : ∀ κ, κ ≠ d → R' κ = R κ := fun κ hk => by rw [hR]; simp [hk]
 have hpres : ∀ κ, σ.ob κ ≠ none → κ ≠ d := fun κ hk e => hk (e ▸ hd)
 have hob : ∀ κ x, (σ.setOb d (some o)).ob κ = some x → (κ = d ∧ x = o) ∨ (κ ≠ d ∧ σ.ob κ = some x) := fun κ x hx => by
  rw [St.ob_setOb] at hx
  by_cases g : d = κ
  · rw [if_pos ⟨g, hlt⟩] at hx; cases hx; exact .inl ⟨g.symm, rfl⟩
  · rw [if_neg (fun z => g z.1)] at hx; exact .inr ⟨fun z => g z.symm, hx⟩
 have hne : ∀ κ, σ.ob κ ≠ none → (σ.setOb d (some o)).ob κ ≠ none := fun κ hk => by
  rw [St.ob_setOb, if_neg (fun z => hpres κ hk z.1.symm)]; exact hk
 have hreal : ∀ κ x, κ ≠ d → real R' κ x → real R κ x := fun κ x hk hx => by
  cases x with
  | box _ => trivial
  | set _ => trivial
  | rows _ _ _ => trivial
  | fbox _ _ => exact hx
  | tok _ => exact hx
  | map _ _ _ _ => trivial
  | vec _ _ => simp only [real] at hx ⊢; rw [hRn κ hk] at hx; exact hx
 have hreal' : ∀ κ x, κ ≠ d → real R κ x → real R' κ x := fun κ x hk hx => by
  cases x with
  | box _ => trivial
  | set _ => trivial
  | rows _ _ _ => trivial
  | fbox _ _ => exact hx
  | tok _ => exact hx
  | map _ _ _ _ => trivial
  | vec _ _ => simp only [real] at hx ⊢; rw [hRn κ hk]; exact hx
 refine { h with tm := fun t => ?_, ob := fun κ x hx => ?_, un := fun κ x hx hre => ?_, ds := fun κ κ' x x' hx hx' hre hre' hkk => ?_, wt := fun t κ hk => hne κ (h.wt t κ hk), wo := fun κ' x κ hx hk => ?_, sz := h.sz, fx := hfx, lm := fun κ x b hx hb => ?_ }
 · exact RepA.move (fun _ _ => rfl) (fun _ h => h) (fun κ hk => hRn κ (hpres κ (h.wt t κ hk))) (h.tm t)
 · rcases hob κ x hx with ⟨rfl, rfl⟩ | ⟨hk, hx⟩
   · exact ho
   · exact RepOb.move (fun _ _ => rfl) (fun _ h => h) (fun _ => rfl) (hRn κ hk) (fun κ1 hk1 => hRn κ1 (hpres κ1 (h.wo κ x κ1 hx hk1))) (h.ob κ x hx)
 · rcases hob κ x hx with ⟨rfl, rfl⟩ | ⟨hk, hx⟩
   · rw [hRd]; exact ⟨(hun hre).1, (hun hre).2.1⟩
   · rw [hRn κ hk]; exact h.un κ x hx (hreal κ x hk hre)
 · rcases hob κ x hx with ⟨rfl, rfl⟩ | ⟨hk, hy⟩
   · rcases hob κ' x' hx' with ⟨rfl, rfl⟩ | ⟨hk', hy'⟩
     · exact (hkk rfl).elim
     · rw [hRd, hRn κ' hk']; exact ((hun hre).2.2 κ' x' hy').1 (hreal κ' x' hk' hre') |>.symm
   · rcases hob κ' x' hx' with ⟨rfl, rfl⟩ | ⟨hk', hy'⟩
     · rw [hRd, hRn κ hk]; exact ((hun hre').2.2 κ x hy).1 (hreal κ x hk hre)
     · rw [hRn κ hk, hRn κ' hk']; exact h.ds κ κ' x x' hy hy' (hreal κ x hk hre) (hreal κ' x' hk' hre') hkk
 · rcases hob κ' x hx with ⟨rfl, rfl⟩ | ⟨hk', hx⟩
   · exact hne κ (hor κ hk)
   · exact hne κ (h.wo κ' x κ hx hk)
 · rcases hob κ x hx with ⟨rfl, rfl⟩ | ⟨hk, hy⟩
   · exact (hni b hb).elim
   · have hb0 := hb.back (w := w) (hRn κ hk) (fun _ => rfl) (fun κ1 hk1 => hRn κ1 (hpres κ1 (h.wo κ x κ1 hy hk1)))
     obtain ⟨a1, a2, a3⟩ := h.lm κ x b hy hb0
     refine ⟨a1, a2, fun κ' x' hx' => ?_⟩
     rcases hob κ' x' hx' with ⟨rfl, rfl⟩ | ⟨hk', hy'⟩
     · refine ⟨fun hre e => ?_, fun _ hi => hni b hi⟩
       rw [hRd] at e
       exact ((hun hre).2.2 κ x hy).2 (e ▸ hb0)
     · refine ⟨fun hre => by rw [hRn κ' hk']; exact (a3 κ' x' hy').1 (hreal κ' x' hk' hre), fun hne hi => (a3 κ' x' hy').2 hne (hi.back (w := w) (hRn κ' hk') (fun _ => rfl) (fun κ1 hk1 => hRn κ1 (hpres κ1 (h.wo κ' x' κ1 hy' hk1))))⟩
theorem Inv.upd (h : Inv w0 Fz Pr0 Lo R Pr σ a w) (κ : Nat) (o o' : Ob) (hκ : σ.ob κ = some o) {w' : World} {R' : Nat → RL} (hR : ∀ κ', κ' ≠ κ → R' κ' = R κ')
 (hk : R' κ = R κ ∨ ((∀ t, κ ∉ (σ.get t).refs) ∧ (∀ κ' x, σ.ob κ' = some x → κ ∉ x.refs) ∧ okK κ σ.objs.length = true))
 (hw : ∀ b, b < w.heap.size → (real R κ o → b ≠ (R κ).blk) → w'.heap[b]? = w.heap[b]?) (hg : Grow w w')
 (hb : real R' κ o' → w.heap.size ≤ (R' κ).blk ∨ (real R κ o ∧ (R' κ).blk = (R κ).blk))
 (ho : RepOb w' R' Pr κ o') (hor : ∀ κ' ∈ o'.refs, σ.ob κ' ≠ none) (hio : ∀ b, Inn w' R' κ o' b → ¬ Pr b ∧ ¬ Fz b ∧ (R' κ).blk ≠ b ∧ ∀ κ1 o1, κ1 ≠ κ → σ.ob κ1 = some o1 → (real R κ1 o1 → (R κ1).blk ≠ b) ∧ ¬ Inn w R κ1 o1 b := by exact fun _ h => h.elim) :
 Inv w0 Fz Pr0 Lo R' Pr (σ.setOb κ (some o')) a w' := by
 have hs := hg.sz
 have hlt : κ < σ.objs.length := by
  rcases Nat.lt_or_ge κ σ.objs.length with g | g
  · exact g
  · unfold St.ob at hκ; rw [List.getD_eq_getElem?_getD, List.getElem?_eq_none g] at hκ; cases hκ
 have hob : ∀ κ1 x, (σ.setOb κ (some o')).ob κ1 = some x → (κ1 = κ ∧ x = o') ∨ (κ1 ≠ κ ∧ σ.ob κ1 = some x) := fun κ1 x hx => by
  rw [St.ob_setOb] at hx
  by_cases g : κ = κ1
  · rw [if_pos ⟨g, hlt⟩] at hx; cases hx; exact .inl ⟨g.symm, rfl⟩
  · rw [if_neg (fun z => g z.1)] at hx; exact .inr ⟨fun z => g z.symm, hx⟩
 have hne : ∀ κ1, σ.ob κ1 ≠ none → (σ.setOb κ (some o')).ob κ1 ≠ none := fun κ1 hk1 => by
  rw [St.ob_setOb]
  split
  · simp
  · exact hk1
 have hRt : ∀ t, ∀ κ1 ∈ (σ.get t).refs, R' κ1 = R κ1 := fun t κ1 h1 => by
  by_cases e : κ1 = κ
  · subst e
    rcases hk with hk | hk
    · exact hk
    · exact (hk.1 t h1).elim
  · exact hR κ1 e
 have hRo : ∀ κ2 x, σ.ob κ2 = some x → ∀ κ1 ∈ x.refs, R' κ1 = R κ1 := fun κ2 x hx κ1 h1 => by
  by_cases e : κ1 = κ
  · subst e
    rcases hk with hk | hk
    · exact hk
    · exact (hk.2.1 κ2 x hx h1).elim
  · exact hR κ1 e
 have hpr : ∀ b, Pr b → w'.heap[b]? = w.heap[b]? := fun b hb1 => hw b (h.pr b hb1) (fun hre e => (h.un κ o hκ hre).1 (e ▸ hb1))
 have hreal : ∀ κ1 x, κ1 ≠ κ → real R' κ1 x → real R κ1 x := fun κ1 x hk1 hx => by
  cases x with
  | box _ => trivial
  | set _ => trivial
  | rows _ _ _ => trivial
  | fbox _ _ => exact hx
  | tok _ => exact hx
  | map _ _ _ _ => trivial
  | vec _ _ => simp only [real] at hx ⊢; rw [hR κ1 hk1] at hx; exact hx
 have hgr := h.sm.sz
 have hfx : ∀ κ', κ' < (σ.setOb κ (some o')).objs.length % 16 → R' κ' = Lo κ' := fun κ' hκ' => by
  have hk2 : κ' < σ.objs.length % 16 := by simpa [St.setOb] using hκ'
  by_cases e : κ' = κ
  · subst e
    rcases hk with hk | hk
    · rw [hk]; exact h.fx _ hk2
    · have := okK_ge hk.2.2; omega
  · rw [hR κ' e]; exact h.fx κ' hk2
 refine { h with lm := fun κ1 x b hx hb1 => ?_, fx := hfx, tm := fun t => RepA.move hpr (fun _ h => h) (hRt t) (h.tm t), ob := fun κ1 x hx => ?_, un := fun κ1 x hx hre => ?_, ds := fun κ1 κ2 x x' hx hx' hre hre' hkk => ?_, wt := fun t κ1 hk1 => hne κ1 (h.wt t κ1 hk1), wo := fun κ2 x κ1 hx hk1 => ?_, sz := h.sz, fz := fun b hb1 => ?_, pr := fun b hb1 => by have := h.pr b hb1; omega, sm := h.sm.trans hg }
 · rcases hob κ1 x hx with ⟨rfl, rfl⟩ | ⟨hk1, hx⟩
   · exact ho
   · exact RepOb.move hpr (fun _ h => h) (fun hre => hw _ (RepOb.lt hre (h.ob κ1 x hx)) (fun hre2 => h.ds κ1 κ x o hx hκ hre hre2 hk1)) (hR κ1 hk1) (hRo κ1 x hx) (h.ob κ1 x hx) (fun b hb1 => hw b ((h.ob κ1 x hx).inn_lt hb1) (fun hre2 e => ((h.lm κ1 x b hx hb1).2.2 κ o hκ).1 hre2 e.symm))
 · rcases hob κ1 x hx with ⟨rfl, rfl⟩ | ⟨hk1, hx⟩
   · rcases hb hre with g | ⟨g1, g2⟩
     · exact ⟨fun z => by have := h.pr _ z; omega, fun z => by have := (h.fz _ z).1; omega⟩
     · rw [g2]; exact h.un κ1 o hκ g1
   · rw [hR κ1 hk1]; exact h.un κ1 x hx (hreal κ1 x hk1 hre)
 · rcases hob κ1 x hx with ⟨rfl, rfl⟩ | ⟨hk1, hy⟩
   · rcases hob κ2 x' hx' with ⟨rfl, rfl⟩ | ⟨hk2, hy'⟩
     · exact (hkk rfl).elim
     · rw [hR κ2 hk2]
       have hre2 := hreal κ2 x' hk2 hre'
       rcases hb hre with g | ⟨g1, g2⟩
       · have := RepOb.lt hre2 (h.ob κ2 x' hy'); omega
       · rw [g2]; exact h.ds κ1 κ2 o x' hκ hy' g1 hre2 hkk
   · rcases hob κ2 x' hx' with ⟨rfl, rfl⟩ | ⟨hk2, hy'⟩
     · rw [hR κ1 hk1]
       have hre1 := hreal κ1 x hk1 hre
       rcases hb hre' with g | ⟨g1, g2⟩
       · have := RepOb.lt hre1 (h.ob κ1 x hy); omega
       · rw [g2]; exact h.ds κ1 κ2 x o hy hκ hre1 g1 hkk
     · rw [hR κ1 hk1, hR κ2 hk2]; exact h.ds κ1 κ2 x x' hy hy' (hreal κ1 x hk1 hre) (hreal κ2 x' hk2 hre') hkk
 · rcases hob κ2 x hx with ⟨rfl, rfl⟩ | ⟨hk2, hx⟩
   · exact hne κ1 (hor κ1 hk1)
   · exact hne κ1 (h.wo κ2 x κ1 hx hk1)
 · have := h.fz b hb1
   refine ⟨this.1, (hw b (by omega) (fun hre e => (h.un κ o hκ hre).2 (e ▸ hb1))).trans this.2⟩
 · have hbk : ∀ κ2 y, κ2 ≠ κ → σ.ob κ2 = some y → real R κ2 y → w'.heap[(R κ2).blk]? = w.heap[(R κ2).blk]? := fun κ2 y hk2 hy hre => hw _ (RepOb.lt hre (h.ob κ2 y hy)) (fun hre2 => h.ds κ2 κ y o hy hκ hre hre2 hk2)
   rcases hob κ1 x hx with ⟨rfl, rfl⟩ | ⟨hk1, hx1⟩
   · obtain ⟨a1, a2, a3, a4⟩ := hio b hb1
     refine ⟨a1, a2, fun κ2 y hy => ?_⟩
     rcases hob κ2 y hy with ⟨rfl, rfl⟩ | ⟨hk2, hy⟩
     · exact ⟨fun _ => a3, fun hne => (hne rfl).elim⟩
     · obtain ⟨c1, c2⟩ := a4 κ2 y hk2 hy
       exact ⟨fun hre => by rw [hR κ2 hk2]; exact c1 (hreal κ2 y hk2 hre), fun _ hi => c2 (hi.back (hR κ2 hk2) (hbk κ2 y hk2 hy) (hRo κ2 y hy))⟩
   · have hb0 := hb1.back (hR κ1 hk1) (hbk κ1 x hk1 hx1) (hRo κ1 x hx1)
     obtain ⟨a1, a2, a3⟩ := h.lm κ1 x b hx1 hb0
     refine ⟨a1, a2, fun κ2 y hy => ?_⟩
     rcases hob κ2 y hy with ⟨rfl, rfl⟩ | ⟨hk2, hy⟩
     · refine ⟨fun hre e => ?_, fun hne hi => ?_⟩
       · rcases hb hre with g | ⟨g1, g2⟩
         · have := (h.ob κ1 x hx1).inn_lt hb0; omega
         · exact (a3 κ2 o hκ).1 g1 (g2 ▸ e)
       · exact ((hio b hi).2.2.2 κ1 x hk1 hx1).2 hb0
     · exact ⟨fun hre => by rw [hR κ2 hk2]; exact (a3 κ2 y hy).1 (hreal κ2 y hk2 hre), fun hne hi => (a3 κ2 y hy).2 hne (hi.back (hR κ2 hk2) (hbk κ2 y hk2 hy) (hRo κ2 y hy))⟩
theorem Inv.weak (h : Inv w0 Fz Pr0 Lo R Pr σ a w) (σ' : St) (hl : σ'.tmps.length ≤ a.tmps.size) (hol : σ'.objs.length = σ.objs.length) (ht : ∀ t u, RepA w R Pr (σ.get t) u → RepA w R Pr (σ'.get t) u)
 (ho : ∀ κ o', σ'.ob κ = some o' → ∃ o, σ.ob κ = some o ∧ (RepOb w R Pr κ o → RepOb w R Pr κ o') ∧ (real R κ o' → real R κ o) ∧ ∀ b, Inn w R κ o' b → Inn w R κ o b)
 (hwt : ∀ t κ, κ ∈ (σ'.get t).refs → σ'.ob κ ≠ none) (hwo : ∀ κ' o κ, σ'.ob κ' = some o → κ ∈ o.refs → σ'.ob κ ≠ none) : Inv w0 Fz Pr0 Lo R Pr σ' a w := by
 refine { h with fx := fun κ hκ => h.fx κ (by rw [← hol]; exact hκ), tm := fun t => ht t _ (h.tm t), sz := hl, ob := fun κ o' hκ => ?_, un := fun κ o' hκ hre => ?_, ds := fun κ κ' x x' hx hx' hre hre' hkk => ?_, wt := hwt, wo := hwo, lm := fun κ o' b hκ hb => ?_ }
 · obtain ⟨o, h1, h2, _⟩ := ho κ o' hκ
   exact h2 (h.ob κ o h1)
 · obtain ⟨o, h1, _, h3, _⟩ := ho κ o' hκ
   exact h.un κ o h1 (h3 hre)
 · obtain ⟨o, h1, _, h3, _⟩ := ho κ x hx
   obtain ⟨o2, h4, _, h6, _⟩ := ho κ' x' hx'
   exact h.ds κ κ' o o2 h1 h4 (h3 hre) (h6 hre') hkk
 · obtain ⟨o, h1, _, _, h4⟩ := ho κ o' hκ
   obtain ⟨a1, a2, a3⟩ := h.lm κ o b h1 (h4 b hb)
   refine ⟨a1, a2, fun κ2 x hx => ?_⟩
   obtain ⟨o2, g1, _, g3, g4⟩ := ho κ2 x hx
   exact ⟨fun hre => (a3 κ2 o2 g1).1 (g3 hre), fun hne hi => (a3 κ2 o2 g1).2 hne (g4 b hi)⟩
end
def setsL (l : List (Option Ob)) (us : List (Nat × Ob)) : List (Option Ob) := us.foldl (fun l p => l.set p.1 (some p.2)) l
def St.setObs (σ : St) (us : List (Nat × Ob)) : St := ⟨σ.tmps, setsL σ.objs us⟩
theorem setsL_len : ∀ (us : List (Nat × Ob)) (l : List (Option Ob)), (setsL l us).length = l.length
 | [], _ => rfl
 | (κ, o) :: us, l => by
   show (setsL (l.set κ (some o)) us).length = _
   rw [setsL_len us]; simp
theorem setsL_set : ∀ (us : List (Nat × Ob)) (l : List (Option Ob)) (κ : Nat) (o : Option Ob), κ ∉ us.map (·.1) → setsL (l.set κ o) us = (setsL l us).set κ o
 | [], _, _, _, _ => rfl
 | (κ', o') :: us, l, κ, o, h => by
   show setsL ((l.set κ o).set κ' (some o')) us = (setsL (l.set κ' (some o')) us).set κ o
   have h1 : κ ≠ κ' := fun e => h (by simp [e])
   rw [List.set_comm _ _ h1, setsL_set us _ κ o (fun e => h (by simp only [List.map_cons, List.mem_cons]; exact .inr e))]
theorem setsL_comm : ∀ (us vs : List (Nat × Ob)) (l : List (Option Ob)), (∀ κ ∈ us.map (·.1), κ ∉ vs.map (·.1)) → setsL (setsL l us) vs = setsL (setsL l vs) us
 | [], _, _, _ => rfl
 | (κ, o) :: us, vs, l, h => by
   show setsL (setsL (l.set κ (some o)) us) vs = setsL ((setsL l vs).set κ (some o)) us
   rw [setsL_comm us vs _ (fun κ' hκ => h κ' (by simp only [List.map_cons, List.mem_cons]; exact .inr hκ)), setsL_set vs l κ _ (h κ (by simp))]
theorem setsL_get : ∀ (us : List (Nat × Ob)) (l : List (Option Ob)) (κ : Nat), κ ∉ us.map (·.1) → (setsL l us).getD κ none = l.getD κ none
 | [], _, _, _ => rfl
 | (κ', o) :: us, l, κ, h => by
   show (setsL (l.set κ' (some o)) us).getD κ none = _
   have h1 : ¬ (κ' = κ ∧ κ' < l.length) := fun e => h (by simp [e.1])
   rw [setsL_get us _ κ (fun e => h (by simp only [List.map_cons, List.mem_cons]; exact .inr e)), getD_set_list, if_neg h1]
theorem ob_setObs (σ : St) (us : List (Nat × Ob)) (κ : Nat) (h : κ ∉ us.map (·.1)) : (σ.setObs us).ob κ = σ.ob κ := setsL_get us σ.objs κ h
theorem setsL_mem : ∀ (us : List (Nat × Ob)) (l : List (Option Ob)) (κ : Nat) (o : Ob), (κ, o) ∈ us → (us.map (·.1)).Nodup → κ < l.length → (setsL l us).getD κ none = some o
 | (κ', o') :: us, l, κ, o, h, hnd, hl => by
   show (setsL (l.set κ' (some o')) us).getD κ none = _
   simp only [List.map_cons, List.nodup_cons] at hnd
   rcases List.mem_cons.1 h with e | e
   · obtain ⟨rfl, rfl⟩ : κ = κ' ∧ o = o' := by simpa using e
     rw [setsL_get us _ κ hnd.1, getD_set_list, if_pos ⟨rfl, hl⟩]
   · exact setsL_mem us _ κ o e hnd.2 (by simpa using hl)
theorem ob_lt' {σ : St} {κ : Nat} (h : σ.ob κ ≠ none) : κ < σ.objs.length := by
 rcases Nat.lt_or_ge κ σ.objs.length with g | g
 · exact g
 · exfalso; apply h; unfold St.ob; rw [List.getD_eq_getElem?_getD, List.getElem?_eq_none g]; rfl
section
variable {w0 : World} {Fz Pr0 : Nat → Prop} {Lo : Nat → RL} {R : Nat → RL} {Pr : Nat → Prop} {σ : St} {a : Act} {w : World}
theorem Inv.lent (h : Inv w0 Fz Pr0 Lo R Pr σ a w) (us : List (Nat × Ob)) {w' : World} {Pr' : Nat → Prop} (hnd : (us.map (·.1)).Nodup)
 (hus : ∀ κ o', (κ, o') ∈ us → ∃ o, σ.ob κ = some o ∧ (real R κ o' → real R κ o) ∧ RepOb w' R Pr' κ o' ∧ (∀ κ' ∈ o'.refs, σ.ob κ' ≠ none) ∧ ∀ b, ¬ Inn w' R κ o' b)
 (hw : ∀ b, b < w.heap.size → (∀ κ ∈ us.map (·.1), ∀ o, σ.ob κ = some o → real R κ o → b ≠ (R κ).blk) → w'.heap[b]? = w.heap[b]?)
 (hg : Grow w w') (hp : ∀ b, Pr b → Pr' b) (hp1 : ∀ b, Pr' b → b < w.heap.size → Pr b) (hp2 : ∀ b, Pr' b → b < w'.heap.size) :
 Inv w0 Fz Pr0 Lo R Pr' (σ.setObs us) a w' := by
 have hs := hg.sz
 have hgr := h.sm.sz
 have hpr : ∀ b, Pr b → w'.heap[b]? = w.heap[b]? := fun b hb => hw b (h.pr b hb) (fun κ _ o ho hre e => (h.un κ o ho hre).1 (e ▸ hb))
 have hob : ∀ κ x, (σ.setObs us).ob κ = some x → (κ, x) ∈ us ∨ (κ ∉ us.map (·.1) ∧ σ.ob κ = some x) := fun κ x hx => by
  by_cases g : κ ∈ us.map (·.1)
  · obtain ⟨⟨κ1, o1⟩, h1, h2⟩ := List.mem_map.1 g
    simp only at h2
    subst h2
    obtain ⟨o, h3, _⟩ := hus _ o1 h1
    have := setsL_mem us σ.objs _ o1 h1 hnd (ob_lt' (by rw [h3]; simp))
    have hx' : (setsL σ.objs us).getD κ1 none = some x := hx
    rw [this] at hx'
    cases hx'; exact .inl h1
  · rw [ob_setObs σ us κ g] at hx; exact .inr ⟨g, hx⟩
 have hne : ∀ κ, σ.ob κ ≠ none → (σ.setObs us).ob κ ≠ none := fun κ hk => by
  by_cases g : κ ∈ us.map (·.1)
  · obtain ⟨⟨κ1, o1⟩, h1, h2⟩ := List.mem_map.1 g
    simp only at h2
    subst h2
    have := setsL_mem us σ.objs _ o1 h1 hnd (ob_lt' hk)
    intro hx
    have hx' : (setsL σ.objs us).getD κ1 none = none := hx
    rw [this] at hx'; cases hx'
  · rw [ob_setObs σ us κ g]; exact hk
 have hold : ∀ κ x, (σ.setObs us).ob κ = some x → real R κ x → ∃ o, σ.ob κ = some o ∧ real R κ o := fun κ x hx hre => by
  rcases hob κ x hx with g | g
  · obtain ⟨o, h1, h2, _⟩ := hus κ x g
    exact ⟨o, h1, h2 hre⟩
  · exact ⟨x, g.2, hre⟩
 refine { h with lm := fun κ x b hx hb => ?_, fx := fun κ hκ => h.fx κ (by simpa [St.setObs, setsL_len] using hκ), tm := fun t => RepA.move hpr hp (fun _ _ => rfl) (h.tm t), ob := fun κ x hx => ?_, un := fun κ x hx hre => ?_, ds := fun κ1 κ2 x x' hx hx' hre hre' hkk => ?_, wt := fun t κ hk => hne κ (h.wt t κ hk), wo := fun κ' x κ hx hk => ?_, sz := h.sz, fz := fun b hb => ?_, pr := hp2, po := fun b hb hb' => h.po b hb (hp1 b hb' (by omega)), sm := h.sm.trans hg }
 · rcases hob κ x hx with g | ⟨g1, g2⟩
   · obtain ⟨_, _, _, k, _⟩ := hus κ x g; exact k
   · exact RepOb.move hpr hp (fun hre => hw _ (RepOb.lt hre (h.ob κ x g2)) (fun κ1 hκ1 o1 ho1 hre1 e => h.ds κ κ1 x o1 g2 ho1 hre hre1 (fun z => g1 (z ▸ hκ1)) e)) rfl (fun _ _ => rfl) (h.ob κ x g2) (fun b hb => hw b ((h.ob κ x g2).inn_lt hb) (fun κ1 _ o1 ho1 hre1 e => ((h.lm κ x b g2 hb).2.2 κ1 o1 ho1).1 hre1 e.symm))
 · obtain ⟨o, h1, h2⟩ := hold κ x hx hre
   have := h.un κ o h1 h2
   exact ⟨fun z => this.1 (hp1 _ z (RepOb.lt h2 (h.ob κ o h1))), this.2⟩
 · obtain ⟨o, h1, h2⟩ := hold κ1 x hx hre
   obtain ⟨o2, h3, h4⟩ := hold κ2 x' hx' hre'
   exact h.ds κ1 κ2 o o2 h1 h3 h2 h4 hkk
 · rcases hob κ' x hx with g | ⟨g1, g2⟩
   · obtain ⟨_, _, _, _, k, _⟩ := hus κ' x g; exact hne κ (k κ hk)
   · exact hne κ (h.wo κ' x κ g2 hk)
 · have := h.fz b hb
   exact ⟨this.1, (hw b (by omega) (fun κ _ o ho hre e => (h.un κ o ho hre).2 (e ▸ hb))).trans this.2⟩
 · have hbk : ∀ κ2 y, κ2 ∉ us.map (·.1) → σ.ob κ2 = some y → real R κ2 y → w'.heap[(R κ2).blk]? = w.heap[(R κ2).blk]? := fun κ2 y hk2 hy hre => hw _ (RepOb.lt hre (h.ob κ2 y hy)) (fun κ1 hκ1 o1 ho1 hre1 e => h.ds κ2 κ1 y o1 hy ho1 hre hre1 (fun z => hk2 (z ▸ hκ1)) e)
   rcases hob κ x hx with g | ⟨g1, g2⟩
   · obtain ⟨_, _, _, _, _, k⟩ := hus κ x g; exact (k b hb).elim
   · have hb0 := hb.back rfl (hbk κ x g1 g2)
     obtain ⟨a1, a2, a3⟩ := h.lm κ x b g2 hb0
     refine ⟨fun z => a1 (hp1 b z ((h.ob κ x g2).inn_lt hb0)), a2, fun κ2 y hy => ?_⟩
     rcases hob κ2 y hy with m | ⟨m1, m2⟩
     · obtain ⟨o2, q1, q2, _, _, q5⟩ := hus κ2 y m
       exact ⟨fun hre => (a3 κ2 o2 q1).1 (q2 hre), fun _ hi => q5 b hi⟩
     · exact ⟨(a3 κ2 y m2).1, fun hne hi => (a3 κ2 y m2).2 hne (hi.back rfl (hbk κ2 y m1 m2))⟩
end
end Go.Rx
