/- Reflection, part J: what the operations that make or write objects do in the machine. -/
import Derived.Test.YtollcjadobpfdaaRxI
namespace Go.Rx
set_option linter.unusedVariables false
set_option linter.unusedSimpArgs false
set_option linter.unusedSectionVars false
section
variable {w0 : World} {Fz Pr0 : Nat → Prop} {Lo : Nat → RL} {R : Nat → RL} {Pr : Nat → Prop} {σ : St} {a : Act} {w : World}
theorem blt_lt {a b : Nat} (h : a.blt b = true) : a < b := by
 rw [Nat.blt_eq] at h; exact h
theorem mkNew_spec {ob : Nat → Option Ob} {len d : Nat} {conds : List DP} {acc : List Nat} {v : C} {o : Ob} {e : Eff} (h : mkNew ob len d conds acc v o = some e) : okK d len = true ∧ ob d = none ∧ e = ⟨conds, d :: acc, oneA v, none, some (d, o)⟩ := by
 unfold mkNew at h
 split at h
 · rename_i h1 h2
   exact ⟨h1, h2, (Option.some.inj h).symm⟩
 · cases h
theorem Inv.newOb (h : Inv w0 Fz Pr0 Lo R Pr σ a w) {d : Nat} {o : Ob} {loc : RL} {w' : World} (hd : σ.ob d = none) (hok : okK d σ.objs.length = true) (hw : ∀ b, b < w.heap.size → w'.heap[b]? = w.heap[b]?) (hg : Grow w w')
 (hb : real (fun κ => if κ = d then loc else R κ) d o → loc.blk = w.heap.size) (ho : ∀ R' : Nat → RL, R' d = loc → (∀ κ, σ.ob κ ≠ none → R' κ = R κ) → RepOb w' R' Pr d o) (hor : ∀ κ ∈ o.refs, σ.ob κ ≠ none) (dst : Option Nat) (v : C) (u : Value)
 (hv : ∀ R' : Nat → RL, R' d = loc → RepC w' R' Pr v u) (hvr : v.refs = [d]) (hni : ∀ (R' : Nat → RL) b, R' d = loc → ¬ Inn w' R' d o b := by exact fun _ _ _ h => h) :
 ∃ R', Inv w0 Fz Pr0 Lo R' Pr ((σ.setOb d (some o)).put dst (oneA v)) (a.put dst u) w' := by
 have hpr : ∀ b, Pr b → b < w.heap.size := h.pr
 have hs := hg.sz
 have h1 := h.world (Pr' := Pr) hw hg (fun _ h => h) (fun _ h _ => h) (fun b hb => by have := h.pr b hb; omega)
 refine ⟨fun κ => if κ = d then loc else R κ, ?_⟩
 have hRd : (fun κ => if κ = d then loc else R κ) d = loc := by simp
 have hlt := okK_lt hok
 have h2 := h1.add d o loc hd hok rfl (ho _ hRd (fun κ hκ => by have : κ ≠ d := fun e => hκ (e ▸ hd); simp [this])) hor (fun hre => by
  have e := hb hre
  refine ⟨fun z => by have := hpr _ z; omega, fun z => by have := (h.fz _ z).1; have := h.sm.sz; omega, fun κ o' hκ => ⟨fun hre' => by have := RepOb.lt hre' (h.ob κ o' hκ); omega, fun hi => by have := (h.ob κ o' hκ).inn_lt (hi.back (w := w) (R := R) rfl (fun hre2 => hw _ (RepOb.lt hre2 (h.ob κ o' hκ)))); omega⟩⟩) (hni _ · hRd)
 refine h2.put dst (oneA v) u (hv _ hRd) (fun κ hκ => ?_)
 have : κ = d := by
  have h3 : κ ∈ v.refs := hκ
  rw [hvr] at h3; simpa using h3
 subst this
 rw [St.ob_setOb, if_pos ⟨rfl, hlt⟩]; simp
theorem alloc_old (w : World) (x : Obj) (b : Nat) (h : b < w.heap.size) : (w.alloc x).heap[b]? = w.heap[b]? := by
 simp only [World.alloc, Array.getElem?_push]
 simp [Nat.ne_of_lt h]
theorem alloc_new (w : World) (x : Obj) : (w.alloc x).heap[w.heap.size]? = some x := by
 show (w.heap.push x)[w.heap.size]? = some x
 simp
def constA : Value → AV
 | .agg cs => .cp (.agg (cs.toList.map cOf))
 | .tuple _ => anyA
 | v => .cp (.one (cOf v))
theorem constA_rep (w : World) (R : Nat → RL) (Pr : Nat → Prop) (v : Value) : RepA w R Pr (constA v) v := by
 unfold constA
 split
 · rename_i cs
   refine ⟨cs, rfl, ?_⟩
   generalize cs.toList = l
   induction l with
   | nil => trivial
   | cons x l ih => exact ⟨rep_cOf _ _ _ _, ih⟩
 · trivial
 · exact rep_cOf _ _ _ _
theorem constA_refs (v : Value) : (constA v).refs = [] := by
 unfold constA
 split
 · rename_i cs
   simp only [AV.refs, Cp.refs]
   generalize cs.toList = l
   induction l with
   | nil => rfl
   | cons x l ih => simp only [List.map_cons, List.flatMap_cons, refs_cOf, List.nil_append]; exact ih
 · rfl
 · exact refs_cOf _
def St.ρ (σ : St) : Operand → AV
 | .tmp t => σ.get t
 | .const v => constA v
 | .func f => oneA (.fn f [])
 | _ => anyA
theorem Inv.opd (h : Inv w0 Fz Pr0 Lo R Pr σ a w) (x : Operand) : RepA w R Pr (σ.ρ x) (a.eval x) := by
 cases x with
 | tmp t => exact h.tm t
 | const v => exact constA_rep w R Pr v
 | func f => rfl
 | global g => trivial
theorem St.ρ_refs (σ : St) (x : Operand) {κ : Nat} (h : κ ∈ (σ.ρ x).refs) : ∃ t, x = .tmp t ∧ κ ∈ (σ.get t).refs := by
 cases x with
 | tmp t => exact ⟨t, rfl, h⟩
 | const v => simp only [St.ρ, constA_refs] at h; cases h
 | func f => cases h
 | global g => cases h
theorem Inv.opr (h : Inv w0 Fz Pr0 Lo R Pr σ a w) (x : Operand) {κ : Nat} (hk : κ ∈ (σ.ρ x).refs) : σ.ob κ ≠ none := by
 obtain ⟨t, _, h2⟩ := St.ρ_refs σ x hk
 exact h.wt t κ h2
variable {P : Program} {T : Tab} (hT : TabOK P T) {Y : Tys}
def Did (P : Program) (w0 : World) (Fz Pr0 : Nat → Prop) (Lo : Nat → RL) (Pr : Nat → Prop) (σ' : St) (a : Act) (w : World) (dst : Option Nat) (s : Sem Next) : Prop :=
 ∃ u w' R', (s.run P w = .ok (.value u) w' ∨ (s.run P w = .ok .skip w' ∧ u = undef)) ∧ Inv w0 Fz Pr0 Lo R' Pr σ' (a.put dst u) w'
include hT
theorem box_sound (h : Inv w0 Fz Pr0 Lo R Pr σ a w) {d : Nat} {dst : Option Nat} {cs : List C} {el : TypeId} {vs : Array Value} {e : Eff} (hn : mkNew σ.ob σ.objs.length d [] [] (.ptr d 0) (.box cs) = some e) (hr : All2 (RepC w R Pr) cs vs.toList) (hor : ∀ c ∈ cs, ∀ κ ∈ c.refs, σ.ob κ ≠ none) :
 ∃ R', Inv w0 Fz Pr0 Lo R' Pr (σ.eff dst e) (a.put dst (.pointer (some ⟨w.heap.size, 0, none⟩))) (w.alloc (.cells vs el)) := by
 obtain ⟨h1, h2, rfl⟩ := mkNew_spec hn
 refine h.newOb (loc := ⟨w.heap.size, none, 0, 0⟩) h2 h1 (fun b hb => alloc_old w _ b hb) ⟨by simp, rfl, rfl, rfl, (by first | exact Nat.le_refl _ | exact Nat.le_succ _ | exact Nat.le_add_right _ _)⟩ (fun _ => rfl) (fun R' hRd hRo => ?_) (fun κ hκ => ?_) dst _ _ (fun R' hRd => ?_) rfl
 · refine ⟨el, vs, by rw [hRd]; exact alloc_new w _, hr.mono fun c hc v hv => ?_⟩
   exact RepC.move (fun b hb => alloc_old w _ b (h.pr b hb)) (fun _ h => h) (fun κ hκ => hRo κ (hor c hc κ hκ)) hv
 · obtain ⟨c, hc, hk⟩ := List.mem_flatMap.1 hκ
   exact hor c hc κ hk
 · simp only [RepC]; rw [hRd]
theorem cp_refs {x : Cp} {cs : List C} (h : cpCells x = some cs) {c : C} (hc : c ∈ cs) {κ : Nat} (hk : κ ∈ c.refs) : κ ∈ x.refs := by
 unfold cpCells at h
 split at h
 · cases h
 · cases h; simp at hc; subst hc; exact hk
 · cases h; exact List.mem_flatMap.2 ⟨c, hc, hk⟩
theorem vec_sound (h : Inv w0 Fz Pr0 Lo R Pr σ a w) {d : Nat} {dst : Option Nat} {e : Ty} {l : List e.D} {conds : List DP} {acc : List Nat} {el : TypeId} {cells : Array Value} {us : List Value} {cap : Nat} {eff : Eff} {w1 : World} (hw1 : w1.heap = w.heap) (hg1 : Grow w w1)
 (hn : mkNew σ.ob σ.objs.length d conds acc (.own d) (.vec e l) = some eff) (ha : At cells 0 us) (hr : RepRows w Pr e l us) (hcap : l.length ≤ cap) (hc : cap * e.n ≤ cells.size) :
 ∃ R', Inv w0 Fz Pr0 Lo R' Pr (σ.eff dst eff) (a.put dst (.slice (some ⟨w.heap.size, 0, none⟩) l.length cap)) (w1.alloc (.cells cells el)) := by
 obtain ⟨h1, h2, rfl⟩ := mkNew_spec hn
 have hsz : w1.heap.size = w.heap.size := by rw [hw1]
 have hold : ∀ b, b < w.heap.size → (w1.alloc (.cells cells el)).heap[b]? = w.heap[b]? := fun b hb => by rw [alloc_old w1 _ b (by omega), hw1]
 refine h.newOb (loc := ⟨w.heap.size, some ⟨w.heap.size, 0, none⟩, l.length, cap⟩) h2 h1 hold ⟨by simp; omega, hg1.os, hg1.tape, hg1.output, hg1.dr⟩ (fun _ => rfl) (fun R' hRd hRo => ?_) (fun κ hκ => by cases hκ) dst _ _ (fun R' hRd => ?_) rfl
 · refine ⟨by rw [hRd], .inr ⟨0, cap, cells, el, by rw [hRd]; rfl, hcap, by rw [hRd, ← hsz]; exact alloc_new w1 _, by simpa using hc, ?_⟩⟩
   have hr' := hr.move (w' := w1.alloc (.cells cells el)) (fun b hb => hold b (h.pr b hb)) (fun _ h => h)
   exact hr'.idx ha
 · simp only [RepC]; rw [hRd]; rfl
theorem zero_spec {el : TypeId} {i : TI} (hi : T.get el = some i) {b : Bool} {z : List C} (hz : i.zero = some (b, z)) (w : World) (R : Nat → RL) (Pr : Nat → Prop) :
 ∃ ti v, P.info? el = some ti ∧ ti.zero = some v ∧ ti.size = i.size ∧ ti.bytes = i.bytes ∧ All2 (RepC w R Pr) z v.cells.toList ∧ (∀ c ∈ z, c.refs = []) := by
 obtain ⟨ti, h1, h2, h3, h4⟩ := tab_info hT hi
 rw [h4] at hz
 obtain ⟨v, hv, hzo⟩ := Option.bind_eq_some_iff.1 hz
 obtain ⟨z1, z2, z3⟩ := zeroOf_rep hT (w := w) (R := R) (Pr := Pr) hzo
 exact ⟨ti, v, h1, hv, h2, h3, z1, z2⟩
theorem src_spec (h : Inv w0 Fz Pr0 Lo R Pr σ a w) {e : Ty} {x : C} {acc : List Nat} {m : List e.D} (hs : srcL σ.ob e x = some (acc, m)) {v : Value} (hx : RepC w R Pr x v) :
 ∃ A cap us, v = .slice A m.length cap ∧ RepRows w Pr e m us ∧ (m = [] ∨ ∃ blk off cells el fr, A = some ⟨blk, off, none⟩ ∧ w.heap[blk]? = some (.cells cells el fr) ∧ At cells off us) ∧ (m = [] → us = []) := by
 unfold srcL at hs
 split at hs
 · rename_i κ sz lo n
   split at hs
   · rename_i e' l ho
     split at hs
     · rename_i he _ hsz
       subst he
       cases hs
       rw [Nat.beq_eq] at hsz
       obtain ⟨h0, h1⟩ := h.ob κ _ ho
       obtain ⟨q1, A, c, rfl, q2⟩ := hx
       have hlen : ((l.drop lo).take n).length = n := by simp; omega
       by_cases hn : n = 0
       · subst hn
         exact ⟨A, c, [], by simp, by simp [RepRows], .inl (by simp), fun _ => rfl⟩
       · obtain ⟨o, m0, c', q3, q4⟩ := q2 hn
         rcases h1 with ⟨h1, rfl⟩ | ⟨off, cap, cells, el, h1, h2, h3, h4, h5⟩
         · rw [h1] at q3; cases q3
         · have e1 : off = o := by rw [h1] at q3; simpa using (by injection q3 with q3 _ _; injection q3 with q3; injection q3 : off = o)
           subst e1
           obtain ⟨us, k1, k2⟩ := RepRows.of (l := (l.drop lo).take n) (cells := cells) (off := off + lo * sz) (fun i y hi => by
            rw [List.getElem?_take] at hi
            split at hi
            · rw [List.getElem?_drop] at hi
              obtain ⟨us, r1, r2⟩ := h5 _ y hi
              exact ⟨us, by rw [hsz, Nat.add_assoc, ← Nat.add_mul]; exact r1, r2⟩
            · cases hi)
           exact ⟨A, c, us, by rw [hlen], k2, .inr ⟨_, _, cells, el, _, q4, h3, k1⟩, fun hm => by
            have hm : (l.drop lo).take n = [] := hm
            rw [hm] at hlen; simp at hlen; omega⟩
     · cases hs
   · cases hs
 · rename_i κ
   split at hs
   · rename_i e' l ho
     split at hs
     · rename_i he _
       subst he
       cases hs
       obtain ⟨h0, h1⟩ := h.ob κ _ ho
       rcases h1 with ⟨h1, rfl⟩ | ⟨off, cap, cells, el, h1, h2, h3, h4, h5⟩
       · exact ⟨none, 0, [], hx.trans h1, rfl, .inl rfl, fun _ => rfl⟩
       · obtain ⟨us, k1, k2⟩ := RepRows.of h5
         exact ⟨_, cap, us, hx.trans h1, k2, .inr ⟨_, off, cells, el, _, rfl, h3, k1⟩, fun hm => by subst hm; exact k2⟩
     · cases hs
   · cases hs
 · rename_i b e' y
   split at hs
   · rename_i he _
     subst he
     cases hs
     obtain ⟨A, cap, h1, h2, h3, h4⟩ := hx
     have hv : v = .slice A (slL b y).length cap := by simpa using h1
     by_cases hne : slL b y = []
     · refine ⟨A, cap, [], hv, ?_, .inl hne, fun _ => rfl⟩
       show RepRows w Pr e' (slL b y) []
       rw [hne]; rfl
     · obtain ⟨blk, off, cells, el, fr, g1, g2, g3, g4⟩ := h4 hne
       obtain ⟨us, k1, k2⟩ := RepRows.of g4
       exact ⟨A, cap, us, hv, k2, .inr ⟨blk, off, cells, el, fr, g1, g3, k1⟩, fun hm => (hne hm).elim⟩
   · cases hs
 · cases hs
   exact ⟨none, 0, [], hx, rfl, .inl rfl, fun _ => rfl⟩
 · cases hs
omit hT in
theorem At.cell {w : World} {blk off : Nat} {cells : Array Value} {el : TypeId} {fr : Nat × Nat} {us : List Value} (hb : w.heap[blk]? = some (.cells cells el fr)) (ha : At cells off us) : ∀ j v, us[j]? = some v → w.cell? ((⟨blk, off, none⟩ : Addr).add j) = some v := fun j v hj => by
 rw [add_addr]
 simp [World.cell?, hb, ha j v hj]
omit hT in
theorem seg_at {cur news : List Value} {o : Nat} (h : o + news.length ≤ cur.length) : ∀ (off : Nat) (us : List Value), (∀ c u, us[c]? = some u → cur[off + c]? = some u) → off + us.length ≤ o → At (cur.take o ++ news ++ cur.drop (o + news.length)).toArray off us := fun off us ha hl c u hu => by
 have hc : c < us.length := by
  rcases Nat.lt_or_ge c us.length with g | g
  · exact g
  · rw [List.getElem?_eq_none g] at hu; cases hu
 simp only [List.getElem?_toArray]
 rw [List.append_assoc, List.getElem?_append_left (by simp; omega), List.getElem?_take, if_pos (by omega)]
 exact ha c u hu
omit hT in
theorem seg_new {cur news : List Value} {o : Nat} (h : o + news.length ≤ cur.length) : At (cur.take o ++ news ++ cur.drop (o + news.length)).toArray o news := fun c u hu => by
 have hc : c < news.length := by
  rcases Nat.lt_or_ge c news.length with g | g
  · exact g
  · rw [List.getElem?_eq_none g] at hu; cases hu
 simp only [List.getElem?_toArray]
 rw [List.append_assoc, List.getElem?_append_right (by simp; omega)]
 have : o + c - (cur.take o).length = c := by simp; omega
 rw [this, List.getElem?_append_left hc]
 exact hu
end
end Go.Rx
