/- Reflection, part K: the operations that make or write objects, soundly. -/
import Derived.Test.YtollcjadobpfdaaRxJ
import Derived.Laws.IdiomCopy
namespace Go.Rx
set_option linter.unusedVariables false
set_option linter.unusedSimpArgs false
set_option linter.unusedSectionVars false
section
variable {w0 : World} {Fz Pr0 : Nat → Prop} {Lo : Nat → RL} {R : Nat → RL} {Pr : Nat → Prop} {σ : St} {a : Act} {w : World}
variable {P : Program} {T : Tab} (hT : TabOK P T) {Y : Tys}
theorem setRow_same (w : World) (g : Nat) {old : Array Value} {cs : Array Value} {t : TypeId} {fr : Nat × Nat} (hg : w.heap[g]? = some (.cells old t fr)) : (w.setRow g cs).heap[g]? = some (.cells cs t fr) := setRow_heap w g old cs t fr hg
include hT
theorem storeVar_at {t : TypeId} {i : TI} (hi : T.get t = some i) {blk o : Nat} {cells : Array Value} {el : TypeId} (hb : w.heap[blk]? = some (.cells cells el (0, 0))) {v : Value} {xs : List C} {x : Cp} (hx : cpCells x = some xs) (hv : RepCp w R Pr x v)
 (hl : xs.length = i.size) (ho : o + i.size ≤ cells.size) (hany : ∀ c ∈ xs, c ≠ .any) :
 (Instr.storeAt t (.pointer (some ⟨blk, o, none⟩)) v).run P w = .ok () (w.setRow blk (cells.toList.take o ++ v.cells.toList ++ cells.toList.drop (o + v.cells.toList.length)).toArray) ∧ v.cells.toList.length = i.size := by
 have hr := (cpCells_rep hv hx).1
 have hlen : v.cells.toList.length = i.size := by rw [← hr.length, hl]
 have hst := run_storeCells_at P blk o el v.cells.toList 0 cells w hb (by omega) (one_of hr hany)
 simp only [Nat.add_zero] at hst
 refine ⟨?_, hlen⟩
 have hsz : ¬ v.cells.size ≠ i.size := by simpa using hlen
 simp only [Instr.storeAt, Instr.sureAddr, Sem.run_bind, Sem.run_pure, Result.andThen_ok, storeVar, tab_size hT hi]
 rw [if_neg hsz]
 exact hst
theorem store_sound (h : Inv w0 Fz Pr0 Lo R Pr σ a w) {t : TypeId} {c : C} {x : Cp} {p v : Value} {e : Eff} {dst : Option Nat} (he : evStore T σ.ob t c x = some e) (hc : RepC w R Pr c p) (hcr : ∀ κ ∈ c.refs, σ.ob κ ≠ none) (hx : RepCp w R Pr x v) (hxr : ∀ κ ∈ x.refs, σ.ob κ ≠ none) :
 ∃ w' R', (Instr.storeAt t p v).run P w = .ok () w' ∧ Inv w0 Fz Pr0 Lo R' Pr (σ.eff dst e) (a.put dst undef) w' := by
 unfold evStore at he
 split at he
 · rename_i κ off
   split at he
   · rename_i i cs xs hi hob hxs
     split at he
     · rename_i hcond
       obtain ⟨hna, hl, hoff⟩ := hcond
       cases he
       obtain ⟨el, vs, h1, h2⟩ := h.ob κ _ hob
       have hlen := h2.length
       simp only [Array.length_toList] at hlen
       obtain ⟨k1, k2⟩ := storeVar_at hT hi h1 (o := off) hxs hx hl (by omega) (noAny_spec hna)
       have hp : p = .pointer (some ⟨(R κ).blk, off, none⟩) := hc
       subst hp
       refine ⟨_, R, k1, ?_⟩
       have hxr' := (cpCells_rep hx hxs).1
       have hother : ∀ b, b ≠ (R κ).blk → (w.setRow (R κ).blk (vs.toList.take off ++ v.cells.toList ++ vs.toList.drop (off + v.cells.toList.length)).toArray).heap[b]? = w.heap[b]? := fun b hb => setRow_other w _ b _ hb
       have hpr : ∀ b, Pr b → b ≠ (R κ).blk := fun b hb e => (h.un κ _ hob trivial).1 (e ▸ hb)
       have h3 := h.upd κ _ (.box (cs.take off ++ xs ++ cs.drop (off + i.size))) hob (w' := w.setRow (R κ).blk (vs.toList.take off ++ v.cells.toList ++ vs.toList.drop (off + v.cells.toList.length)).toArray) (R' := R) (fun _ _ => rfl) (.inl rfl)
        (fun b hb hne => hother b (hne trivial)) ⟨by simp, rfl, rfl, rfl, (by first | exact Nat.le_refl _ | exact Nat.le_succ _ | exact Nat.le_add_right _ _)⟩ (fun _ => .inr ⟨trivial, rfl⟩) ⟨el, _, setRow_same w _ h1, ?_⟩ ?_
       · exact h3.put dst anyA undef trivial (fun κ hκ => by cases hκ)
       · have : All2 (RepC w R Pr) (cs.take off ++ xs ++ cs.drop (off + i.size)) (vs.toList.take off ++ v.cells.toList ++ vs.toList.drop (off + v.cells.toList.length)) := by
          rw [k2]
          exact All2.append (All2.append (h2.take off) hxr') (h2.drop (off + i.size))
         exact this.mono fun c _ u hu => RepC.move (fun b hb => hother b (hpr b hb)) (fun _ h => h) (fun _ _ => rfl) hu
       · intro κ' hκ'
         obtain ⟨c, hc, hk⟩ := List.mem_flatMap.1 hκ'
         rcases List.mem_append.1 hc with hc | hc
         · rcases List.mem_append.1 hc with hc | hc
           · exact h.wo κ _ κ' hob (List.mem_flatMap.2 ⟨c, List.mem_of_mem_take hc, hk⟩)
           · exact hxr κ' (cp_refs hT hxs hc hk)
         · exact h.wo κ _ κ' hob (List.mem_flatMap.2 ⟨c, List.mem_of_mem_drop hc, hk⟩)
     · cases he
   · cases he
 · rename_i κ sz j off
   split at he
   · rename_i i e1 l xs hi hob hxs
     split at he
     · rename_i hcond
       obtain ⟨hna, hsz, hl, hoff⟩ := hcond
       split at he
       · rename_i y hy
         cases he
         obtain ⟨hj, o, n, c1, hh, hp⟩ := hc
         obtain ⟨h0, h1⟩ := h.ob κ _ hob
         rcases h1 with ⟨h1, _⟩ | ⟨off1, cap, cells, el, h1, h2, h3, h4, h5⟩
         · rw [h1] at hh; cases hh
         · obtain ⟨ho1, _, _⟩ : off1 = o ∧ l.length = n ∧ cap = c1 := by rw [h1] at hh; simpa using hh
           subst ho1
           rw [h0] at hj
           obtain ⟨us, k1, k2⟩ := h5 j l[j] (List.getElem?_eq_getElem hj)
           have hg : l.getD j e1.z = l[j] := by rw [List.getD_eq_getElem?_getD, List.getElem?_eq_getElem hj]; rfl
           rw [hg] at hy
           have hul := k2.len
           have hjn : j * e1.n + e1.n ≤ cap * e1.n := by
            have : (j + 1) * e1.n ≤ cap * e1.n := Nat.mul_le_mul_right _ (by omega)
            rw [Nat.add_mul, Nat.one_mul] at this; exact this
           obtain ⟨g1, g2⟩ := storeVar_at hT hi h3 (o := off1 + j * sz + off) hxs hx hl (by rw [← hsz]; omega) (noAny_spec hna)
           subst hp
           rw [← hsz] at g1
           refine ⟨_, R, by rw [← hsz]; exact g1, ?_⟩
           have hre : real R κ (.vec e1 l) := fun z => by rw [z] at h1; cases h1
           generalize hcur : (cells.toList.take (off1 + j * e1.n + off) ++ v.cells.toList ++ cells.toList.drop (off1 + j * e1.n + off + v.cells.toList.length)) = cur
           have hother : ∀ b, b ≠ (R κ).blk → (w.setRow (R κ).blk cur.toArray).heap[b]? = w.heap[b]? := fun b hb => setRow_other w _ b _ hb
           have hpr : ∀ b, Pr b → b ≠ (R κ).blk := fun b hb e => (h.un κ _ hob hre).1 (e ▸ hb)
           have hxr' := (cpCells_rep hx hxs).1
           have hcells := cells_rep (R := R) k2
           have hnew : All2 (RepC w R Pr) (((e1.cells l[j]).take off) ++ xs ++ ((e1.cells l[j]).drop (off + i.size))) (us.take off ++ v.cells.toList ++ us.drop (off + i.size)) :=
            All2.append (All2.append (hcells.take off) hxr') (hcells.drop (off + i.size))
           obtain ⟨u1, u2, hu12, hu1, hu2⟩ := of_rep hy hnew
           have hu2 : u2 = [] := by
            cases u2 with
            | nil => rfl
            | cons _ _ => exact hu2.elim
           subst hu2
           simp only [List.append_nil] at hu12
           have hcl : off1 + j * e1.n + off + v.cells.toList.length ≤ cells.toList.length := by simp only [g2, Array.length_toList]; omega
           have hcurlen : cur.length = cells.size := by
            rw [← hcur]
            simp only [List.length_append, List.length_take, List.length_drop, Array.length_toList, g2] at hcl ⊢
            omega
           have hget : ∀ q, cur[q]? = if q < off1 + j * e1.n + off then cells[q]? else if q < off1 + j * e1.n + off + i.size then v.cells.toList[q - (off1 + j * e1.n + off)]? else cells[q]? := fun q => by
            rw [← hcur]
            simp only [Array.length_toList] at hcl
            by_cases q1 : q < off1 + j * e1.n + off
            · rw [if_pos q1, List.append_assoc, List.getElem?_append_left (by simp; omega), List.getElem?_take, if_pos q1]; simp
            · rw [if_neg q1]
              have htl : (cells.toList.take (off1 + j * e1.n + off)).length = off1 + j * e1.n + off := by simp; omega
              by_cases q2 : q < off1 + j * e1.n + off + i.size
              · rw [if_pos q2, List.append_assoc, List.getElem?_append_right (by omega), List.getElem?_append_left (by omega), htl]
              · rw [if_neg q2, List.getElem?_append_right (by simp only [List.length_append, htl, g2]; omega), List.getElem?_drop]
                simp only [List.length_append, htl, g2]
                rw [show off1 + j * e1.n + off + i.size + (q - (off1 + j * e1.n + off + i.size)) = q by omega]
                simp
           have h6 := h.upd κ _ (.vec e1 (l.set j y)) hob (w' := w.setRow (R κ).blk cur.toArray) (R' := R) (fun _ _ => rfl) (.inl rfl)
            (fun b hb hne => hother b (hne hre)) ⟨by simp, rfl, rfl, rfl, (by first | exact Nat.le_refl _ | exact Nat.le_succ _ | exact Nat.le_add_right _ _)⟩ (fun _ => .inr ⟨hre, rfl⟩) ?_ (fun κ' hκ' => by cases hκ')
           · exact h6.put dst anyA undef trivial (fun κ hκ => by cases hκ)
           · refine ⟨by rw [List.length_set]; exact h0, .inr ⟨off1, cap, cur.toArray, el, by rw [List.length_set]; exact h1, by rw [List.length_set]; exact h2, setRow_same w _ h3, by simp [hcurlen]; exact h4, fun q z hz => ?_⟩⟩
             rw [List.getElem?_set] at hz
             by_cases hq : j = q
             · subst hq
               rw [if_pos rfl, if_pos hj] at hz
               cases hz
               refine ⟨u1, fun c u hu => ?_, hu1.move (fun b hb => hother b (hpr b hb)) (fun _ h => h)⟩
               simp only [List.getElem?_toArray]
               rw [hget]
               rw [← hu12] at hu
               by_cases q1 : c < off
               · rw [List.append_assoc, List.getElem?_append_left (by simp; omega), List.getElem?_take, if_pos q1] at hu
                 rw [if_pos (by omega)]
                 exact k1 c u hu
               · have htl : (us.take off).length = off := by simp; omega
                 by_cases q2 : c < off + i.size
                 · rw [List.append_assoc, List.getElem?_append_right (by omega), List.getElem?_append_left (by omega), htl] at hu
                   rw [if_neg (by omega), if_pos (by omega)]
                   rw [show off1 + j * e1.n + c - (off1 + j * e1.n + off) = c - off by omega]
                   exact hu
                 · rw [List.getElem?_append_right (by simp only [List.length_append, htl, g2]; omega), List.getElem?_drop] at hu
                   simp only [List.length_append, htl, g2] at hu
                   rw [show off + i.size + (c - (off + i.size)) = c by omega] at hu
                   rw [if_neg (by omega), if_neg (by omega)]
                   exact k1 c u hu
             · rw [if_neg hq] at hz
               obtain ⟨us', m1, m2⟩ := h5 q z hz
               have hm2 := m2.len
               refine ⟨us', fun c u hu => ?_, m2.move (fun b hb => hother b (hpr b hb)) (fun _ h => h)⟩
               have hc : c < us'.length := by
                rcases Nat.lt_or_ge c us'.length with g | g
                · exact g
                · rw [List.getElem?_eq_none g] at hu; cases hu
               simp only [List.getElem?_toArray]
               rw [hget]
               have hap : off1 + q * e1.n + c < off1 + j * e1.n + off ∨ off1 + j * e1.n + off + i.size ≤ off1 + q * e1.n + c := by
                rcases Nat.lt_or_ge q j with g | g
                · left
                  have : (q + 1) * e1.n ≤ j * e1.n := Nat.mul_le_mul_right _ g
                  rw [Nat.add_mul, Nat.one_mul] at this
                  omega
                · right
                  have : (j + 1) * e1.n ≤ q * e1.n := Nat.mul_le_mul_right _ (by omega)
                  rw [Nat.add_mul, Nat.one_mul] at this
                  omega
               rcases hap with g | g
               · rw [if_pos g]; exact m1 c u hu
               · rw [if_neg (by omega), if_neg (by omega)]; exact m1 c u hu
       · cases he
     · cases he
   · cases he
 · cases he
theorem append_sound (h : Inv w0 Fz Pr0 Lo R Pr σ a w) {t ty el : TypeId} {it : TI} (hit : T.get t = some it) (hd : it.d = .slice el) {s x : C} {e : Eff} {d : Nat} {sv xv : Value} (he : evAppend T Y σ.ob σ.objs.length d el s x = some e) (hh : Hold e.conds) (hs : RepC w R Pr s sv) (hx : RepC w R Pr x xv) :
 ∃ u w' R', (Builtin.append_ #[t, t] ty #[sv, xv]).run P w = .ok u w' ∧ Inv w0 Fz Pr0 Lo R' Pr (σ.eff (some d) e) (a.put (some d) u) w' := by
 have hu := tab_slice hT hit hd
 unfold evAppend at he
 split at he
 · rename_i i hi
   split at he
   · cases he
   · rename_i b z hz
     obtain ⟨ti, zv, g1, g2, g3, g4, g5, g6⟩ := zero_spec hT hi hz w R Pr
     split at he
     · rename_i κ
       split at he
       · rename_i ety l hob
         split at he
         · rename_i acc m hm
           split at he
           · rename_i hcond
             obtain ⟨hb0, hsz, hzl, hokk, hacc⟩ := hcond
             have hzs : zv.cells.size = ti.size := by have := g5.length; simp only [Array.length_toList] at this; omega
             cases he
             have hfit : (l.length + m.length) * ti.bytes ≤ 140737488355328 := by rw [g4]; exact hh (fitsB i.bytes (l.length + m.length)) (by simp)
             have hsz' : ety.n = ti.size := by rw [g3]; exact hsz
             obtain ⟨A, cp, us, rfl, k2, k3, k4⟩ := src_spec hT h hm hx
             have hul := k2.len
             have hs : sv = (R κ).hdr := hs
             obtain ⟨h0, h1⟩ := h.ob κ _ hob
             have h2 := h.kill κ
             have hobk : (σ.kill κ).ob κ = some (.vec ety l) := by rw [ob_kill, hob]; rfl
             have hltk : κ < (σ.kill κ).objs.length := by
              rcases Nat.lt_or_ge κ (σ.kill κ).objs.length with g | g
              · exact g
              · unfold St.ob at hobk; rw [List.getD_eq_getElem?_getD, List.getElem?_eq_none g] at hobk; cases hobk
             have fin : ∀ (u : Value) (w' : World) (loc : RL), (Builtin.append_ #[t, t] ty #[sv, .slice A m.length cp]).run P w = .ok u w' → u = loc.hdr →
              (∀ b, b < w.heap.size → (real R κ (.vec ety l) → b ≠ (R κ).blk) → w'.heap[b]? = w.heap[b]?) → Grow w w' →
              (loc.hdr ≠ .slice none 0 0 → w.heap.size ≤ loc.blk ∨ (real R κ (.vec ety l) ∧ loc.blk = (R κ).blk)) →
              (∀ R' : Nat → RL, R' κ = loc → RepOb w' R' Pr κ (.vec ety (l ++ m))) →
              ∃ u w' R', (Builtin.append_ #[t, t] ty #[sv, .slice A m.length cp]).run P w = .ok u w' ∧ Inv w0 Fz Pr0 Lo R' Pr (σ.eff (some d) ⟨[fitsB i.bytes (l.length + m.length)], κ :: acc, oneA (.own κ), some κ, some (κ, .vec ety (l ++ m))⟩) (a.put (some d) u) w' := fun u w' loc hrun hul hw hsw hb ho => by
              have hRκ : (fun κ' => if κ' = κ then loc else R κ') κ = loc := by simp
              refine ⟨u, w', fun κ' => if κ' = κ then loc else R κ', hrun, ?_⟩
              have h3 := h2.1.upd κ _ (.vec ety (l ++ m)) hobk (w' := w') (R' := fun κ' => if κ' = κ then loc else R κ') (fun κ' hk => by simp [hk]) (.inr ⟨h2.2.1, h2.2.2, by simpa [St.kill] using hokk⟩) hw hsw (fun hre => by
               simp only [real, if_true] at hre
               simpa using hb hre) (ho _ hRκ) (fun κ' hκ' => by cases hκ')
              refine h3.put (some d) (oneA (.own κ)) u ?_ (fun κ' hκ' => ?_)
              · show u = _
                rw [hRκ, hul]
              · have : κ' = κ := by simpa [AV.refs, Cp.refs, C.refs] using hκ'
                subst this
                rw [St.ob_setOb, if_pos ⟨rfl, hltk⟩]; simp
             rcases h1 with ⟨h1, rfl⟩ | ⟨off, cap, cells, el1, h1, h2', h3, h4, h5⟩
             ·
              rw [h1] at hs
              subst hs
              by_cases hm0 : m = []
              · have hus := k4 hm0
                subst hm0
                refine fin (.slice none 0 0) w (R κ) ?_ h1.symm (fun b _ _ => rfl) (Grow.refl _) (fun g => (g h1).elim) (fun R' hR' => ⟨by rw [hR']; simpa using h0, .inl ⟨by rw [hR', h1], rfl⟩⟩)
                have hfc : ∀ A n c, (Builtin.firstCells ti.size 0 (.slice A n c)).run P w = .ok #[] w := fun A n c => by
                 cases A <;> simp [Builtin.firstCells, loadCells, loadCellsFrom]
                simp [Builtin.append_, run_underlying hu, sizeOf, typeInfo, g1, Builtin.lenOf, hfc]
              · obtain ⟨blk, off, cells, el1, fr, rfl, m1, m2⟩ := k3.resolve_left hm0
                have hpos : 0 < m.length := List.length_pos_iff.2 hm0
                have hbig : m.length * ti.bytes ≤ 140737488355328 := by simpa using hfit
                have h63 : (m.length : Int) ≤ 9223372036854775807 := by
                 have := Nat.le_trans (Nat.le_mul_of_pos_right m.length (by rw [g4]; exact hb0)) hbig
                 omega
                have hrun := run_append_nil (P := P) w t ty el ti zv hu g1 g2 ⟨blk, off, none⟩ m.length cp us (by rw [hul, hsz']) (At.cell m1 m2) hpos h63 (by omega)
                refine fin _ _ ⟨w.heap.size, some ⟨w.heap.size, 0, none⟩, m.length, grownCap w m.length 0 el⟩ hrun rfl (fun b hb _ => by rw [alloc_old _ _ b (by simpa using hb)]; rfl) ⟨by simp, rfl, rfl, rfl, (by first | exact Nat.le_refl _ | exact Nat.le_succ _ | exact Nat.le_add_right _ _)⟩ (fun _ => .inl (Nat.le_refl _)) (fun R' hR' => ?_)
                refine ⟨by rw [hR']; simp, .inr ⟨0, _, _, el, by rw [hR']; rfl, grownCap_ge w m.length 0 el, by rw [hR']; exact alloc_new w.drew _, ?_, ?_⟩⟩
                · have hg := grownCap_ge w m.length 0 el
                  simp only [Nat.zero_add, Array.size_append, List.size_toArray, size_zeroCells, hzs, hul, hsz', ← Nat.add_mul]
                  exact Nat.mul_le_mul_right _ (by omega)
                · have hr' := k2.move (w' := w.drew.alloc (.cells (us.toArray ++ Builtin.zeroCells zv.cells (grownCap w m.length 0 el - m.length)) el)) (fun b hb => by rw [alloc_old _ _ b (by simpa using h.pr b hb)]; rfl) (fun _ h => h)
                  simpa using hr'.idx (cells := us.toArray ++ Builtin.zeroCells zv.cells (grownCap w m.length 0 el - m.length)) (off := 0) (fun c u hu => by
                   have hc : c < us.length := by
                    rcases Nat.lt_or_ge c us.length with g | g
                    · exact g
                    · rw [List.getElem?_eq_none g] at hu; cases hu
                   rw [Nat.zero_add, Array.getElem?_append_left (by simpa using hc)]
                   simpa using hu)
             · have hre : real R κ (.vec ety l) := fun z => by rw [z] at h1; cases h1
               rw [h1] at hs
               subst hs
               obtain ⟨olds, o1, o2⟩ := RepRows.of h5
               have hol := o2.len
               have hcap : l.length * ety.n ≤ cap * ety.n := Nat.mul_le_mul_right _ h2'
               by_cases hroom : l.length + m.length ≤ cap
               ·
                have hroomn : (l.length + m.length) * ety.n ≤ cap * ety.n := Nat.mul_le_mul_right _ hroom
                rw [Nat.add_mul] at hroomn
                have hrun : (Builtin.append_ #[t, t] ty #[.slice (some ⟨(R κ).blk, off, none⟩) l.length cap, .slice A m.length cp]).run P w =
                 .ok (.slice (some ⟨(R κ).blk, off, none⟩) (l.length + m.length) cap) (w.setRow (R κ).blk (cells.toList.take (off + l.length * ti.size) ++ us ++ cells.toList.drop (off + l.length * ti.size + us.length)).toArray) := by
                 have hst := run_storeCells_at P (R κ).blk (off + l.length * ti.size) el1 us 0 cells w h3 (by rw [← hsz', hul]; omega) k2.ones
                 simp only [Nat.add_zero] at hst
                 have hf : (Builtin.firstCells ti.size m.length (.slice A m.length cp)).run P w = .ok us.toArray w := by
                  by_cases hm0 : m = []
                  · have := k4 hm0
                    subst hm0
                    subst this
                    cases A <;> simp [Builtin.firstCells, loadCells, loadCellsFrom]
                  · obtain ⟨blk, off', cells', el', fr, rfl, m1, m2⟩ := k3.resolve_left hm0
                    exact run_firstCells_some (P := P) w ti.size m.length ⟨blk, off', none⟩ m.length cp us (by rw [hul, hsz']) (At.cell m1 m2)
                 simp [Builtin.append_, run_underlying hu, sizeOf, typeInfo, g1, Builtin.lenOf, hroom, hf, add_addr, hst]
                rw [← hsz'] at hrun
                have hfitl : off + l.length * ety.n + us.length ≤ cells.toList.length := by simp only [Array.length_toList, hul]; omega
                have hother : ∀ b, b ≠ (R κ).blk → (w.setRow (R κ).blk (cells.toList.take (off + l.length * ety.n) ++ us ++ cells.toList.drop (off + l.length * ety.n + us.length)).toArray).heap[b]? = w.heap[b]? := fun b hb => setRow_other w _ b _ hb
                have hpr : ∀ b, Pr b → b ≠ (R κ).blk := fun b hb e => (h.un κ _ hob hre).1 (e ▸ hb)
                refine fin _ _ ⟨(R κ).blk, some ⟨(R κ).blk, off, none⟩, l.length + m.length, cap⟩ hrun rfl (fun b hb hne => hother b (hne hre)) ⟨by simp, rfl, rfl, rfl, (by first | exact Nat.le_refl _ | exact Nat.le_succ _ | exact Nat.le_add_right _ _)⟩ (fun _ => .inr ⟨hre, rfl⟩) (fun R' hR' => ?_)
                refine ⟨by rw [hR']; simp, .inr ⟨off, cap, _, el1, by rw [hR']; simp [RL.hdr], by simpa using hroom, by rw [hR']; exact setRow_same w _ h3, ?_, ?_⟩⟩
                · simp only [List.size_toArray, List.length_append, List.length_take, List.length_drop, Array.length_toList] at hfitl ⊢
                  omega
                · have hr' := (o2.append k2).move (w' := w.setRow (R κ).blk (cells.toList.take (off + l.length * ety.n) ++ us ++ cells.toList.drop (off + l.length * ety.n + us.length)).toArray) (fun b hb => hother b (hpr b hb)) (fun _ h => h)
                  refine hr'.idx (At.app (seg_at hfitl off olds (fun c u hu => by simpa using o1 c u hu) (by rw [hol]; exact Nat.le_refl _)) ?_)
                  rw [hol]
                  exact seg_new hfitl
               ·
                have hm0 : m ≠ [] := fun e => by subst e; simp at hroom; omega
                obtain ⟨blk, off', cells', el', fr, rfl, m1, m2⟩ := k3.resolve_left hm0
                have h63 : ((l.length + m.length : Nat) : Int) ≤ 9223372036854775807 := by
                 have := Nat.le_trans (Nat.le_mul_of_pos_right (l.length + m.length) (by rw [g4]; exact hb0)) hfit
                 omega
                have hrun := run_append_grow (P := P) w t ty el ti zv hu g1 g2 ⟨(R κ).blk, off, none⟩ l.length cap olds (by rw [hol, hsz']) (At.cell h3 o1) ⟨blk, off', none⟩ m.length cp us (by rw [hul, hsz']) (At.cell m1 m2) (by omega) h63 (growslice_fits (by omega) hfit)
                have hg := grownCap_ge w (l.length + m.length) cap el
                refine fin _ _ ⟨w.heap.size, some ⟨w.heap.size, 0, none⟩, l.length + m.length, grownCap w (l.length + m.length) cap el⟩ hrun rfl (fun b hb _ => by rw [alloc_old _ _ b (by simpa using hb)]; rfl) ⟨by simp, rfl, rfl, rfl, (by first | exact Nat.le_refl _ | exact Nat.le_succ _ | exact Nat.le_add_right _ _)⟩ (fun _ => .inl (Nat.le_refl _)) (fun R' hR' => ?_)
                refine ⟨by rw [hR']; simp, .inr ⟨0, grownCap w (l.length + m.length) cap el, _, el, by rw [hR', List.length_append]; rfl, by simpa using hg, by rw [hR']; exact alloc_new w.drew _, ?_, ?_⟩⟩
                · simp only [Nat.zero_add, Array.size_append, List.size_toArray, size_zeroCells, hzs, hul, hol, hsz', ← Nat.add_mul]
                  exact Nat.mul_le_mul_right _ (by omega)
                · have hr' := (o2.append k2).move (w' := w.drew.alloc (.cells (olds.toArray ++ us.toArray ++ Builtin.zeroCells zv.cells (grownCap w (l.length + m.length) cap el - (l.length + m.length))) el)) (fun b hb => by rw [alloc_old _ _ b (by simpa using h.pr b hb)]; rfl) (fun _ h => h)
                  refine hr'.idx (fun c u hu => ?_)
                  have hc : c < (olds ++ us).length := by
                   rcases Nat.lt_or_ge c (olds ++ us).length with g | g
                   · exact g
                   · rw [List.getElem?_eq_none g] at hu; cases hu
                  rw [Nat.zero_add, Array.getElem?_append_left (by simpa using hc)]
                  simpa using hu
           · cases he
         · cases he
       · cases he
     · split at he
       · rename_i ety hety
         split at he
         · rename_i acc m hm
           split at he
           · rename_i hcond
             obtain ⟨hb0, hsz, hzl⟩ := hcond
             have hzs : zv.cells.size = ti.size := by have := g5.length; simp only [Array.length_toList] at this; omega
             have hsz' : ety.n = ti.size := by rw [g3]; exact hsz
             have hs : sv = .slice none 0 0 := hs
             subst hs
             obtain ⟨A, cp, us, rfl, k2, k3, k4⟩ := src_spec hT h hm hx
             have hul := k2.len
             obtain ⟨n1, n2, rfl⟩ := mkNew_spec he
             have hbig : m.length * ti.bytes ≤ 140737488355328 := by rw [g4]; exact hh (fitsB i.bytes m.length) (by simp)
             by_cases hm0 : m = []
             · have hus := k4 hm0
               subst hm0
               have hfc : ∀ A n c, (Builtin.firstCells ti.size 0 (.slice A n c)).run P w = .ok #[] w := fun A n c => by
                cases A <;> simp [Builtin.firstCells, loadCells, loadCellsFrom]
               obtain ⟨R', hR'⟩ := h.newOb (w' := w) (d := d) (o := .vec ety ([] : List ety.D)) (loc := ⟨0, none, 0, 0⟩) n2 n1 (fun _ _ => rfl) (Grow.refl _) (fun hre => (hre (by simp [RL.hdr])).elim) (fun R' hRd _ => ⟨by rw [hRd]; rfl, .inl ⟨by rw [hRd]; rfl, rfl⟩⟩) (fun κ hκ => by cases hκ) (some d) (.own d) (.slice none 0 0) (fun R' hRd => by simp only [RepC]; rw [hRd]; rfl) rfl
               exact ⟨_, w, R', by simp [Builtin.append_, run_underlying hu, sizeOf, typeInfo, g1, Builtin.lenOf, hfc], hR'⟩
             · obtain ⟨blk, off, cells, el1, fr, rfl, m1, m2⟩ := k3.resolve_left hm0
               have hpos : 0 < m.length := List.length_pos_iff.2 hm0
               have h63 : (m.length : Int) ≤ 9223372036854775807 := by
                have := Nat.le_trans (Nat.le_mul_of_pos_right m.length (by rw [g4]; exact hb0)) hbig
                omega
               have hrun := run_append_nil (P := P) w t ty el ti zv hu g1 g2 ⟨blk, off, none⟩ m.length cp us (by rw [hul, hsz']) (At.cell m1 m2) hpos h63 (by omega)
               have hg := grownCap_ge w m.length 0 el
               obtain ⟨R', hR'⟩ := vec_sound hT h (dst := some d) (el := el) (w1 := w.drew) (cells := us.toArray ++ Builtin.zeroCells zv.cells (grownCap w m.length 0 el - m.length)) (cap := grownCap w m.length 0 el) rfl ⟨Nat.le_refl _, rfl, rfl, rfl, (by first | exact Nat.le_refl _ | exact Nat.le_succ _ | exact Nat.le_add_right _ _)⟩ he (fun c u hu => by
                have hc : c < us.length := by
                 rcases Nat.lt_or_ge c us.length with g | g
                 · exact g
                 · rw [List.getElem?_eq_none g] at hu; cases hu
                rw [Nat.zero_add, Array.getElem?_append_left (by simpa using hc)]
                simpa using hu) k2 hg (by
                 simp only [Array.size_append, List.size_toArray, size_zeroCells, hzs, hul, hsz', ← Nat.add_mul]
                 exact Nat.mul_le_mul_right _ (by omega))
               exact ⟨_, _, R', hrun, hR'⟩
           · cases he
         · cases he
       · cases he
     · cases he
 · cases he
omit hT in
theorem copyL_get {α : Type} {l m : List α} {lo n : Nat} (h : lo + n ≤ l.length) (q : Nat) : (copyL l m lo n)[q]? = if q < lo then l[q]? else if q < lo + min n m.length then m[q - lo]? else l[q]? := by
 unfold copyL
 have hk : (m.take n).length = min n m.length := by simp
 have hl : (l.take lo).length = lo := by simp; omega
 by_cases q1 : q < lo
 · rw [if_pos q1, List.append_assoc, List.getElem?_append_left (by omega), List.getElem?_take, if_pos q1]
 · rw [if_neg q1]
   by_cases q2 : q < lo + min n m.length
   · rw [if_pos q2, List.append_assoc, List.getElem?_append_right (by omega), List.getElem?_append_left (by omega), hl, List.getElem?_take, if_pos (by omega)]
   · rw [if_neg q2, List.getElem?_append_right (by simp only [List.length_append]; omega), List.getElem?_drop]
     simp only [List.length_append, hk, hl]
     rw [show lo + min n m.length + (q - (lo + min n m.length)) = q by omega]
omit hT in
theorem copyL_len {α : Type} {l m : List α} {lo n : Nat} (h : lo + n ≤ l.length) : (copyL l m lo n).length = l.length := by
 unfold copyL
 simp only [List.length_append, List.length_take, List.length_drop]
 omega
theorem copy_sound (h : Inv w0 Fz Pr0 Lo R Pr σ a w) {t t' ty el : TypeId} {it : TI} (hit : T.get t = some it) (hd : it.d = .slice el) {d s : C} {e : Eff} {dst : Option Nat} {dv sv : Value} (he : evCopy T σ.ob el d s = some e) (hdv : RepC w R Pr d dv) (hsv : RepC w R Pr s sv) :
 ∃ u w' R', (Builtin.copy_ #[t, t'] ty #[dv, sv]).run P w = .ok u w' ∧ Inv w0 Fz Pr0 Lo R' Pr (σ.eff dst e) (a.put dst u) w' := by
 have hu := tab_slice hT hit hd
 unfold evCopy at he
 split at he
 · rename_i i κ lo n hi hpart
   split at he
   · rename_i ety l hob
     split at he
     · rename_i acc m hm
       split at he
       · rename_i hcond
         obtain ⟨hn1, hs1⟩ := hcond
         cases he
         obtain ⟨A, cp, us, rfl, k2, k3, k4⟩ := src_spec hT h hm hsv
         have hul := k2.len
         rw [hn1, Nat.mul_one] at hul
         obtain ⟨ti, g1, g2, _, _⟩ := tab_info hT hi
         have hsz : (P.info? el).map (·.size) = some 1 := by rw [g1]; simp [g2, hs1]
         obtain ⟨h0, h1⟩ := h.ob κ _ hob
         have hdst : lo + n ≤ l.length ∧ ∃ Ad cd, dv = .slice Ad n cd ∧ (n ≠ 0 → ∃ o m0 c', (R κ).hdr = .slice (some ⟨(R κ).blk, o, none⟩) m0 c' ∧ Ad = some ⟨(R κ).blk, o + lo, none⟩) := by
          unfold partOf at hpart
          split at hpart
          · rename_i κ'
            split at hpart
            · rename_i e2 l2 ho2
              cases hpart
              rw [hob] at ho2
              cases ho2
              refine ⟨by omega, (R κ).adr, (R κ).cap, by rw [show dv = (R κ).hdr from hdv, RL.hdr, h0], fun hn => ?_⟩
              rcases h1 with ⟨_, rfl⟩ | ⟨off, cap, cells, el1, q2, q3, _⟩
              · simp at hn
              · refine ⟨off, _, _, q2, ?_⟩
                have := q2; simp only [RL.hdr] at this; injection this
            · cases hpart
          · rename_i κ' sz lo' n'
            split at hpart
            · rename_i hs
              rw [Nat.beq_eq] at hs
              cases hpart
              subst hs
              obtain ⟨q1, Ad, c, q2, q3⟩ := hdv
              refine ⟨by omega, Ad, c, q2, fun hn => ?_⟩
              obtain ⟨o, m0, c', q4, q5⟩ := q3 hn
              exact ⟨o, m0, c', q4, by rw [q5, Nat.mul_one]⟩
            · cases hpart
          · cases hpart
         obtain ⟨hlo, Ad, cd, rfl, hAd⟩ := hdst
         by_cases hk : Nat.min m.length n = 0
         · have hcl : copyL l m lo n = l := by
            apply List.ext_getElem?
            intro q
            rw [copyL_get hlo]
            have : min n m.length = 0 := by
             have : Nat.min m.length n = min m.length n := rfl
             omega
            rw [this]
            split
            · rfl
            · rw [if_neg (by omega)]
           refine ⟨_, w, R, run_copy_none (P := P) w t t' ty el Ad A n cd m.length cp hu hsz hk, ?_⟩
           rw [hcl]
           have h6 := h.upd κ _ (.vec ety l) hob (w' := w) (R' := R) (fun _ _ => rfl) (.inl rfl) (fun _ _ _ => rfl) (Grow.refl _) (fun hre => .inr ⟨hre, rfl⟩) (h.ob κ _ hob) (fun κ' hκ' => by cases hκ')
           refine h6.put dst _ (goInt 0) ?_ (fun κ hκ => by cases hκ)
           show goInt 0 = .int .i64 _
           have : min n m.length = 0 := by
            have : Nat.min m.length n = min m.length n := rfl
            omega
           rw [this]; rfl
         · have hk' : 0 < min m.length n := by
            have : Nat.min m.length n = min m.length n := rfl
            omega
           obtain ⟨o, m0, c', q4, rfl⟩ := hAd (by omega)
           rcases k3 with rfl | ⟨blk2, off2, cells2, el2, fr2, rfl, k6, k7⟩
           · simp at hk'
           rcases h1 with ⟨h1, _⟩ | ⟨off, cap, cells, el1, h1, h2, h3, h4, h5⟩
           · rw [h1] at q4; cases q4
           · have e1 : off = o := by rw [h1] at q4; injection q4 with q4 _ _; injection q4 with q4; injection q4
             subst e1
             rw [hn1, Nat.mul_one] at h4
             generalize hcs : us.take (min n m.length) = cs
             have hcl : cs.length = min n m.length := by rw [← hcs]; simp; omega
             have hcm : cs.length = Nat.min m.length n := by
              have : Nat.min m.length n = min m.length n := rfl
              omega
             have hsrc : ∀ j v, cs[j]? = some v → w.cell? ((⟨blk2, off2, none⟩ : Addr).add j) = some v := fun j v hj => by
              rw [← hcs, List.getElem?_take] at hj
              split at hj
              · exact At.cell k6 k7 j v hj
              · cases hj
             have hfit : off + lo + cs.length ≤ cells.size := by omega
             have hone : ∀ v ∈ cs, v.oneCell' = true := fun v hv => k2.ones v (by rw [← hcs] at hv; exact List.mem_of_mem_take hv)
             have hrun := run_copy_row (P := P) w t t' ty el (R κ).blk (off + lo) n cd ⟨blk2, off2, none⟩ m.length cp cells el1 cs hu hsz h3 hcm hsrc hfit hone
             generalize hcur : (cells.toList.take (off + lo) ++ cs ++ cells.toList.drop (off + lo + cs.length)) = cur at hrun
             have hre : real R κ (.vec ety l) := fun z => by rw [z] at h1; cases h1
             have hother : ∀ b, b ≠ (R κ).blk → (w.setRow (R κ).blk cur.toArray).heap[b]? = w.heap[b]? := fun b hb => setRow_other w _ b _ hb
             have hpr : ∀ b, Pr b → b ≠ (R κ).blk := fun b hb e => (h.un κ _ hob hre).1 (e ▸ hb)
             have hcurlen : cur.length = cells.size := by
              rw [← hcur]
              simp only [List.length_append, List.length_take, List.length_drop, Array.length_toList]
              omega
             have hget : ∀ q, cur[q]? = if q < off + lo then cells[q]? else if q < off + lo + cs.length then cs[q - (off + lo)]? else cells[q]? := fun q => by
              rw [← hcur]
              by_cases q1 : q < off + lo
              · rw [if_pos q1, List.append_assoc, List.getElem?_append_left (by simp; omega), List.getElem?_take, if_pos q1]; simp
              · rw [if_neg q1]
                have htl : (cells.toList.take (off + lo)).length = off + lo := by simp; omega
                by_cases q2 : q < off + lo + cs.length
                · rw [if_pos q2, List.append_assoc, List.getElem?_append_right (by omega), List.getElem?_append_left (by omega), htl]
                · rw [if_neg q2, List.getElem?_append_right (by simp only [List.length_append, htl]; omega), List.getElem?_drop]
                  simp only [List.length_append, htl]
                  rw [show off + lo + cs.length + (q - (off + lo + cs.length)) = q by omega]
                  simp
             refine ⟨_, _, R, hrun, ?_⟩
             have h6 := h.upd κ _ (.vec ety (copyL l m lo n)) hob (w' := w.setRow (R κ).blk cur.toArray) (R' := R) (fun _ _ => rfl) (.inl rfl)
              (fun b hb hne => hother b (hne hre)) ⟨by simp, rfl, rfl, rfl, (by first | exact Nat.le_refl _ | exact Nat.le_succ _ | exact Nat.le_add_right _ _)⟩ (fun _ => .inr ⟨hre, rfl⟩) ?_ (fun κ' hκ' => by cases hκ')
             · refine h6.put dst _ (goInt cs.length) ?_ (fun κ hκ => by cases hκ)
               show goInt cs.length = .int .i64 _
               rw [hcl]; rfl
             · refine ⟨by rw [copyL_len hlo]; exact h0, .inr ⟨off, cap, cur.toArray, el1, by rw [copyL_len hlo]; exact h1, by rw [copyL_len hlo]; exact h2, setRow_same w _ h3, by simp [hcurlen, hn1]; exact h4, fun q z hz => ?_⟩⟩
               rw [copyL_get hlo] at hz
               have old : (q < lo ∨ lo + min n m.length ≤ q) → l[q]? = some z → ∃ us', At cur.toArray (off + q * ety.n) us' ∧ RepTy (w.setRow (R κ).blk cur.toArray) Pr ety z us' := fun hq hz => by
                obtain ⟨us', m1, m2⟩ := h5 q z hz
                have hm2 := m2.len
                refine ⟨us', fun c u hu => ?_, m2.move (fun b hb => hother b (hpr b hb)) (fun _ h => h)⟩
                have hc : c < us'.length := by
                 rcases Nat.lt_or_ge c us'.length with g | g
                 · exact g
                 · rw [List.getElem?_eq_none g] at hu; cases hu
                have := m1 c u hu
                rw [hn1, Nat.mul_one] at this ⊢
                simp only [List.getElem?_toArray]
                rw [hget]
                rcases hq with hq | hq
                · rw [if_pos (by omega)]; exact this
                · rw [if_neg (by omega), if_neg (by omega)]; exact this
               split at hz
               · exact old (.inl (by omega)) hz
               · rename_i q1
                 split at hz
                 · rename_i q2
                   obtain ⟨us', m1, m2⟩ := RepRows.idx (cells := us.toArray) (off := 0) k2 (fun c u hu => by simpa using hu) (q - lo) z hz
                   have hm2 := m2.len
                   refine ⟨us', fun c u hu => ?_, m2.move (fun b hb => hother b (hpr b hb)) (fun _ h => h)⟩
                   have hc : c < us'.length := by
                    rcases Nat.lt_or_ge c us'.length with g | g
                    · exact g
                    · rw [List.getElem?_eq_none g] at hu; cases hu
                   have := m1 c u hu
                   rw [hn1, Nat.mul_one] at this ⊢
                   have hc0 : c = 0 := by omega
                   subst hc0
                   simp only [List.getElem?_toArray, Nat.add_zero, Nat.zero_add] at this ⊢
                   rw [hget, if_neg (by omega), if_pos (by omega), ← hcs, List.getElem?_take, if_pos (by omega), show off + q - (off + lo) = q - lo by omega]
                   exact this
                 · exact old (.inr (by omega)) hz
       · cases he
     · cases he
   · cases he
 · cases he
omit hT in
theorem clrL_copy {α : Type} (l : List α) (y : α) (lo n : Nat) : clrL l y lo n = copyL l (List.replicate n y) lo n := by
 unfold clrL copyL
 simp
theorem clear_sound (h : Inv w0 Fz Pr0 Lo R Pr σ a w) {t ty el : TypeId} {it : TI} (hit : T.get t = some it) (hd : it.d = .slice el) {d : C} {e : Eff} {dst : Option Nat} {dv : Value} (he : evClear T σ.ob el d = some e) (hdv : RepC w R Pr d dv) :
 ∃ u w' R', (Builtin.clear_ #[t] ty #[dv]).run P w = .ok u w' ∧ Inv w0 Fz Pr0 Lo R' Pr (σ.eff dst e) (a.put dst u) w' := by
 have hu := tab_slice hT hit hd
 unfold evClear at he
 split at he
 · rename_i κ sz lo n
   split at he
   · rename_i i ety l hi hob
     split at he
     · rename_i b z hz
       split at he
       · rename_i hcond
         obtain ⟨hn1, hs1, hzl⟩ := hcond
         split at he
         · rename_i y hy
           cases he
           subst hs1
           obtain ⟨ti, zv, g1, g2, g3, g4, g5, g6⟩ := zero_spec hT hi hz w R Pr
           have hzs : zv.cells.size = i.size := by have := g5.length; simp only [Array.length_toList] at this; omega
           obtain ⟨u1, u2, hu12, hy1, hy2⟩ := of_rep hy g5
           have hu2 : u2 = [] := by
            cases u2 with
            | nil => rfl
            | cons _ _ => exact hy2.elim
           subst hu2
           simp only [List.append_nil] at hu12
           have hrows : ∀ k, RepRows w Pr ety (List.replicate k y) (repl k zv.cells.toList) := fun k => by
            induction k with
            | zero => rfl
            | succ k ih => exact ⟨_, _, rfl, by rw [hu12]; exact hy1, ih⟩
           have hzc : (Builtin.zeroCells zv.cells n).toList = repl n zv.cells.toList := by rw [← range_repl]; rfl
           obtain ⟨h0, h1⟩ := h.ob κ _ hob
           obtain ⟨hlo, Ad, cd, rfl, hAd⟩ := hdv
           rw [h0] at hlo
           rw [clrL_copy]
           have hmn : min n (List.replicate n y).length = n := by simp
           have hupd0 : n = 0 → copyL l (List.replicate n y) lo n = l := fun hk => by
            subst hk
            simp [copyL]
           by_cases hk : n = 0
           · refine ⟨.tuple #[], w, R, ?_, ?_⟩
             · subst hk
               cases Ad <;> simp [Builtin.clear_, run_underlying hu]
             · rw [hupd0 hk]
               have h6 := h.upd κ _ (.vec ety l) hob (w' := w) (R' := R) (fun _ _ => rfl) (.inl rfl) (fun _ _ _ => rfl) (Grow.refl _) (fun hre => .inr ⟨hre, rfl⟩) (h.ob κ _ hob) (fun κ' hκ' => by cases hκ')
               exact h6.put dst anyA _ trivial (fun κ hκ => by cases hκ)
           · obtain ⟨o, m0, c', q4, rfl⟩ := hAd hk
             rcases h1 with ⟨h1, _⟩ | ⟨off, cap, cells, el1, h1, h2, h3, h4, h5⟩
             · rw [h1] at q4; cases q4
             · have e1 : off = o := by rw [h1] at q4; injection q4 with q4 _ _; injection q4 with q4; injection q4
               subst e1
               generalize hus : repl n zv.cells.toList = us at *
               have hul : us.length = n * i.size := by rw [← hus, repl_len]; simp [hzs]
               rw [hn1] at h4
               have hle : (lo + n) * i.size ≤ cap * i.size := Nat.mul_le_mul_right _ (by omega)
               rw [Nat.add_mul] at hle
               have hfit : off + lo * i.size + 0 + us.length ≤ cells.size := by omega
               have hone : ∀ v ∈ us, v.oneCell' = true := fun v hv => (hrows n).ones v (by rw [hus]; exact hv)
               have hst := run_storeCells_at P (R κ).blk (off + lo * i.size) el1 us 0 cells w h3 hfit hone
               have hrun : (Builtin.clear_ #[t] ty #[.slice (some ⟨(R κ).blk, off + lo * i.size, none⟩) n cd]).run P w = .ok (.tuple #[]) (w.setRow (R κ).blk (cells.toList.take (off + lo * i.size) ++ us ++ cells.toList.drop (off + lo * i.size + us.length)).toArray) := by
                cases n with
                | zero => exact (hk rfl).elim
                | succ n =>
                  simp only [Nat.add_zero] at hst
                  simp [Builtin.clear_, run_underlying hu, zeroValue, typeInfo, g1, g2, hzc, hst]
               generalize hcur : (cells.toList.take (off + lo * i.size) ++ us ++ cells.toList.drop (off + lo * i.size + us.length)) = cur at hrun
               have hre : real R κ (.vec ety l) := fun z => by rw [z] at h1; cases h1
               have hother : ∀ b, b ≠ (R κ).blk → (w.setRow (R κ).blk cur.toArray).heap[b]? = w.heap[b]? := fun b hb => setRow_other w _ b _ hb
               have hpr : ∀ b, Pr b → b ≠ (R κ).blk := fun b hb e => (h.un κ _ hob hre).1 (e ▸ hb)
               have hcurlen : cur.length = cells.size := by
                rw [← hcur]
                simp only [List.length_append, List.length_take, List.length_drop, Array.length_toList]
                omega
               have hget : ∀ q, cur[q]? = if q < off + lo * i.size then cells[q]? else if q < off + lo * i.size + us.length then us[q - (off + lo * i.size)]? else cells[q]? := fun q => by
                rw [← hcur]
                by_cases q1 : q < off + lo * i.size
                · rw [if_pos q1, List.append_assoc, List.getElem?_append_left (by simp; omega), List.getElem?_take, if_pos q1]; simp
                · rw [if_neg q1]
                  have htl : (cells.toList.take (off + lo * i.size)).length = off + lo * i.size := by simp; omega
                  by_cases q2 : q < off + lo * i.size + us.length
                  · rw [if_pos q2, List.append_assoc, List.getElem?_append_right (by omega), List.getElem?_append_left (by omega), htl]
                  · rw [if_neg q2, List.getElem?_append_right (by simp only [List.length_append, htl]; omega), List.getElem?_drop]
                    simp only [List.length_append, htl]
                    rw [show off + lo * i.size + us.length + (q - (off + lo * i.size + us.length)) = q by omega]
                    simp
               refine ⟨_, _, R, hrun, ?_⟩
               have h6 := h.upd κ _ (.vec ety (copyL l (List.replicate n y) lo n)) hob (w' := w.setRow (R κ).blk cur.toArray) (R' := R) (fun _ _ => rfl) (.inl rfl)
                (fun b hb hne => hother b (hne hre)) ⟨by simp, rfl, rfl, rfl, (by first | exact Nat.le_refl _ | exact Nat.le_succ _ | exact Nat.le_add_right _ _)⟩ (fun _ => .inr ⟨hre, rfl⟩) ?_ (fun κ' hκ' => by cases hκ')
               · exact h6.put dst anyA _ trivial (fun κ hκ => by cases hκ)
               · refine ⟨by rw [copyL_len hlo]; exact h0, .inr ⟨off, cap, cur.toArray, el1, by rw [copyL_len hlo]; exact h1, by rw [copyL_len hlo]; exact h2, setRow_same w _ h3, by simp [hcurlen, hn1]; exact h4, fun q x hx => ?_⟩⟩
                 rw [copyL_get hlo, hmn] at hx
                 have old : (q < lo ∨ lo + n ≤ q) → l[q]? = some x → ∃ us', At cur.toArray (off + q * ety.n) us' ∧ RepTy (w.setRow (R κ).blk cur.toArray) Pr ety x us' := fun hq hx => by
                  obtain ⟨us', m1, m2⟩ := h5 q x hx
                  have hm2 := m2.len
                  refine ⟨us', fun c u hu => ?_, m2.move (fun b hb => hother b (hpr b hb)) (fun _ h => h)⟩
                  have hc : c < us'.length := by
                   rcases Nat.lt_or_ge c us'.length with g | g
                   · exact g
                   · rw [List.getElem?_eq_none g] at hu; cases hu
                  have := m1 c u hu
                  rw [hn1] at this hm2 ⊢
                  simp only [List.getElem?_toArray]
                  rw [hget]
                  rcases hq with hq | hq
                  · have : (q + 1) * i.size ≤ lo * i.size := Nat.mul_le_mul_right _ hq
                    rw [Nat.add_mul] at this
                    rw [if_pos (by omega)]; assumption
                  · have : (lo + n) * i.size ≤ q * i.size := Nat.mul_le_mul_right _ hq
                    rw [Nat.add_mul] at this
                    rw [if_neg (by omega), if_neg (by omega)]; assumption
                 split at hx
                 · exact old (.inl (by assumption)) hx
                 · rename_i q1
                   split at hx
                   · rename_i q2
                     obtain ⟨us', m1, m2⟩ := RepRows.idx (cells := us.toArray) (off := 0) (hus ▸ hrows n) (fun c u hu => by simpa using hu) (q - lo) x hx
                     have hm2 := m2.len
                     refine ⟨us', fun c u hu => ?_, m2.move (fun b hb => hother b (hpr b hb)) (fun _ h => h)⟩
                     have hc : c < us'.length := by
                      rcases Nat.lt_or_ge c us'.length with g | g
                      · exact g
                      · rw [List.getElem?_eq_none g] at hu; cases hu
                     have := m1 c u hu
                     rw [hn1] at this hm2 ⊢
                     simp only [List.getElem?_toArray, Nat.zero_add] at this ⊢
                     have r1 : (q - lo + 1) * i.size ≤ n * i.size := Nat.mul_le_mul_right _ (by omega)
                     have r2 : q * i.size = lo * i.size + (q - lo) * i.size := by rw [← Nat.add_mul]; congr 1; omega
                     rw [Nat.add_mul] at r1
                     rw [hget, if_neg (by omega), if_pos (by omega), show off + q * i.size + c - (off + lo * i.size) = (q - lo) * i.size + c by omega]
                     exact this
                   · exact old (.inr (by omega)) hx
         · cases he
       · cases he
     · cases he
   · cases he
 · cases he
end
end Go.Rx
