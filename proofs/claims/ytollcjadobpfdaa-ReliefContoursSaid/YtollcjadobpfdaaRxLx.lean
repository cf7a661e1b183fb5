/- Reflection, part Lx: arrays that are written or kept for good, maps that are made and written. -/
import Derived.Test.YtollcjadobpfdaaRxL
namespace Go.Rx
set_option linter.unusedVariables false
set_option linter.unusedSimpArgs false
set_option linter.unusedSectionVars false
section
variable {w0 : World} {Fz Pr0 : Nat → Prop} {Lo : Nat → RL} {R : Nat → RL} {Pr : Nat → Prop} {σ : St} {a : Act} {w : World}
theorem Inv.frzb (h : Inv w0 Fz Pr0 Lo R Pr σ a w) {κ : Nat} {cs : List C} {e : Ty} {y : e.D} (hob : σ.ob κ = some (.box cs)) (hy : e.of cs = some (y, [])) (hFz : ∀ b, b < w0.heap.size → Fz b ∨ Pr0 b) :
 Inv w0 Fz Pr0 Lo R (fun b => Pr b ∨ b = (R κ).blk) (σ.setOb κ (some (.fbox e y))) a w := by
 obtain ⟨el, vs, h1, h2⟩ := h.ob κ _ hob
 obtain ⟨u1, u2, g1, g2, g3⟩ := of_rep hy h2
 have hu2 : u2 = [] := by
  cases u2 with
  | nil => rfl
  | cons _ _ => exact g3.elim
 subst hu2
 rw [List.append_nil] at g1
 have hpp : ∀ b, Pr b → (Pr b ∨ b = (R κ).blk) := fun b hb => .inl hb
 have hlt : κ < σ.objs.length := ob_lt' (by rw [hob]; simp)
 have hget : ∀ κ1 x, (σ.setOb κ (some (.fbox e y))).ob κ1 = some x → (κ1 = κ ∧ x = .fbox e y) ∨ (κ1 ≠ κ ∧ σ.ob κ1 = some x) := fun κ1 x hx => by
  rw [St.ob_setOb] at hx
  by_cases g : κ = κ1
  · rw [if_pos ⟨g, hlt⟩] at hx; cases hx; exact .inl ⟨g.symm, rfl⟩
  · rw [if_neg (fun z => g z.1)] at hx; exact .inr ⟨fun z => g z.symm, hx⟩
 have hne : ∀ κ1, σ.ob κ1 ≠ none → (σ.setOb κ (some (.fbox e y))).ob κ1 ≠ none := fun κ1 hk => by
  rw [St.ob_setOb]; split
  · simp
  · exact hk
 have hbu := h.un κ _ hob trivial
 refine { h with tm := fun t => RepA.move (fun _ _ => rfl) hpp (fun _ _ => rfl) (h.tm t), ob := fun κ1 x hx => ?_, un := fun κ1 x hx hre => ?_, ds := fun κ1 κ2 x x' hx hx' hre hre' hkk => ?_, wt := fun t κ1 hk => hne κ1 (h.wt t κ1 hk), wo := fun κ2 x κ1 hx hk => ?_, sz := h.sz, pr := fun b hb => ?_, po := fun b hb hpb => ?_, fx := fun κ1 hk => h.fx κ1 (by simpa [St.setOb] using hk), lm := fun κ1 x b hx hb => ?_ }
 · rcases hget κ1 x hx with ⟨rfl, rfl⟩ | ⟨hk, hx⟩
   · refine ⟨.inr rfl, vs, el, (0, 0), u1, h1, fun c u hu => ?_, g2.move (fun _ _ => rfl) hpp⟩
     rw [Nat.zero_add, ← Array.getElem?_toList, g1]; exact hu
   · exact RepOb.move (fun _ _ => rfl) hpp (fun _ => rfl) rfl (fun _ _ => rfl) (h.ob κ1 x hx)
 · rcases hget κ1 x hx with ⟨rfl, rfl⟩ | ⟨hk, hx⟩
   · exact hre.elim
   · obtain ⟨q1, q2⟩ := h.un κ1 x hx hre
     exact ⟨fun z => z.elim q1 (fun z => h.ds κ1 κ x _ hx hob hre trivial hk z), q2⟩
 · rcases hget κ1 x hx with ⟨rfl, rfl⟩ | ⟨hk, hx⟩
   · exact hre.elim
   · rcases hget κ2 x' hx' with ⟨rfl, rfl⟩ | ⟨hk', hx'⟩
     · exact hre'.elim
     · exact h.ds κ1 κ2 x x' hx hx' hre hre' hkk
 · rcases hget κ2 x hx with ⟨rfl, rfl⟩ | ⟨hk', hx⟩
   · cases hk
   · exact hne κ1 (h.wo κ2 x κ1 hx hk)
 · rcases hb with hb | rfl
   · exact h.pr b hb
   · exact RepOb.lt (o := .box cs) trivial (h.ob κ _ hob)
 · rcases hpb with hpb | rfl
   · exact h.po b hb hpb
   · exact (hFz _ hb).resolve_left hbu.2
 · rcases hget κ1 x hx with ⟨rfl, rfl⟩ | ⟨hk, hx⟩
   · exact hb.elim
   · obtain ⟨q1, q2, q3⟩ := h.lm κ1 x b hx hb
     refine ⟨fun z => z.elim q1 (fun z => (q3 κ _ hob).1 trivial z.symm), q2, fun κ2 x' hx' => ?_⟩
     rcases hget κ2 x' hx' with ⟨rfl, rfl⟩ | ⟨hk', hx'⟩
     · exact ⟨fun z => z.elim, fun _ z => z.elim⟩
     · exact q3 κ2 x' hx'
theorem updI_rep {w : World} {R : Nat → RL} {Pr : Nat → Prop} {k : IntKind} {i : Nat} {v : Int} : ∀ {l : List Int} {us : List Value} {j : Nat}, us = l.map (Value.int k) → All2 (RepC w R Pr) (updI k i v j l) ((us.zipIdx j).map fun (u, q) => if i = q then Value.int k v else u)
 | [], us, j, h => by subst h; trivial
 | a :: l, us, j, h => by
   subst h
   refine ⟨?_, updI_rep rfl⟩
   show (if i = j then Value.int k v else Value.int k a) = Value.int k (if i = j then v else a)
   split <;> rfl
variable {P : Program} {T : Tab} (hT : TabOK P T) {Y : Tys}
include hT
theorem map_upd (h : Inv w0 Fz Pr0 Lo R Pr σ a w) {κ : Nat} {K V : Ty} {l l' : List (K.D × V.D)} {it : Option (Nat × List (K.D × V.D) × Option (K.D × V.D))} (hob : σ.ob κ = some (.map K V l it)) {w' : World} {es' : Array MapEntry} {clock' : Nat} {dst : Option Nat} {u : Value}
 (h1 : w'.heap[(R κ).blk]? = some (.map es' clock')) (h2 : ∀ q, q ≠ (R κ).blk → w'.heap[q]? = w.heap[q]?) (hg : Grow w w') (hm : RepMap w' Pr K V l' es' clock') :
 Inv w0 Fz Pr0 Lo R Pr ((σ.setOb κ (some (.map K V l' none))).put dst anyA) (a.put dst u) w' := by
 have h3 := h.upd κ _ (.map K V l' none) hob (w' := w') (R' := R) (fun _ _ => rfl) (.inl rfl) (fun b hb hne => h2 b (hne trivial)) hg (fun _ => .inr ⟨trivial, rfl⟩)
  ⟨es', clock', h1, hm.1, hm.2.1, hm.2.2, fun _ _ _ z => by cases z⟩ (fun κ' hκ => by cases hκ) (fun b hb => by obtain ⟨_, _, z, _⟩ := hb; cases z)
 exact h3.put dst anyA u trivial (fun κ hκ => by cases hκ)
theorem evX1_sound (hFz : ∀ b, b < w0.heap.size → Fz b ∨ Pr0 b) (h : Inv w0 Fz Pr0 Lo R Pr σ a w) {o : Oper} {e : Eff} (he : evX1 T Y σ.ρ σ.ob σ.objs.length o.dst o.op = some e) (hh : Hold e.conds) :
 ∃ n u w' R' Pr', (execOp a.eval o).run P w = .ok n w' ∧ (n = .value u ∨ (n = .skip ∧ u = undef)) ∧ Inv w0 Fz Pr0 Lo R' Pr' (σ.eff o.dst e) (a.put o.dst u) w' := by
 obtain ⟨dst, op, ty, pos, after, guard⟩ := o
 simp only at he ⊢
 cases op with
 | store t p x =>
   simp only [evX1] at he
   split at he
   · rename_i κ off n sz i k v e1 e2
     split at he
     · rename_i ti cs hti hob
       split at he
       · rename_i l hc hl
         cases he
         simp only [Bool.and_eq_true] at hc
         obtain ⟨⟨c1, c2⟩, c3⟩ := hc
         have c1 := Nat.eq_of_beq_eq_true c1
         have c2 := Nat.eq_of_beq_eq_true c2
         have c3 := Nat.le_of_ble_eq_true c3
         subst c2
         have hp := h.opd p
         have hx := h.opd x
         rw [e1] at hp
         rw [e2] at hx
         obtain ⟨hi, b, o, hb, hp⟩ := hp
         have hb : Value.pointer (some ⟨b, o, none⟩) = .pointer (some ⟨(R κ).blk, off, none⟩) := hb
         cases hb
         have hx : a.eval x = .int k v := hx
         obtain ⟨el, vs, h1, h2⟩ := h.ob κ _ hob
         have hlen := h2.length
         simp only [Array.length_toList] at hlen
         obtain ⟨k1, k2⟩ := storeVar_at hT hti h1 (o := off + i * 1) (xs := [.int k v]) (x := .one (.int k v)) rfl (w := w) (R := R) (Pr := Pr) (v := .int k v) rfl (by simp [c1]) (by omega) (by simp)
         refine ⟨.skip, undef, w.setRow (R κ).blk (vs.toList.take (off + i * 1) ++ [Value.int k v] ++ vs.toList.drop (off + i * 1 + [Value.int k v].length)).toArray, R, Pr, ?_, .inr ⟨rfl, rfl⟩, ?_⟩
         · have : (execOp a.eval ⟨dst, .store t p x, ty, pos, after, guard⟩) = (do Instr.storeAt t (a.eval p) (a.eval x); pure .skip) := rfl
           rw [this, hp, hx, Sem.run_bind, k1]; rfl
         · have hother : ∀ b, b ≠ (R κ).blk → (w.setRow (R κ).blk (vs.toList.take (off + i * 1) ++ [Value.int k v] ++ vs.toList.drop (off + i * 1 + [Value.int k v].length)).toArray).heap[b]? = w.heap[b]? := fun b hb => setRow_other w _ b _ hb
           have hpr : ∀ b, Pr b → b ≠ (R κ).blk := fun b hb e => (h.un κ _ hob trivial).1 (e ▸ hb)
           have h3 := h.upd κ _ (.box (cs.take off ++ updI k i v 0 l ++ cs.drop (off + n))) hob (w' := w.setRow (R κ).blk (vs.toList.take (off + i * 1) ++ [Value.int k v] ++ vs.toList.drop (off + i * 1 + [Value.int k v].length)).toArray) (R' := R) (fun _ _ => rfl) (.inl rfl)
            (fun b hb hne => hother b (hne trivial)) ⟨by simp, rfl, rfl, rfl, (by first | exact Nat.le_refl _ | exact Nat.le_succ _ | exact Nat.le_add_right _ _)⟩ (fun _ => .inr ⟨trivial, rfl⟩) ⟨el, _, setRow_same w _ h1, ?_⟩ ?_
           · exact h3.put dst anyA undef trivial (fun κ hκ => by cases hκ)
           · have hseg : (vs.toList.drop off).take n = l.map (Value.int k) := by
              have h4 := (h2.drop off).take n
              have key : ∀ {ds : List C} {l : List Int} {us : List Value}, intsC k ds = some l → All2 (RepC w R Pr) ds us → us = l.map (Value.int k) := by
               intro ds
               induction ds with
               | nil =>
                 intro l us q1 q2
                 simp only [intsC] at q1; cases q1
                 cases us with
                 | nil => rfl
                 | cons _ _ => exact q2.elim
               | cons c ds ih =>
                 intro l us q1 q2
                 cases c with
                 | int k' z =>
                   simp only [intsC] at q1
                   split at q1
                   · rename_i ek
                     obtain ⟨m, hm, rfl⟩ := Option.map_eq_some_iff.1 q1
                     cases us with
                     | nil => exact q2.elim
                     | cons u us =>
                       rw [List.map_cons, ← ih hm q2.2, ← ek, show u = _ from q2.1]
                   · cases q1
                 | _ => simp [intsC] at q1
              exact key hl h4
             have hlen2 : l.length = n := by
              have := congrArg List.length hseg
              simp at this; omega
             have hall : All2 (RepC w R Pr) (cs.take off ++ updI k i v 0 l ++ cs.drop (off + n)) (vs.toList.take off ++ (((vs.toList.drop off).take n).zipIdx 0).map (fun (u, q) => if i = q then Value.int k v else u) ++ vs.toList.drop (off + n)) :=
              All2.append (All2.append (h2.take off) (updI_rep hseg)) (h2.drop (off + n))
             have heq : (vs.toList.take off ++ (((vs.toList.drop off).take n).zipIdx 0).map (fun (u, q) => if i = q then Value.int k v else u) ++ vs.toList.drop (off + n)) = (vs.toList.take (off + i * 1) ++ [Value.int k v] ++ vs.toList.drop (off + i * 1 + [Value.int k v].length)) := by
              apply List.ext_getElem?
              intro q
              simp only [List.length_singleton, Nat.mul_one]
              by_cases q1 : q < off
              · rw [List.append_assoc, List.getElem?_append_left (by simp; omega), List.append_assoc, List.getElem?_append_left (by simp; omega), List.getElem?_take, List.getElem?_take, if_pos q1, if_pos (by omega)]
              · have hlo : (vs.toList.take off).length = off := by simp; omega
                have hlm : ((((vs.toList.drop off).take n).zipIdx 0).map (fun (u, q) => if i = q then Value.int k v else u)).length = n := by simp; omega
                by_cases q2 : q < off + n
                · rw [List.append_assoc, List.getElem?_append_right (by rw [hlo]; omega), List.getElem?_append_left (by rw [hlm, hlo]; omega), List.getElem?_map, List.getElem?_zipIdx, List.getElem?_take, hlo, if_pos (by omega), List.getElem?_drop]
                  have hv : vs.toList[off + (q - off)]? = some (vs.toList[q]'(by simp; omega)) := by rw [show off + (q - off) = q by omega]; exact List.getElem?_eq_getElem _
                  rw [hv]
                  simp only [Option.map_some, Nat.zero_add]
                  by_cases q3 : i = q - off
                  · rw [if_pos q3, List.append_assoc, List.getElem?_append_right (by simp; omega), List.getElem?_append_left (by simp; omega)]
                    have : q - (vs.toList.take (off + i)).length = 0 := by simp; omega
                    rw [this]; rfl
                  · rw [if_neg q3]
                    by_cases q4 : q < off + i
                    · rw [List.append_assoc, List.getElem?_append_left (by simp; omega), List.getElem?_take, if_pos q4]
                      exact (List.getElem?_eq_getElem _).symm
                    · rw [List.getElem?_append_right (by simp; omega), List.getElem?_drop]
                      have : off + i + 1 + (q - (vs.toList.take (off + i) ++ [Value.int k v]).length) = q := by simp; omega
                      rw [this]
                      exact (List.getElem?_eq_getElem _).symm
                · have hlr : (vs.toList.take (off + i) ++ [Value.int k v]).length = off + i + 1 := by
                   rw [List.length_append, List.length_take, Array.length_toList, List.length_singleton]; omega
                  rw [List.getElem?_append_right (by rw [List.length_append, hlo, hlm]; omega), List.getElem?_append_right (by rw [hlr]; omega), List.getElem?_drop, List.getElem?_drop, List.length_append, hlo, hlm, hlr]
                  congr 1
                  omega
             rw [heq] at hall
             exact hall.mono fun c _ u hu => RepC.move (fun b hb => hother b (hpr b hb)) (fun _ h => h) (fun _ _ => rfl) hu
           · intro κ' hκ'
             obtain ⟨c, hc, hk⟩ := List.mem_flatMap.1 hκ'
             have hno : ∀ (l : List Int) (j : Nat), ∀ c ∈ updI k i v j l, c.refs = [] := by
              intro l
              induction l with
              | nil => intro j c hc; cases hc
              | cons z l ih =>
                intro j c hc
                rcases List.mem_cons.1 hc with rfl | hc
                · rfl
                · exact ih _ c hc
             rcases List.mem_append.1 hc with hc | hc
             · rcases List.mem_append.1 hc with hc | hc
               · exact h.wo κ _ κ' hob (List.mem_flatMap.2 ⟨c, List.mem_of_mem_take hc, hk⟩)
               · rw [hno l 0 c hc] at hk; cases hk
             · exact h.wo κ _ κ' hob (List.mem_flatMap.2 ⟨c, List.mem_of_mem_drop hc, hk⟩)
       · cases he
     · cases he
   · cases he
 | slice t x lo hi mx =>
   cases lo with
   | some _ => cases hi <;> cases mx <;> simp only [evX1] at he <;> cases he
   | none =>
     cases hi with
     | some _ => cases mx <;> simp only [evX1] at he <;> cases he
     | none =>
       cases mx with
       | some _ => simp only [evX1] at he; cases he
       | none =>
         simp only [evX1] at he
         split at he
         · rename_i κ e1
           split at he
           · rename_i cs ey hob hY
             split at he
             · rename_i y hy
               obtain ⟨c, hc, rfl⟩ := Option.map_eq_some_iff.1 he
               have hx := h.opd x
               rw [e1] at hx
               have hx : a.eval x = .pointer (some ⟨(R κ).blk, 0, none⟩) := hx
               have h2 := h.frzb hob hy hFz
               have hlt : κ < σ.objs.length := ob_lt' (by rw [hob]; simp)
               obtain ⟨k2, cells, el, fr, us, k3, k4, k5⟩ := h2.ob κ (.fbox ey y) (by rw [St.ob_setOb, if_pos ⟨rfl, hlt⟩])
               obtain ⟨u, m1, m2, m3⟩ := arrL_sound hT hc k2 k3 k4 (cells_rep (R := R) k5)
               refine ⟨_, u, w, R, _, ?_, .inl rfl, h2.put dst (oneA c) u m2 (fun κ hκ => by
                have hκ : κ ∈ c.refs := hκ
                rw [m3] at hκ; cases hκ)⟩
               have : (execOp a.eval ⟨dst, .slice t x none none none, ty, pos, after, guard⟩) = (do pure (.value (← Instr.sliceAt t (a.eval x) none none none))) := rfl
               rw [this, hx, Sem.run_bind, show Instr.sliceAt t (Value.pointer (some ⟨(R κ).blk, 0, none⟩)) none none none = Instr.sliceAt t (Value.pointer (some ⟨(R κ).blk, 0 + 0, none⟩)) none none none from rfl, m1]
               rfl
             · cases he
           · cases he
         · cases he
 | makeMap t r =>
   cases r with
   | some _ => simp only [evX1] at he; cases he
   | none =>
     simp only [evX1] at he
     split at he
     · rename_i d K V hs hY
       split at he
       · rename_i y hy
         obtain ⟨k, v, hu, hk, _⟩ := mapB_spec hT hy
         obtain ⟨hok, hd, rfl⟩ := mkNew_spec he
         obtain ⟨R', g⟩ := h.newOb (d := d) (o := .map K V [] none) (loc := ⟨w.heap.size, none, 0, 0⟩) (w' := w.alloc (.map #[] 0)) hd hok (fun b hb => alloc_old w _ b hb) ⟨by simp, rfl, rfl, rfl, (by first | exact Nat.le_refl _ | exact Nat.le_succ _ | exact Nat.le_add_right _ _)⟩ (fun _ => rfl)
          (fun R' hR _ => ⟨#[], 0, by rw [hR]; exact alloc_new w _, ⟨by simp, fun e he => by simp at he⟩, rfl, fun i kv en h1 => by simp at h1, fun _ _ _ z => by cases z⟩) (fun κ hκ => by cases hκ) (some d) (.mp d) (.map (some w.heap.size)) (fun R' hR => by show _ = _; rw [hR]) rfl (fun R' b hR hb => by obtain ⟨_, _, z, _⟩ := hb; cases z)
         refine ⟨_, .map (some w.heap.size), w.alloc (.map #[] 0), R', Pr, ?_, .inl rfl, g⟩
         simp [execOp, Instr.makeMap]
       · cases he
     · cases he
 | mapUpdate t m k x =>
   simp only [evX1] at he
   split at he
   · rename_i κ e1
     split at he
     · rename_i K V l it hob
       split at he
       · rename_i y kk xx hy hk hx
         cases he
         have hm := h.opd m
         rw [e1] at hm
         have hm : a.eval m = .map (some (R κ).blk) := hm
         obtain ⟨es, clock, g1, g2, g3, g4, _⟩ := h.ob κ _ hob
         obtain ⟨es', clock', w', r1, r2, r3, r4, r5, r6⟩ := run_update_map hT hy (h.un κ _ hob trivial).1 g1 ⟨g2, g3, g4⟩ kk (datOf_rep hk (h.opd k)) xx (datOf_rep hx (h.opd x))
         refine ⟨_, undef, w', R, Pr, ?_, .inr ⟨rfl, rfl⟩, map_upd hT h hob r2 r3 r5 r6⟩
         have : (execOp a.eval ⟨dst, .mapUpdate t m k x, ty, pos, after, guard⟩) = (do Instr.mapUpdate t (a.eval m) (a.eval k) (a.eval x); pure .skip) := rfl
         rw [this, hm, Sem.run_bind, r1]; rfl
       · cases he
     · cases he
   · cases he
 | call c =>
   obtain ⟨callee, args, argTypes⟩ := c
   cases callee with
   | builtin b =>
     cases b with
     | delete =>
       simp only [evX1] at he
       split at he
       · rename_i m k t t' e0 e0'
         split at he
         · rename_i κ e1
           split at he
           · rename_i K V l it hob
             split at he
             · rename_i y kk hy hk
               cases he
               obtain rfl : args = #[m, k] := by apply Array.ext'; simpa using e0
               obtain rfl : argTypes = #[t, t'] := by apply Array.ext'; simpa using e0'
               have hm := h.opd m
               rw [e1] at hm
               have hm : a.eval m = .map (some (R κ).blk) := hm
               obtain ⟨es, clock, g1, g2, g3, g4, _⟩ := h.ob κ _ hob
               obtain ⟨es', clock', w', r1, r2, r3, r4, r5, r6⟩ := run_delete_map hT (t' := t') (ty := ty) hy (h.un κ _ hob trivial).1 g1 ⟨g2, g3, g4⟩ kk (datOf_rep hk (h.opd k))
               exact ⟨_, .tuple #[], w', R, Pr, by simp [execOp, resolve, invoke, builtin, hm, r1], .inl rfl, map_upd hT h hob r2 r3 r5 r6⟩
             · cases he
           · cases he
         · cases he
       · cases he
     | _ => simp only [evX1] at he; cases he
   | _ => simp only [evX1] at he; cases he
 | _ => simp only [evX1] at he; cases he
theorem evX_sound (hFz : ∀ b, b < w0.heap.size → Fz b ∨ Pr0 b) (h : Inv w0 Fz Pr0 Lo R Pr σ a w) {o : Oper} {e : Eff} (he : evX T Y σ.ρ σ.ob σ.objs.length o.dst o.op = some e) (hh : Hold e.conds) :
 ∃ n u w' R' Pr', (execOp a.eval o).run P w = .ok n w' ∧ (n = .value u ∨ (n = .skip ∧ u = undef)) ∧ Inv w0 Fz Pr0 Lo R' Pr' (σ.eff o.dst e) (a.put o.dst u) w' := by
 have lift : (∃ n u w' R', (execOp a.eval o).run P w = .ok n w' ∧ (n = .value u ∨ (n = .skip ∧ u = undef)) ∧ Inv w0 Fz Pr0 Lo R' Pr (σ.eff o.dst e) (a.put o.dst u) w') → ∃ n u w' R' Pr', (execOp a.eval o).run P w = .ok n w' ∧ (n = .value u ∨ (n = .skip ∧ u = undef)) ∧ Inv w0 Fz Pr0 Lo R' Pr' (σ.eff o.dst e) (a.put o.dst u) w' :=
  fun ⟨n, u, w', R', k⟩ => ⟨n, u, w', R', Pr, k⟩
 unfold evX at he
 split at he
 · rename_i e' he'
   cases he
   exact lift (evX0_sound hT h he' hh)
 · split at he
   · rename_i e' he'
     cases he
     exact lift (evR_sound hT h he' hh)
   · split at he
     · rename_i e' he'
       cases he
       exact lift (evS_sound hT h he' hh)
     · split at he
       · rename_i e' he'
         cases he
         exact lift (evC_sound hT h he')
       · exact evX1_sound hT hFz h he hh
end
end Go.Rx
