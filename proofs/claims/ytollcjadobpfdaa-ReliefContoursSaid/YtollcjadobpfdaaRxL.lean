/- Reflection, part L: every operation that makes or writes objects. -/
import Derived.Test.YtollcjadobpfdaaRxK
namespace Go.Rx
set_option linter.unusedVariables false
set_option linter.unusedSimpArgs false
set_option linter.unusedSectionVars false
section
variable {w0 : World} {Fz Pr0 : Nat → Prop} {Lo : Nat → RL} {R : Nat → RL} {Pr : Nat → Prop} {σ : St} {a : Act} {w : World}
variable {P : Program} {T : Tab} (hT : TabOK P T) {Y : Tys}
theorem fold_size (off : Nat) : ∀ (l : List (Value × Nat)) (cells : Array Value), (l.foldl (fun cs (c, j) => cs.setIfInBounds (off + j) c) cells).size = cells.size
 | [], _ => rfl
 | x :: l, cells => by rw [List.foldl_cons, fold_size off l]; simp
theorem fill_size {place : Nat → Option (Nat × Nat)} : ∀ (vals : List (Nat × Value)) (vs us : Array Value), Instr.fill place vs vals = some us → us.size = vs.size
 | [], vs, us, h => by simp [Instr.fill] at h; rw [h]
 | (i, v) :: r, vs, us, h => by
   simp only [Instr.fill] at h
   split at h
   · cases h
   · split at h
     · cases h
     · rw [fill_size r _ us h]
       rw [← Array.foldl_toList]
       exact fold_size _ _ _
include hT
theorem makeSlice_run {t el : TypeId} {i : TI} {ti : TypeInfo} {zv : Value} {n : Int} (hu : P.underlying t = some (.slice el)) (hi : T.get el = some i) (g1 : P.info? el = some ti) (g2 : ti.zero = some zv) (g4 : ti.bytes = i.bytes) (hby : i.bytes ≤ 1024) (h0 : 0 ≤ n) (h1 : n ≤ 1073741824) :
 (Instr.makeSlice t (.int .i64 n) (.int .i64 n)).run P w = .ok (.slice (some ⟨w.heap.size, 0, none⟩) n.toNat n.toNat) (w.alloc (.cells ((Array.range (n.toNat * i.size)).map (zv.cells[· % zv.cells.size]!)) el)) := by
 have hw : IntKind.i64.wrap n = n := by
  have h3 : n % 2 ^ 64 = n := Int.emod_eq_of_lt h0 (by omega)
  have h4 : ¬ (n ≥ 2 ^ 63) := by omega
  simp [IntKind.wrap, IntKind.bits, IntKind.signed]
  omega
 have hbytes : ¬ (ti.bytes : Int) * n > 2 ^ 48 := by
  have h2 : (ti.bytes : Int) ≤ 1024 := by rw [g4]; omega
  have : (ti.bytes : Int) * n ≤ 1024 * 1073741824 := Int.mul_le_mul h2 h1 h0 (by omega)
  omega
 have hsize := tab_size hT hi w
 have hinfo : (typeInfo el).run P w = .ok ti w := by simp [typeInfo, g1]
 have hz1 : (zeroValue el).run P w = .ok zv w := by simp [zeroValue, typeInfo, g1, g2]
 have hrange : n.toNat * i.size = 0 → ((Array.range (n.toNat * i.size)).map (fun x => (#[] : Array Value)[x % (#[] : Array Value).size]!)) = ((Array.range (n.toNat * i.size)).map (zv.cells[· % zv.cells.size]!)) := fun h0 => by
  rw [h0]; apply Array.ext'; simp
 unfold Instr.makeSlice
 simp only [Sem.run_bind, run_underlying hu, Result.andThen_ok, asInt, asIntOf, Sem.run_pure, hinfo, hw]
 rw [if_neg (by
  simp only [Bool.or_eq_true, decide_eq_true_eq, not_or]
  omega)]
 simp only [Sem.run_bind, run_askRoom, Sem.run_pure, Result.andThen_ok, hsize]
 by_cases hz0 : n.toNat * i.size = 0
 · rw [if_pos hz0]
   simp only [Sem.run_bind, Sem.run_pure, Result.andThen_ok, hrange hz0]
   simp [newRow]
 · rw [if_neg hz0]
   simp only [Sem.run_bind, Sem.run_pure, Result.andThen_ok, hz1]
   simp [newRow]
theorem evX0_sound (h : Inv w0 Fz Pr0 Lo R Pr σ a w) {o : Oper} {e : Eff} (he : evX0 T Y σ.ρ σ.ob σ.objs.length o.dst o.op = some e) (hh : Hold e.conds) :
 ∃ n u w' R', (execOp a.eval o).run P w = .ok n w' ∧ (n = .value u ∨ (n = .skip ∧ u = undef)) ∧ Inv w0 Fz Pr0 Lo R' Pr (σ.eff o.dst e) (a.put o.dst u) w' := by
 obtain ⟨dst, op, ty, pos, after, guard⟩ := o
 simp only at he ⊢
 cases op with
 | box el x =>
   simp only [evX0] at he
   split at he
   · rename_i d x1 hx
     split at he
     · rename_i cs hcs
       have hr := h.opd x
       rw [hx] at hr
       obtain ⟨R', hR'⟩ := box_sound hT h (dst := some d) (el := el) (vs := (a.eval x).cells) he (cpCells_rep hr hcs).1 (fun c hc κ hκ => h.opr x (by rw [hx]; exact cp_refs hT hcs hc hκ))
       exact ⟨_, _, _, R', by simp [execOp, Instr.box, newVar, newRow], .inl rfl, hR'⟩
     · cases he
   · cases he
 | alloc el =>
   simp only [evX0] at he
   split at he
   · rename_i d i hi
     split at he
     · rename_i b z hz
       obtain ⟨ti, zv, g1, g2, g3, g4, g5, g6⟩ := zero_spec hT hi hz w R Pr
       obtain ⟨R', hR'⟩ := box_sound hT h (dst := some d) (el := el) (vs := zv.cells) he g5 (fun c hc κ hκ => by rw [g6 c hc] at hκ; cases hκ)
       exact ⟨_, _, _, R', by simp [execOp, Instr.alloc, newVar, newRow, zeroValue, typeInfo, g1, g2], .inl rfl, hR'⟩
     · cases he
   · cases he
 | buildSlice t n parts =>
   simp only [evX0] at he
   split at he
   · rename_i d it hit
     split at he
     · rename_i el hd
       split at he
       · rename_i i ety hi hety
         split at he
         · rename_i b z hz
           split at he
           · rename_i hcond
             obtain ⟨hzl, hsz, hbig⟩ := hcond
             split at he
             · rename_i cs hcs
               split at he
               · rename_i l hl
                 have hu := tab_slice hT hit hd
                 obtain ⟨ti, zv, g1, g2, g3, g4, g5, g6⟩ := zero_spec hT hi hz w R Pr
                 have hzs : zv.cells.size = i.size := by have := g5.length; simp only [Array.length_toList] at this; omega
                 have hp : All2 (fun p v => p.1 = v.1 ∧ RepA w R Pr p.2 v.2) (parts.toList.map fun p => (p.1, σ.ρ p.2)) (parts.map fun (i, x) => (i, a.eval x)).toList := by
                  rw [Array.toList_map]
                  exact All2_map _ fun p _ => ⟨rfl, h.opd p.2⟩
                 have hr0 : All2 (RepC w R Pr) (repl n z) (((Array.range (n * i.size)).map (zv.cells[· % zv.cells.size]!))).toList := by
                  rw [← hzs, range_repl]
                  exact repl_rep g5 n
                 obtain ⟨us, k1, k2, k3⟩ := fill_rep (w := w) (R := R) (Pr := Pr) _ _ _ cs _ hcs hr0 hp
                 obtain ⟨l1, l2⟩ := ofs_rep hl k2
                 have husz : us.size = n * i.size := by rw [fill_size _ _ _ k1]; simp
                 obtain ⟨R', hR'⟩ := vec_sound hT h (dst := some d) (el := el) (w1 := w) (cells := us) (us := us.toList) (cap := n) rfl (Grow.refl _) he (fun c u hu => by simpa using hu) l1 (by omega) (by rw [hsz, husz]; exact Nat.le_refl _)
                 rw [l2] at hR'
                 refine ⟨_, _, _, R', ?_, .inl rfl, hR'⟩
                 have hbig' : ¬ 16777216 < n * i.size := by omega
                 have hz1 : (zeroValue el).run P w = .ok zv w := by simp [zeroValue, typeInfo, g1, g2]
                 have hrange : n * i.size = 0 → ((Array.range (n * i.size)).map (fun x => (#[] : Array Value)[x % (#[] : Array Value).size]!)) = ((Array.range (n * i.size)).map (zv.cells[· % zv.cells.size]!)) := fun h0 => by
                  rw [h0]; apply Array.ext'; simp
                 have hsize := tab_size hT hi w
                 have hrun : (Instr.buildSlice t n (parts.map fun (i, x) => (i, a.eval x))).run P w = .ok (.slice (some ⟨w.heap.size, 0, none⟩) n n) (w.alloc (.cells us el)) := by
                  unfold Instr.buildSlice
                  simp only [Sem.run_bind, run_underlying hu, Result.andThen_ok, hsize]
                  rw [if_neg (by simpa using hbig')]
                  by_cases hz0 : n * i.size = 0
                  · rw [if_pos hz0]
                    simp only [Sem.run_bind, Sem.run_pure, Result.andThen_ok, hrange hz0, k1]
                    simp [newRow]
                  · rw [if_neg hz0]
                    simp only [Sem.run_bind, Sem.run_pure, Result.andThen_ok, hz1, k1]
                    simp [newRow]
                 simp [execOp, hrun]
               · cases he
             · cases he
           · cases he
         · cases he
       · cases he
     · cases he
   · cases he
 | makeSlice t l c =>
   simp only [evX0] at he
   split at he
   · rename_i d it hit
     split at he
     · rename_i el hd
       split at he
       · rename_i i ety hi hety
         split at he
         · rename_i b z hz
           split at he
           · rename_i hcond
             obtain ⟨hzl, hsz, hby, hsame⟩ := hcond
             split at he
             · rename_i y n hy hn
               have hu := tab_slice hT hit hd
               obtain ⟨ti, zv, g1, g2, g3, g4, g5, g6⟩ := zero_spec hT hi hz w R Pr
               have hzs : zv.cells.size = i.size := by have := g5.length; simp only [Array.length_toList] at this; omega
               obtain ⟨n1, n2, rfl⟩ := mkNew_spec he
               have h0 : 0 ≤ n := hh ⟨0 ≤ n, inferInstance⟩ (by simp)
               have h1 : n ≤ 1073741824 := hh ⟨n ≤ 1073741824, inferInstance⟩ (by simp)
               have hl : a.eval l = .int .i64 n := by
                have := h.opd l
                rw [hn] at this; exact this
               have hlc : a.eval c = a.eval l := by
                cases l <;> cases c <;> simp only [sameOp] at hsame <;> try cases hsame
                rw [Nat.beq_eq] at hsame; rw [hsame]
               obtain ⟨u1, u2, hu12, hy1, hy2⟩ := of_rep hy g5
               have hu2 : u2 = [] := by
                cases u2 with
                | nil => rfl
                | cons _ _ => exact hy2.elim
               subst hu2
               simp only [List.append_nil] at hu12
               have hcell : ((Array.range (n.toNat * i.size)).map (zv.cells[· % zv.cells.size]!)).toList = repl n.toNat zv.cells.toList := by rw [← hzs, range_repl]
               have hrows : ∀ k, RepRows w Pr ety (List.replicate k y) (repl k zv.cells.toList) := fun k => by
                induction k with
                | zero => rfl
                | succ k ih => exact ⟨_, _, rfl, by rw [hu12]; exact hy1, ih⟩
               obtain ⟨R', hR'⟩ := vec_sound hT h (dst := some d) (el := el) (w1 := w) (cells := (Array.range (n.toNat * i.size)).map (zv.cells[· % zv.cells.size]!)) (us := repl n.toNat zv.cells.toList) (cap := n.toNat) rfl (Grow.refl _) he (fun c u hu => by
                rw [Nat.zero_add]
                rw [← hcell] at hu
                rw [← Array.getElem?_toList]; exact hu) (hrows _) (by simp) (by simp [hsz])
               rw [List.length_replicate] at hR'
               refine ⟨_, _, _, R', ?_, .inl rfl, hR'⟩
               have hrun : (Instr.makeSlice t (a.eval l) (a.eval c)).run P w = .ok (.slice (some ⟨w.heap.size, 0, none⟩) n.toNat n.toNat) (w.alloc (.cells ((Array.range (n.toNat * i.size)).map (zv.cells[· % zv.cells.size]!)) el)) := by
                rw [hlc, hl]; exact makeSlice_run hT hu hi g1 g2 g4 hby h0 h1
               simp [execOp, hrun]
             · cases he
           · cases he
         · cases he
       · cases he
     · cases he
   · cases he
 | makeMap t r =>
   cases r with
   | some r => simp only [evX0] at he; cases he
   | none =>
     simp only [evX0] at he
     split at he
     · rename_i d hs
       obtain ⟨h1, h2, rfl⟩ := mkNew_spec he
       obtain ⟨R', hR'⟩ := h.newOb (dst := some d) (v := .mp d) (u := .map (some w.heap.size)) (o := .set []) (loc := ⟨w.heap.size, none, 0, 0⟩) (w' := w.alloc (.map #[] 0)) h2 h1 (fun b hb => alloc_old w _ b hb) ⟨by simp, rfl, rfl, rfl, (by first | exact Nat.le_refl _ | exact Nat.le_succ _ | exact Nat.le_add_right _ _)⟩ (fun _ => rfl)
        (fun R' hRd hRo => ⟨#[], 0, by rw [hRd]; exact alloc_new w _, [], fun x => by simp, trivial⟩) (fun κ hκ => by cases hκ) (fun R' hRd => by simp only [RepC]; rw [hRd]) rfl
       exact ⟨_, _, _, R', by simp [execOp, Instr.makeMap], .inl rfl, hR'⟩
     · cases he
 | mapUpdate t m k x =>
   simp only [evX0] at he
   split at he
   · rename_i κ a' b' e1 e2 e3
     split at he
     · rename_i l hs ho
       cases he
       have hm := h.opd m
       have hk := h.opd k
       have hx := h.opd x
       rw [e1] at hm
       rw [e2] at hk
       rw [e3] at hx
       have hm : a.eval m = .map (some (R κ).blk) := hm
       have hx : a.eval x = .bool true := hx
       obtain ⟨vs, hk1, hk2⟩ := hk
       have hvs : vs = #[.int .i64 a', .int .i64 b'] := by
        apply Array.ext'
        generalize vs.toList = l at hk2
        match l, hk2 with
        | [u, v], h => rw [show u = _ from h.1, show v = _ from h.2.1]
       have hk1 : a.eval k = pk a' b' := by rw [hk1, hvs]
       obtain ⟨es, clock, hb, hr⟩ := h.ob κ _ ho
       obtain ⟨es', clock', w', r1, r2, r3, r4, r5, r6, r7, r9, r8⟩ := run_update_set hT hs hb hr a' b'
       have h6 := h.upd κ _ (.set (l ++ [(a', b')])) ho (w' := w') (R' := R) (fun _ _ => rfl) (.inl rfl) (fun b hb hne => r3 b (hne trivial)) ⟨by omega, r5, r6, r7, Nat.le_of_eq r9.symm⟩ (fun _ => .inr ⟨trivial, rfl⟩) ⟨es', clock', r2, r8⟩ (fun κ' hκ' => by cases hκ')
       exact ⟨_, _, w', R, by simp [execOp, hm, hk1, hx, r1], .inr ⟨rfl, rfl⟩, h6.put dst anyA undef trivial (fun κ hκ => by cases hκ)⟩
     · cases he
   · cases he
 | store t p x =>
   simp only [evX0] at he
   split at he
   · rename_i c cx hp hx
     have h1 := h.opd p
     have h2 := h.opd x
     rw [hp] at h1
     rw [hx] at h2
     obtain ⟨w', R', k1, k2⟩ := store_sound hT h (dst := dst) he h1 (fun κ hκ => h.opr p (by rw [hp]; exact hκ)) h2 (fun κ hκ => h.opr x (by rw [hx]; exact hκ))
     exact ⟨_, _, _, R', by simp [execOp, k1], .inr ⟨rfl, rfl⟩, k2⟩
   · cases he
 | call c =>
   obtain ⟨callee, args, argTypes⟩ := c
   cases callee with
   | builtin b =>
     cases b with
     | append =>
       simp only [evX0] at he
       split at he
       · rename_i s x t t' d e1 e2
         split at he
         · rename_i sc xc it hs hx hit
           split at he
           · rename_i el hd
             split at he
             · rename_i htt
               subst htt
               obtain rfl : args = #[s, x] := by apply Array.ext'; simpa using e1
               obtain rfl : argTypes = #[t, t] := by apply Array.ext'; simpa using e2
               have h1 := h.opd s
               have h2 := h.opd x
               rw [hs] at h1
               rw [hx] at h2
               obtain ⟨u, w', R', k1, k2⟩ := append_sound hT h (ty := ty) hit hd he hh h1 h2
               exact ⟨_, u, w', R', by simp [execOp, resolve, invoke, builtin, k1], .inl rfl, k2⟩
             · cases he
           · cases he
         · cases he
       · cases he
     | copy =>
       simp only [evX0] at he
       split at he
       · rename_i d s t t' e1 e2
         split at he
         · rename_i dc sc it hd hs hit
           split at he
           · rename_i el hdd
             obtain rfl : args = #[d, s] := by apply Array.ext'; simpa using e1
             obtain rfl : argTypes = #[t, t'] := by apply Array.ext'; simpa using e2
             have h1 := h.opd d
             have h2 := h.opd s
             rw [hd] at h1
             rw [hs] at h2
             obtain ⟨u, w', R', k1, k2⟩ := copy_sound hT h (t' := t') (ty := ty) (dst := dst) hit hdd he h1 h2
             exact ⟨_, u, w', R', by simp [execOp, resolve, invoke, builtin, k1], .inl rfl, k2⟩
           · cases he
         · cases he
       · cases he
     | _ => simp only [evX0] at he; cases he
   | _ => simp only [evX0] at he; cases he
 | _ => simp only [evX0] at he; cases he
theorem evR_sound (h : Inv w0 Fz Pr0 Lo R Pr σ a w) {o : Oper} {e : Eff} (he : evR T Y σ.ρ σ.ob σ.objs.length o.dst o.op = some e) (hh : Hold e.conds) :
 ∃ n u w' R', (execOp a.eval o).run P w = .ok n w' ∧ (n = .value u ∨ (n = .skip ∧ u = undef)) ∧ Inv w0 Fz Pr0 Lo R' Pr (σ.eff o.dst e) (a.put o.dst u) w' := by
 obtain ⟨dst, op, ty, pos, after, guard⟩ := o
 simp only at he ⊢
 cases op with
 | makeSlice t l c =>
   simp only [evR] at he
   split at he
   · rename_i d it hit
     split at he
     · rename_i el hd
       split at he
       · rename_i i ety hi hety
         split at he
         · rename_i b hz
           split at he
           · rename_i hcond
             obtain ⟨hsz, hby, hsame⟩ := hcond
             split at he
             · rename_i n hn
               have hu := tab_slice hT hit hd
               obtain ⟨ti, zv, g1, g2, g3, g4, g5, g6⟩ := zero_spec hT hi hz w R Pr
               have hzv : zv.cells = #[.slice none 0 0] := by
                apply Array.ext'
                generalize zv.cells.toList = l at g5
                match l, g5 with
                | [u], h => rw [show u = _ from h.1]
               obtain ⟨n1, n2, rfl⟩ := mkNew_spec he
               have h0 : 0 ≤ n := hh ⟨0 ≤ n, inferInstance⟩ (by simp)
               have h1 : n ≤ 1073741824 := hh ⟨n ≤ 1073741824, inferInstance⟩ (by simp)
               have hl : a.eval l = .int .i64 n := by
                have := h.opd l
                rw [hn] at this; exact this
               have hlc : a.eval c = a.eval l := by
                cases l <;> cases c <;> simp only [sameOp] at hsame <;> try cases hsame
                rw [Nat.beq_eq] at hsame; rw [hsame]
               have hrun := makeSlice_run (P := P) (w := w) (t := t) hT hu hi g1 g2 g4 hby h0 h1
               rw [hsz, Nat.mul_one, hzv] at hrun
               generalize hcs : (Array.range n.toNat).map ((#[Value.slice none 0 0] : Array Value)[· % (#[Value.slice none 0 0] : Array Value).size]!) = cs at hrun
               have hcell : ∀ j (v : Value), cs[j]? = some v → v = .slice none 0 0 := fun j v hv => by
                rw [← hcs] at hv
                rw [Array.getElem?_map] at hv
                obtain ⟨k, _, rfl⟩ := Option.map_eq_some_iff.1 hv
                simp [Nat.mod_one]
               have hcsz : cs.size = n.toNat := by rw [← hcs]; simp
               obtain ⟨R', hR'⟩ := h.newOb (d := d) (o := .rows ety (List.replicate n.toNat []) none) (loc := ⟨w.heap.size, some ⟨w.heap.size, 0, none⟩, n.toNat, n.toNat⟩) (w' := w.alloc (.cells cs el)) n2 n1 (alloc_old w _) ⟨by show w.heap.size ≤ (w.heap.push _).size; simp, rfl, rfl, rfl, (by first | exact Nat.le_refl _ | exact Nat.le_succ _ | exact Nat.le_add_right _ _)⟩ (fun _ => rfl)
                (fun R1 hR1 _ => by
                  refine ⟨by rw [hR1]; simp, 0, n.toNat, cs, el, by rw [hR1]; simp [RL.hdr], by simp, by rw [hR1]; exact alloc_new w _, by omega, fun j row hj _ => ?_, fun j j' v v' b hjj _ _ hj hj' h1 h2 h3 => ?_⟩
                  · have hj2 := (List.getElem?_eq_some_iff.1 hj).1
                    rw [List.length_replicate] at hj2
                    have hlt : 0 + j < cs.size := by omega
                    refine ⟨_, Array.getElem?_eq_getElem hlt, .inl ⟨hcell _ _ (Array.getElem?_eq_getElem hlt), ?_⟩⟩
                    rw [List.getElem?_replicate, if_pos hj2] at hj
                    exact (Option.some.inj hj).symm
                  · rw [hcell _ _ h1] at h3; cases h3)
                (fun κ hκ => by cases hκ) (some d) (.own d) (.slice (some ⟨w.heap.size, 0, none⟩) n.toNat n.toNat) (fun R1 hR1 => by
                  show _ = _
                  rw [hR1]; rfl) rfl (fun R1 b hR1 hb => by
                  obtain ⟨off, n', cap, cells, el', j, v, m1, m2, _, _, m5, m6⟩ := hb
                  rw [hR1] at m2
                  rw [alloc_new] at m2
                  cases m2
                  rw [hcell _ _ m5] at m6; cases m6)
               refine ⟨_, _, _, R', ?_, .inl rfl, hR'⟩
               simp only [execOp]
               rw [hlc, hl]
               simp [hrun]
             · cases he
           · cases he
         · cases he
       · cases he
     · cases he
   · cases he
 | _ => simp only [evR] at he; cases he
theorem evS_sound (h : Inv w0 Fz Pr0 Lo R Pr σ a w) {o : Oper} {e : Eff} (he : evS T Y σ.ρ σ.ob σ.objs.length o.dst o.op = some e) (hh : Hold e.conds) :
 ∃ n u w' R', (execOp a.eval o).run P w = .ok n w' ∧ (n = .value u ∨ (n = .skip ∧ u = undef)) ∧ Inv w0 Fz Pr0 Lo R' Pr (σ.eff o.dst e) (a.put o.dst u) w' := by
 obtain ⟨dst, op, ty, pos, after, guard⟩ := o
 simp only at he ⊢
 cases op with
 | slice t x low high mx =>
   cases mx with
   | some m => simp only [evS] at he; cases he
   | none =>
     simp only [evS] at he
     split at he
     · rename_i d
       split at he
       · split at he
         · rename_i κ lo hi e1 hlo hhi
           split at he
           · rename_i ety l hob hokk
             split at he
             · rename_i out hout
               cases he
               have hx := h.opd x
               rw [e1] at hx
               have hx : a.eval x = (R κ).hdr := hx
               unfold evSlice at hout
               simp only [hob] at hout
               split at hout
               · rename_i it hit
                 split at hout
                 · rename_i el hd
                   split at hout
                   · rename_i i hi'
                     split at hout
                     · rename_i hsz
                       rw [Nat.beq_eq] at hsz
                       cases hout
                       obtain ⟨q0, q1⟩ := h.ob κ _ hob
                       have hcap : l.length ≤ (R κ).cap := by
                        rcases q1 with ⟨_, rfl⟩ | ⟨off, cap, cells, el1, q2, q3, _⟩
                        · simp
                        · have : (R κ).cap = cap := by have := q2; simp only [RL.hdr] at this; injection this
                          omega
                       have hv : a.eval x = .slice (R κ).adr l.length (R κ).cap := by rw [hx, RL.hdr, q0]
                       obtain ⟨k1, k2, k3, k4⟩ := bounds_run (P := P) hT (fun y => h.opd y) hlo hhi hcap (fun z (hz : z ∈ slC1 l.length hi) => hh z (List.mem_append_left _ hz)) (fun z (hz : z ∈ slC2 (slHi l.length hi) lo) => hh z (List.mem_append_right _ hz))
                       have hu := tab_slice hT hit hd
                       have hlen : (slDrop lo (slTake hi l)).length = (slHi l.length hi).toNat - (slLo lo).toNat := by
                        rw [slDrop_eq hT lo hi l k2 k3 k4, List.length_drop, List.length_take]; omega
                       generalize hloc : (⟨(R κ).blk, if (R κ).cap = (slLo lo).toNat then (R κ).adr else (R κ).adr.map (·.add ((slLo lo).toNat * i.size)), (slHi l.length hi).toNat - (slLo lo).toNat, (R κ).cap - (slLo lo).toNat⟩ : RL) = loc
                       have hrun : (Instr.sliceAt t (a.eval x) (low.map a.eval) (high.map a.eval) none).run P w = .ok loc.hdr w := by
                        rw [hv, ← hloc]
                        simp only [Instr.sliceAt, Instr.slice, Sem.run_bind, run_underlying hu, Result.andThen_ok, RL.hdr]
                        rw [k1]
                        simp only [Result.andThen_ok, tab_size hT hi', Sem.run_pure]
                       have h2 := h.kill κ
                       have hobk : (σ.kill κ).ob κ = some (.vec ety l) := by rw [ob_kill, hob]; rfl
                       have hltk : κ < (σ.kill κ).objs.length := ob_lt' (by rw [hobk]; simp)
                       have hRκ : (fun κ' => if κ' = κ then loc else R κ') κ = loc := by simp
                       have hlb : loc.blk = (R κ).blk := by rw [← hloc]
                       have hreal : loc.hdr ≠ .slice none 0 0 → real R κ (.vec ety l) := fun hne => by
                        intro hz
                        rcases q1 with ⟨g1, rfl⟩ | ⟨off, cap, cells, el1, g1, _⟩
                        · apply hne
                          have e1 : (R κ).adr = none := by have := g1; simp only [RL.hdr] at this; injection this
                          have e2 : (R κ).cap = 0 := by have := g1; simp only [RL.hdr] at this; injection this
                          have e3 : (slHi ([] : List ety.D).length hi).toNat = 0 := by simp at k4 ⊢; omega
                          rw [← hloc, RL.hdr, e1, e2, e3]
                          simp
                        · rw [g1] at hz; cases hz
                       have hrep : ∀ R' : Nat → RL, R' κ = loc → RepOb w R' Pr κ (.vec ety (slDrop lo (slTake hi l))) := fun R' hR' => by
                        refine ⟨by rw [hR', ← hloc, hlen], ?_⟩
                        rw [hR']
                        rcases q1 with ⟨g1, rfl⟩ | ⟨off, cap, cells, el1, g1, g2, g3, g4, g5⟩
                        · left
                          have e1 : (R κ).adr = none := by have := g1; simp only [RL.hdr] at this; injection this
                          have e2 : (R κ).cap = 0 := by have := g1; simp only [RL.hdr] at this; injection this
                          have e3 : (slHi ([] : List ety.D).length hi).toNat = 0 := by simp at k4 ⊢; omega
                          refine ⟨?_, ?_⟩
                          · rw [← hloc, RL.hdr, e1, e2, e3]; simp
                          · exact List.length_eq_zero_iff.1 (by rw [hlen, e3]; omega)
                        · right
                          have e1 : (R κ).adr = some ⟨(R κ).blk, off, none⟩ := by have := g1; simp only [RL.hdr] at this; injection this
                          have e2 : (R κ).cap = cap := by have := g1; simp only [RL.hdr] at this; injection this
                          by_cases c : cap = (slLo lo).toNat
                          · have hz : (slHi l.length hi).toNat - (slLo lo).toNat = 0 := by omega
                            refine ⟨off, 0, cells, el1, ?_, by rw [hlen]; omega, by rw [hlb]; exact g3, by omega, fun j y hj => ?_⟩
                            · rw [← hloc, RL.hdr, e1, e2, if_pos c, hlen]; simp only [hz, c, Nat.sub_self]
                            · have := (List.getElem?_eq_some_iff.1 hj).1; rw [hlen] at this; omega
                          · refine ⟨off + (slLo lo).toNat * i.size, cap - (slLo lo).toNat, cells, el1, ?_, by rw [hlen]; omega, by rw [hlb]; exact g3, ?_, fun j y hj => ?_⟩
                            · rw [← hloc, RL.hdr, e1, e2, if_neg c, hlen]
                              simp only [Option.map_some, add_addr]
                            · rw [← hsz, Nat.add_assoc, ← Nat.add_mul]
                              rw [show (slLo lo).toNat + (cap - (slLo lo).toNat) = cap by omega]
                              exact g4
                            · rw [slDrop_eq hT lo hi l k2 k3 k4, List.getElem?_drop, List.getElem?_take] at hj
                              split at hj
                              · obtain ⟨us, m1, m2⟩ := g5 _ y hj
                                refine ⟨us, ?_, m2⟩
                                rw [← hsz, Nat.add_assoc, ← Nat.add_mul]; exact m1
                              · cases hj
                       refine ⟨.value loc.hdr, loc.hdr, w, fun κ' => if κ' = κ then loc else R κ', by simp [execOp, hrun], .inl rfl, ?_⟩
                       have h3 := h2.1.upd κ _ (.vec ety (slDrop lo (slTake hi l))) hobk (w' := w) (R' := fun κ' => if κ' = κ then loc else R κ') (fun κ' hk => by simp [hk]) (.inr ⟨h2.2.1, h2.2.2, by simpa [St.kill] using hokk⟩) (fun b _ _ => rfl) (Grow.refl _) (fun hre => by
                        simp only [real, if_true] at hre
                        exact .inr ⟨hreal hre, by simp [hlb]⟩) (hrep _ hRκ) (fun κ' hκ' => by cases hκ')
                       refine h3.put (some d) (oneA (.own κ)) loc.hdr ?_ (fun κ' hκ' => ?_)
                       · show _ = _
                         rw [hRκ]
                       · have : κ' = κ := by simpa [AV.refs, Cp.refs, C.refs] using hκ'
                         subst this
                         rw [St.ob_setOb, if_pos ⟨rfl, hltk⟩]; simp
                     · cases hout
                   · cases hout
                 · cases hout
               · cases hout
             · cases he
           · cases he
         · cases he
       · cases he
     · cases he
 | _ => simp only [evS] at he; cases he
theorem evC_sound (h : Inv w0 Fz Pr0 Lo R Pr σ a w) {o : Oper} {e : Eff} (he : evC T σ.ρ σ.ob o.op = some e) :
 ∃ n u w' R', (execOp a.eval o).run P w = .ok n w' ∧ (n = .value u ∨ (n = .skip ∧ u = undef)) ∧ Inv w0 Fz Pr0 Lo R' Pr (σ.eff o.dst e) (a.put o.dst u) w' := by
 obtain ⟨dst, op, ty, pos, after, guard⟩ := o
 simp only at he ⊢
 cases op with
 | call c =>
   obtain ⟨callee, args, argTypes⟩ := c
   cases callee with
   | builtin b =>
     cases b with
     | clear =>
       simp only [evC] at he
       split at he
       · rename_i x t e1 e2
         split at he
         · rename_i xc it hx hit
           split at he
           · rename_i el hdd
             obtain rfl : args = #[x] := by apply Array.ext'; simpa using e1
             obtain rfl : argTypes = #[t] := by apply Array.ext'; simpa using e2
             have h1 := h.opd x
             rw [hx] at h1
             obtain ⟨u, w', R', k1, k2⟩ := clear_sound hT h (ty := ty) (dst := dst) hit hdd he h1
             exact ⟨_, u, w', R', by simp [execOp, resolve, invoke, builtin, k1], .inl rfl, k2⟩
           · cases he
         · cases he
       · cases he
     | _ => simp only [evC] at he; cases he
   | _ => simp only [evC] at he; cases he
 | _ => simp only [evC] at he; cases he
end
end Go.Rx
