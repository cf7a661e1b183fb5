/- Reflection, part D: what the operations that yield a value do in the machine. -/
import Derived.Test.YtollcjadobpfdaaRxC
import Derived.Laws.Cells
import Derived.Laws.CopyRow
namespace Go.Rx
set_option linter.unusedVariables false
set_option linter.unusedSimpArgs false
set_option linter.unusedSectionVars false
section
variable {P : Program} {T : Tab} (hT : TabOK P T)
include hT
theorem tab_spec {t : TypeId} {i : TI} (h : T.get t = some i) : ∃ ti d, P.info? t = some ti ∧ P.underlying t = some d ∧ i = ⟨tdOf d, ti.size, ti.bytes, ti.zero.bind zeroOf, eqOK P t d⟩ := mkTI_spec (hT.get h)
theorem tab_size {t : TypeId} {i : TI} (h : T.get t = some i) (w : World) : (sizeOf t).run P w = .ok i.size w := by
 obtain ⟨ti, d, h1, h2, rfl⟩ := tab_spec hT h
 simp [sizeOf, typeInfo, h1]
theorem tab_info {t : TypeId} {i : TI} (h : T.get t = some i) : ∃ ti, P.info? t = some ti ∧ ti.size = i.size ∧ ti.bytes = i.bytes ∧ i.zero = ti.zero.bind zeroOf := by
 obtain ⟨ti, d, h1, h2, rfl⟩ := tab_spec hT h
 exact ⟨ti, h1, rfl, rfl, rfl⟩
theorem tab_under {t : TypeId} {i : TI} (h : T.get t = some i) : ∃ d, P.underlying t = some d ∧ i.d = tdOf d := by
 obtain ⟨ti, d, h1, h2, rfl⟩ := tab_spec hT h
 exact ⟨d, h2, rfl⟩
theorem tab_struct {t : TypeId} {i : TI} {fs : List (Nat × TypeId)} (h : T.get t = some i) (hd : i.d = .struct fs) : ∃ gs : Array Field, P.underlying t = some (.struct gs) ∧ fs = gs.toList.map fun f => (f.offset, f.type) := by
 obtain ⟨d, h1, h2⟩ := tab_under hT h
 rw [hd] at h2
 cases d <;> simp only [tdOf] at h2 <;> cases h2
 exact ⟨_, h1, rfl⟩
theorem tab_slice {t e : TypeId} {i : TI} (h : T.get t = some i) (hd : i.d = .slice e) : P.underlying t = some (.slice e) := by
 obtain ⟨d, h1, h2⟩ := tab_under hT h
 rw [hd] at h2
 cases d <;> simp only [tdOf] at h2 <;> cases h2
 exact h1
theorem tab_array {t e : TypeId} {n : Nat} {i : TI} (h : T.get t = some i) (hd : i.d = .array n e) : P.underlying t = some (.array n e) := by
 obtain ⟨d, h1, h2⟩ := tab_under hT h
 rw [h2] at hd
 cases d <;> simp [tdOf] at hd
 obtain ⟨rfl, rfl⟩ := hd
 exact h1
theorem tab_int {t : TypeId} {k : IntKind} {i : TI} (h : T.get t = some i) (hd : i.d = .int k) : P.underlying t = some (.int k) := by
 obtain ⟨d, h1, h2⟩ := tab_under hT h
 rw [hd] at h2
 cases d <;> simp only [tdOf] at h2 <;> cases h2
 exact h1
theorem tab_agg {t : TypeId} {i : TI} (h : T.get t = some i) (w : World) : (isAgg t).run P w = .ok i.d.agg w := by
 obtain ⟨d, h1, h2⟩ := tab_under hT h
 rw [h2]
 cases d <;> simp [isAgg, run_underlying h1, tdOf, TD.agg]
end
theorem add_addr (b o n : Nat) : (⟨b, o, none⟩ : Addr).add n = ⟨b, o + n, none⟩ := by unfold Addr.add; split <;> simp_all
theorem cells_refs : ∀ (e : Ty) (x : e.D), ∀ c ∈ e.cells x, c.refs = []
 | .int _, _, c, h => by simp [Ty.cells] at h; subst h; rfl
 | .bool, _, c, h => by simp [Ty.cells] at h; subst h; rfl
 | .str, _, c, h => by simp [Ty.cells] at h; subst h; rfl
 | .pair a b, x, c, h => by
   rcases List.mem_append.1 h with h | h
   · exact cells_refs a x.1 c h
   · exact cells_refs b x.2 c h
 | .sl _ _, _, c, h => by simp [Ty.cells] at h; subst h; rfl
 | .fn _, _, c, h => by simp [Ty.cells] at h; subst h; rfl
 | .ptr _, _, c, h => by simp [Ty.cells] at h; subst h; rfl
 | .clo _ _, _, c, h => by simp [Ty.cells] at h; subst h; rfl
 | .map _ _, _, c, h => by simp [Ty.cells] at h; subst h; rfl
theorem shift_refs {k : Nat} : ∀ {c c' : C}, shiftC k c = some c' → c'.refs = c.refs := fun {c} => by
 induction c with
 | asel c n sz i ih =>
   intro c' h
   simp only [shiftC] at h
   split at h
   · rename_i c1 h1; cases h; exact (ih h1 : c1.refs = c.refs)
   · cases h
 | _ => intro c' h; simp [shiftC] at h <;> subst h <;> rfl
theorem shift_rep {w : World} {R : Nat → RL} {Pr : Nat → Prop} {k : Nat} : ∀ {c c' : C} {v : Value}, shiftC k c = some c' → RepC w R Pr c v → ∃ b o, v = .pointer (some ⟨b, o, none⟩) ∧ RepC w R Pr c' (.pointer (some ⟨b, o + k, none⟩)) := fun {c} => by
 induction c with
 | ptr κ off => intro c' v h hc; simp [shiftC] at h; subst h; exact ⟨_, _, hc, rfl⟩
 | vptr κ sz j off =>
   intro c' v h hc; simp [shiftC] at h; subst h
   obtain ⟨h1, o, n, q, h2, h3⟩ := hc
   exact ⟨_, _, h3, h1, o, n, q, h2, by rw [Nat.add_assoc]⟩
 | fptr e x off =>
   intro c' v h hc; simp [shiftC] at h; subst h
   obtain ⟨blk, o, cells, el, fr, us, h1, h2⟩ := hc
   exact ⟨_, _, h1, blk, o, cells, el, fr, us, by rw [Nat.add_assoc], h2⟩
 | asel c n sz i ih =>
   intro c' v h hc
   simp only [shiftC] at h
   split at h
   · rename_i c1 h1
     cases h
     obtain ⟨g1, b, o, g2, g3⟩ := hc
     obtain ⟨b', o', e, g4⟩ := ih h1 g2
     cases e
     exact ⟨_, _, g3, g1, b, o + k, g4, by rw [Nat.add_right_comm]⟩
   · cases h
 | _ => intro c' v h; simp [shiftC] at h
theorem intsC_at {k : IntKind} : ∀ {cs : List C} {l : List Int}, intsC k cs = some l → ∀ {i : Nat} {c : C}, cs[i]? = some c → c = .int k (l.getD i 0)
 | [], l, h, i, c, hc => by simp at hc
 | c0 :: r, l, h, i, c, hc => by
   cases c0 with
   | int k' n =>
     simp only [intsC] at h
     split at h
     · rename_i e
       subst e
       obtain ⟨m, hm, rfl⟩ := Option.map_eq_some_iff.1 h
       cases i with
       | zero => simp at hc; subst hc; rfl
       | succ i => simpa using intsC_at hm (i := i) (by simpa using hc)
     · cases h
   | _ => simp [intsC] at h
theorem selC_rep {w : World} {R : Nat → RL} {Pr : Nat → Prop} {i : Nat} {cs : List C} {c ci : C} {v : Value} (h : selC i cs = some c) (hi : cs[i]? = some ci) (hr : RepC w R Pr ci v) : RepC w R Pr c v ∧ c.refs = [] := by
 unfold selC at h
 split at h
 · rename_i k n r
   obtain ⟨l, hl, rfl⟩ := Option.map_eq_some_iff.1 h
   have := intsC_at hl hi
   subst this
   exact ⟨hr, rfl⟩
 · cases h
theorem onesC_at : ∀ {xs : List Cp} {cs : List C}, onesC xs = some cs → ∀ {i : Nat} {x : Cp}, xs[i]? = some x → ∃ c, x = .one c ∧ cs[i]? = some c
 | [], cs, h, i, x, hx => by simp at hx
 | x0 :: r, cs, h, i, x, hx => by
   cases x0 with
   | one c =>
     simp only [onesC] at h
     obtain ⟨m, hm, rfl⟩ := Option.map_eq_some_iff.1 h
     cases i with
     | zero => simp at hx; subst hx; exact ⟨c, rfl, rfl⟩
     | succ i => simpa using onesC_at hm (i := i) (by simpa using hx)
   | agg _ => simp [onesC] at h
theorem rowsC_at : ∀ {xs : List Cp} {rows : List (List C)}, rowsC xs = some rows → ∀ {i : Nat} {x : Cp}, xs[i]? = some x → ∃ cs, x = .agg cs ∧ rows[i]? = some cs
 | [], rows, h, i, x, hx => by simp at hx
 | x0 :: r, rows, h, i, x, hx => by
   cases x0 with
   | agg c =>
     simp only [rowsC] at h
     obtain ⟨m, hm, rfl⟩ := Option.map_eq_some_iff.1 h
     cases i with
     | zero => simp at hx; subst hx; exact ⟨c, rfl, rfl⟩
     | succ i => simpa using rowsC_at hm (i := i) (by simpa using hx)
   | one _ => simp [rowsC] at h
theorem selCols_rep {w : World} {R : Nat → RL} {Pr : Nat → Prop} {i : Nat} {rows : List (List C)} {row : List C} (hi : rows[i]? = some row) {us : List Value} (hr : All2 (RepC w R Pr) row us) : ∀ {n : Nat} {cs : List C}, selCols i rows n = some cs → n ≤ row.length → All2 (RepC w R Pr) cs (us.take n) ∧ ∀ c ∈ cs, c.refs = []
 | 0, cs, h, _ => by simp only [selCols] at h; cases h; exact ⟨by simp [All2], fun c hc => by cases hc⟩
 | n + 1, cs, h, hn => by
   simp only [selCols] at h
   split at h
   · rename_i cs1 c h1 h2
     cases h
     obtain ⟨g1, g2⟩ := selCols_rep hi hr h1 (by omega)
     have hq : (rows.map fun r => r.getD n .any)[i]? = some (row.getD n .any) := by rw [List.getElem?_map, hi]; rfl
     have hrow : row[n]? = some (row.getD n .any) := by rw [List.getD_eq_getElem?_getD, List.getElem?_eq_getElem (by omega)]; rfl
     obtain ⟨u, hu, hru⟩ := hr.get hrow
     obtain ⟨g3, g4⟩ := selC_rep h2 hq hru
     have ht : us.take (n + 1) = us.take n ++ [u] := by rw [List.take_add_one, hu]; rfl
     rw [ht]
     refine ⟨g1.append ⟨g3, trivial⟩, fun c' hc => ?_⟩
     rcases List.mem_append.1 hc with hc | hc
     · exact g2 c' hc
     · rw [List.mem_singleton] at hc; subst hc; exact g4
   · cases h
theorem selCp_rep {w : World} {R : Nat → RL} {Pr : Nat → Prop} {i : Nat} {xs : List Cp} {x xi : Cp} {v : Value} (h : selCp i xs = some x) (hi : xs[i]? = some xi) (hr : RepCp w R Pr xi v) : RepCp w R Pr x v ∧ x.refs = [] := by
 unfold selCp at h
 split at h
 · rename_i cs0 r
   split at h
   · rename_i rows hrows
     split at h
     · rename_i hall
       obtain ⟨cs, hcs, rfl⟩ := Option.map_eq_some_iff.1 h
       obtain ⟨row, rfl, hrow⟩ := rowsC_at hrows hi
       obtain ⟨vs, rfl, hvs⟩ := hr
       have hl : row.length = cs0.length := Nat.eq_of_beq_eq_true (List.all_eq_true.1 hall row (List.mem_of_getElem? hrow))
       obtain ⟨g1, g2⟩ := selCols_rep hrow hvs hcs (by omega)
       refine ⟨⟨vs, rfl, ?_⟩, ?_⟩
       · have hle := hvs.length
         rw [List.take_of_length_le (by omega)] at g1
         exact g1
       · show cs.flatMap C.refs = []
         rw [List.flatMap_eq_nil_iff]; exact g2
     · cases h
   · cases h
 · split at h
   · rename_i cs hcs
     obtain ⟨c, hc, rfl⟩ := Option.map_eq_some_iff.1 h
     obtain ⟨ci, rfl, hci⟩ := onesC_at hcs hi
     exact selC_rep hc hci hr
   · cases h
theorem manyC_spec {f : Nat → Option Out} : ∀ {n : Nat} {acc : List Nat} {xs : List Cp}, manyC f n = some (acc, xs) → xs.length = n ∧ ∀ j, j < n → ∃ a x, f j = some ⟨[], a, .cp x⟩ ∧ xs[j]? = some x ∧ ∀ κ ∈ a, κ ∈ acc
 | 0, acc, xs, h => by simp only [manyC] at h; cases h; exact ⟨rfl, fun j hj => by omega⟩
 | n + 1, acc, xs, h => by
   simp only [manyC] at h
   split at h
   · rename_i acc1 l a x h1 h2
     cases h
     obtain ⟨g1, g2⟩ := manyC_spec h1
     refine ⟨by simp [g1], fun j hj => ?_⟩
     by_cases e : j = n
     · subst e
       exact ⟨a, x, h2, by rw [← g1]; simp, fun κ hκ => List.mem_append_right _ hκ⟩
     · obtain ⟨a', x', k1, k2, k3⟩ := g2 j (by omega)
       exact ⟨a', x', k1, by rw [List.getElem?_append_left (by omega)]; exact k2, fun κ hκ => List.mem_append_left _ (k3 κ hκ)⟩
   · cases h
theorem load_at {P : Program} {T : Tab} (hT : TabOK P T) {w : World} {R : Nat → RL} {Pr : Nat → Prop} {t : TypeId} {i : TI} (ht : T.get t = some i) {blk o off : Nat} {cells : Array Value} {el : TypeId} {fr : Nat × Nat} {us : List Value} {cs : List C} {x : Cp}
 (hb : w.heap[blk]? = some (.cells cells el fr)) (ha : At cells o us) (hr : All2 (RepC w R Pr) cs us) (hx : subC i cs off = some x) :
 ∃ u, (Instr.loadAt t (.pointer (some ⟨blk, o + off, none⟩))).run P w = .ok u w ∧ RepCp w R Pr x u ∧ ∀ κ ∈ x.refs, ∃ c ∈ cs, κ ∈ c.refs := by
 have hlen := hr.length
 have hone : ∀ (c : C), cs[off]? = some c → x = .one c → i.d ≠ .other → i.d.agg = false →
  ∃ u, (Instr.loadAt t (.pointer (some ⟨blk, o + off, none⟩))).run P w = .ok u w ∧ RepCp w R Pr x u ∧ ∀ κ ∈ x.refs, ∃ c ∈ cs, κ ∈ c.refs := fun c hc hx _ hagg => by
  subst hx
  obtain ⟨u, hu, hru⟩ := hr.get hc
  have hcell : w.cell? ⟨blk, o + off, none⟩ = some u := by simp [World.cell?, hb, ha off u hu]
  refine ⟨u, ?_, hru, fun κ hκ => ⟨c, List.mem_of_getElem? hc, hκ⟩⟩
  simp only [Instr.loadAt, Instr.sureAddr, Sem.run_bind, Sem.run_pure, Result.andThen_ok, loadVar, tab_agg hT ht, hagg]
  simp [hcell]
 unfold subC at hx
 have hmany : ∀ (h : off + i.size ≤ cs.length), x = .agg ((cs.drop off).take i.size) → i.d.agg = true →
  ∃ u, (Instr.loadAt t (.pointer (some ⟨blk, o + off, none⟩))).run P w = .ok u w ∧ RepCp w R Pr x u ∧ ∀ κ ∈ x.refs, ∃ c ∈ cs, κ ∈ c.refs := fun h hx hagg => by
  subst hx
  have hl : ((us.drop off).take i.size).length = i.size := by simp; omega
  have hload := run_loadCells_list (P := P) w ⟨blk, o + off, none⟩ ((us.drop off).take i.size) (fun j v hj => by
   rw [add_addr]
   have := ha.drop (n := off) |>.take (n := i.size) j v hj
   simp [World.cell?, hb, this])
  rw [hl] at hload
  refine ⟨.agg ((us.drop off).take i.size).toArray, ?_, ⟨_, rfl, by simpa using (hr.drop off).take i.size⟩, fun κ hκ => ?_⟩
  · simp only [Instr.loadAt, Instr.sureAddr, Sem.run_bind, Sem.run_pure, Result.andThen_ok, loadVar, tab_agg hT ht, hagg, tab_size hT ht, hload]
    simp [tab_size hT ht, hload]
  · obtain ⟨c, hc, hk⟩ := List.mem_flatMap.1 hκ
    exact ⟨c, List.mem_of_mem_drop (List.mem_of_mem_take hc), hk⟩
 split at hx
 · rename_i fs hd
   split at hx
   · rename_i h; exact hmany h (Option.some.inj hx).symm (by rw [hd]; rfl)
   · cases hx
 · rename_i n e hd
   split at hx
   · rename_i h; exact hmany h (Option.some.inj hx).symm (by rw [hd]; rfl)
   · cases hx
 · cases hx
 · rename_i h1 h2 h3
   split at hx
   · rename_i c hc
     refine hone c hc (Option.some.inj hx).symm h3 ?_
     revert h1 h2
     generalize i.d = d
     intro h1 h2
     cases d <;> first | rfl | exact absurd rfl (h1 _) | exact absurd rfl (h2 _ _)
   · cases hx
def Hold (l : List DP) : Prop := ∀ x ∈ l, x.p
section
variable {P : Program} {T : Tab} (hT : TabOK P T) {w : World} {R : Nat → RL} {Pr : Nat → Prop} {ob : Nat → Option Ob} (hob : ∀ κ o, ob κ = some o → RepOb w R Pr κ o)
include hT hob
theorem evLoad0_sound {t : TypeId} {c : C} {v : Value} {out : Out} (h : evLoad0 T ob t c = some out) (hc : RepC w R Pr c v) :
 ∃ u, (Instr.loadAt t v).run P w = .ok u w ∧ RepA w R Pr out.v u ∧ ∀ κ ∈ out.v.refs, ∃ κ' ∈ out.acc, ∃ o, ob κ' = some o ∧ κ ∈ o.refs := by
 unfold evLoad0 at h
 split at h
 · rename_i κ off
   split at h
   · rename_i i cs hi ho
     split at h
     · rename_i x hx
       cases h
       obtain ⟨el, vs, h1, h2⟩ := hob _ _ ho
       subst hc
       obtain ⟨u, k1, k2, k3⟩ := load_at hT hi (o := 0) (us := vs.toList) h1 (fun c u hu => by simpa using hu) h2 hx
       refine ⟨u, by simpa using k1, k2, fun κ' hκ => ⟨κ, by simp, _, ho, ?_⟩⟩
       obtain ⟨c, hc, hk⟩ := k3 κ' hκ
       exact List.mem_flatMap.2 ⟨c, hc, hk⟩
     · cases h
   · rename_i i e x hi ho
     split at h
     · rename_i y hy
       cases h
       obtain ⟨_, cells, el, fr, us, h1, h2, h3⟩ := hob _ _ ho
       subst hc
       obtain ⟨u, k1, k2, k3⟩ := load_at hT hi (o := 0) (us := us) h1 h2 (cells_rep (R := R) h3) hy
       exact ⟨u, by simpa using k1, k2, fun κ' hκ => by
        obtain ⟨c, hc, hk⟩ := k3 κ' hκ
        rw [cells_refs e _ c hc] at hk; cases hk⟩
     · cases h
   · cases h
 · rename_i κ sz j off
   split at h
   · rename_i i e l hi ho
     split at h
     · rename_i hsz
       split at h
       · rename_i x hx
         cases h
         obtain ⟨h0, h3⟩ := hob _ _ ho
         obtain ⟨hj, o, n, c, hh, rfl⟩ := hc
         rcases h3 with ⟨h3, _⟩ | ⟨off1, cap, cells, el, h3, h4, h5, h6, h7⟩
         · rw [h3] at hh; cases hh
         · rw [h3] at hh; cases hh
           rw [h0] at hj
           obtain ⟨us, k1, k2⟩ := h7 j l[j] (List.getElem?_eq_getElem hj)
           have hg : l.getD j e.z = l[j] := by rw [List.getD_eq_getElem?_getD, List.getElem?_eq_getElem hj]; rfl
           rw [hg] at hx
           rw [hsz] at k1
           obtain ⟨u, k3, k4, k5⟩ := load_at hT hi h5 k1 (cells_rep (R := R) k2) hx
           exact ⟨u, k3, k4, fun κ' hκ => by
            obtain ⟨c, hc, hk⟩ := k5 κ' hκ
            rw [cells_refs e _ c hc] at hk; cases hk⟩
       · cases h
     · cases h
   · cases h
 · rename_i e x off
   split at h
   · rename_i i hi
     split at h
     · rename_i y hy
       cases h
       obtain ⟨blk, o, cells, el, fr, us, rfl, h2, h3, h4, h5⟩ := hc
       obtain ⟨u, k3, k4, k5⟩ := load_at hT hi h3 h4 (cells_rep (R := R) h5) hy
       exact ⟨u, k3, k4, fun κ' hκ => by
        obtain ⟨c, hc, hk⟩ := k5 κ' hκ
        rw [cells_refs e _ c hc] at hk; cases hk⟩
     · cases h
   · cases h
 · cases h
theorem evLoad_sound {t : TypeId} {c : C} {v : Value} {out : Out} (h : evLoad T ob t c = some out) (hc : RepC w R Pr c v) :
 ∃ u, (Instr.loadAt t v).run P w = .ok u w ∧ RepA w R Pr out.v u ∧ ∀ κ ∈ out.v.refs, ∃ κ' ∈ out.acc, ∃ o, ob κ' = some o ∧ κ ∈ o.refs := by
 unfold evLoad at h
 split at h
 · rename_i c n sz i
   split at h
   · rename_i acc xs hm
     obtain ⟨x, hx, rfl⟩ := Option.map_eq_some_iff.1 h
     obtain ⟨g1, g2⟩ := manyC_spec hm
     obtain ⟨hi, b, o, hcb, rfl⟩ := hc
     obtain ⟨a, y, k1, k2, k3⟩ := g2 i hi
     obtain ⟨c', hs, hl⟩ := Option.bind_eq_some_iff.1 k1
     obtain ⟨b', o', e, hc'⟩ := shift_rep hs hcb
     cases e
     obtain ⟨u, m1, m2, _⟩ := evLoad0_sound hT hob hl hc'
     obtain ⟨m3, m4⟩ := selCp_rep hx k2 m2
     exact ⟨u, m1, m3, fun κ hκ => by
      have hκ : κ ∈ x.refs := hκ
      rw [m4] at hκ; cases hκ⟩
   · cases h
 · exact evLoad0_sound hT hob h hc
theorem evFieldAddr_sound {s : TypeId} {f : Nat} {c : C} {v : Value} {out : Out} (h : evFieldAddr T s f c = some out) (hc : RepC w R Pr c v) :
 ∃ u, (Instr.fieldAt s v f).run P w = .ok u w ∧ RepA w R Pr out.v u ∧ ∀ κ ∈ out.v.refs, κ ∈ c.refs := by
 unfold evFieldAddr at h
 split at h
 · rename_i o ft hf
   unfold field? at hf
   split at hf
   · rename_i i hi
     split at hf
     · rename_i fs hd
       obtain ⟨gs, hg1, hg2⟩ := tab_struct hT hi hd
       rw [hg2, List.getElem?_map] at hf
       obtain ⟨fd, hfd, he⟩ := Option.map_eq_some_iff.1 hf
       cases he
       have hfd' : gs[f]? = some fd := by simpa using hfd
       split at h
       · rename_i i2 hi2
         split at h
         · cases h
         · rename_i hsz
           have key : ∀ (b o1 : Nat), v = .pointer (some ⟨b, o1, none⟩) → (Instr.fieldAt s v f).run P w = .ok (.pointer (some ⟨b, o1 + fd.offset, none⟩)) w := fun b o1 hv => by
            subst hv
            simp [Instr.fieldAt, run_underlying hg1, hfd', Instr.sureAddr, fieldPlace, tab_size hT hi2, hsz, add_addr]
           obtain ⟨c', hs, rfl⟩ := Option.map_eq_some_iff.1 h
           obtain ⟨b, o1, hv, hc'⟩ := shift_rep hs hc
           exact ⟨_, key _ _ hv, hc', fun κ hκ => by rw [← shift_refs hs]; exact hκ⟩
       · cases h
     · cases hf
   · cases hf
 · cases h
theorem evIndexAddr_sound {t : TypeId} {c : C} {cst : Bool} {n : Int} {k : IntKind} {v : Value} {out : Out} (h : evIndexAddr T ob t c cst n = some out) (hh : Hold out.conds) (hc : RepC w R Pr c v) :
 ∃ u, (Instr.indexAt t v (.int k n)).run P w = .ok u w ∧ RepA w R Pr out.v u ∧ ∀ κ ∈ out.v.refs, κ ∈ c.refs := by
 unfold evIndexAddr at h
 split at h
 · rename_i i hi
   split at h
   · rename_i el hd
     have hsl := tab_slice hT hi hd
     split at h
     · rename_i ei hei
       have key : ∀ (b o len cap : Nat), v = .slice (some ⟨b, o, none⟩) len cap → 0 ≤ n → n < (len : Int) → (Instr.indexAt t v (.int k n)).run P w = .ok (.pointer (some ⟨b, o + n.toNat * ei.size, none⟩)) w := fun b o len cap hv h0 h1 => by
        subst hv
        simp [Instr.indexAt, asIntOf, run_underlying hsl, h0, h1, tab_size hT hei, add_addr]
       split at h
       · rename_i b e y
         split at h
         · rename_i hsz
           cases h
           have h0 : 0 ≤ n := hh ⟨0 ≤ n, inferInstance⟩ (by simp)
           have h1 : n < ((slL b y).length : Int) := hh ⟨n < ((slL b y).length : Int), inferInstance⟩ (by simp)
           obtain ⟨A, cap, g1, g2, g3, g4⟩ := hc
           have hlt : n.toNat < (slL b y).length := by omega
           obtain ⟨blk, off, cells, el1, fr, rfl, k2, k3, k4⟩ := g4 (fun e => by rw [e] at hlt; simp at hlt)
           obtain ⟨us, m1, m2⟩ := k4 n.toNat _ (List.getElem?_eq_getElem hlt)
           have hv : v = .slice (some ⟨blk, off, none⟩) (slL b y).length cap := by simpa using g1
           refine ⟨_, key _ _ _ _ hv h0 h1, ⟨blk, off + n.toNat * e.n, cells, el1, fr, us, by simp [hsz], k2, k3, m1, ?_⟩, fun κ hκ => by cases hκ⟩
           rw [List.getD_eq_getElem?_getD, List.getElem?_eq_getElem hlt]; exact m2
         · cases h
       · rename_i κ
         split at h
         · rename_i e l ho
           split at h
           · rename_i hsz
             cases h
             have h0 : 0 ≤ n := hh ⟨0 ≤ n, inferInstance⟩ (by simp)
             have h1 : n < (l.length : Int) := hh ⟨n < (l.length : Int), inferInstance⟩ (by simp)
             obtain ⟨g0, g⟩ := hob _ _ ho
             rcases g with ⟨g1, g2⟩ | ⟨off, cap, cells, el1, g1, g2, g3, g4, g5⟩
             · subst g2; simp at h1; omega
             · refine ⟨_, key _ _ _ _ (hc.trans g1) h0 h1, ⟨by rw [g0]; omega, off, _, _, g1, by simp⟩, fun κ hκ => hκ⟩
           · cases h
         · rename_i e ll hh1 ho
           split at h
           · rename_i hsz
             cases h
             have h0 : 0 ≤ n := hh ⟨0 ≤ n, inferInstance⟩ (by simp)
             have h1 : n < (ll.length : Int) := hh ⟨n < (ll.length : Int), inferInstance⟩ (by simp)
             obtain ⟨g0, off, cap, cells, el1, g1, _⟩ := hob _ _ ho
             exact ⟨_, key _ _ _ _ (hc.trans g1) h0 h1, ⟨by rw [g0]; omega, off, _, _, g1, by simp [← hsz]⟩, fun κ hκ => hκ⟩
           · cases h
         · cases h
       · rename_i κ sz lo m
         split at h
         · rename_i hsz
           cases h
           have h0 : 0 ≤ n := hh ⟨0 ≤ n, inferInstance⟩ (by simp)
           have h1 : n < (m : Int) := hh ⟨n < (m : Int), inferInstance⟩ (by simp)
           obtain ⟨g0, A, cap, g1, g2⟩ := hc
           obtain ⟨o, m1, c', g3, rfl⟩ := g2 (by omega)
           refine ⟨_, key _ _ _ _ g1 h0 h1, ⟨by omega, o, _, _, g3, by simp [hsz, Nat.add_mul, Nat.add_assoc]⟩, fun κ hκ => hκ⟩
         · cases h
       · cases h
     · cases h
   · rename_i m el hd
     have har := tab_array hT hi hd
     split at h
     · rename_i ei hei
       have key : ∀ (b o : Nat), v = .pointer (some ⟨b, o, none⟩) → 0 ≤ n → n < (m : Int) → (Instr.indexAt t v (.int k n)).run P w = .ok (.pointer (some ⟨b, o + n.toNat * ei.size, none⟩)) w := fun b o hv h0 h1 => by
        subst hv
        simp [Instr.indexAt, Instr.sureAddr, asIntOf, run_underlying har, h0, h1, tab_size hT hei, add_addr]
       split at h
       · split at h
         · rename_i q
           split at h
           · rename_i hq
             obtain ⟨c', hs, rfl⟩ := Option.map_eq_some_iff.1 h
             obtain ⟨b, o1, hv, hc'⟩ := shift_rep hs hc
             refine ⟨_, key _ _ hv (Int.natCast_nonneg q) (by have : (Int.ofNat q) = (q : Int) := rfl; omega), hc', fun κ hκ => by rw [← shift_refs hs]; exact hκ⟩
           · cases h
         · cases h
       · split at h
         · rename_i hp
           cases h
           have h0 : 0 ≤ n := hh ⟨0 ≤ n, inferInstance⟩ (by simp)
           have h1 : n < (m : Int) := hh ⟨n < (m : Int), inferInstance⟩ (by simp)
           have hv : ∃ b o, v = .pointer (some ⟨b, o, none⟩) := by
            cases c with
            | ptr κ off => exact ⟨_, _, hc⟩
            | vptr κ sz j off => obtain ⟨_, o, n, q, _, h3⟩ := hc; exact ⟨_, _, h3⟩
            | fptr e x off => obtain ⟨blk, o, cells, el, fr, us, h1, h2⟩ := hc; exact ⟨_, _, h1⟩
            | _ => cases hp
           obtain ⟨b, o, rfl⟩ := hv
           exact ⟨_, key _ _ rfl h0 h1, ⟨by omega, b, o, hc, rfl⟩, fun κ hκ => hκ⟩
         · cases h
     · cases h
   · cases h
 · cases h
end
end Go.Rx
