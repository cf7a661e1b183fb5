/- Reflection, part S: what an operation looks at. -/
import Derived.Test.YtollcjadobpfdaaRxR
namespace Go.Rx
set_option linter.unusedVariables false
set_option linter.unusedSimpArgs false
set_option linter.unusedSectionVars false
section
variable {T : Tab} {Y : Tys} {ob ob' : Nat → Option Ob}
theorem evLoad0_local {t : TypeId} {c : C} {out : Out} (h : evLoad0 T ob t c = some out) (ha : ∀ κ ∈ out.acc, ob' κ = ob κ) : evLoad0 T ob' t c = some out := by
 cases c with
 | ptr κ off =>
   simp only [evLoad0] at h ⊢
   split at h
   · rename_i i cs hi ho
     split at h
     · rename_i x hx
       cases h
       have e := ha κ (by simp)
       simp only [e, hi, ho, hx]
     · cases h
   · rename_i i e1 x1 hi ho
     split at h
     · rename_i x hx
       cases h
       have e := ha κ (by simp)
       simp only [e, hi, ho, hx]
     · cases h
   · cases h
 | vptr κ sz j off =>
   simp only [evLoad0] at h ⊢
   split at h
   · rename_i i e1 l hi ho
     split at h
     · rename_i hsz
       split at h
       · rename_i x hx
         cases h
         have e := ha κ (by simp)
         simp only [e, hi, ho, if_pos hsz, hx]
       · cases h
     · cases h
   · cases h
 | fptr e x off => exact h
 | _ => simp only [evLoad0] at h; cases h
theorem manyC_congr {f g : Nat → Option Out} : ∀ {n : Nat} {acc : List Nat} {xs : List Cp}, manyC f n = some (acc, xs) → (∀ j a x, f j = some ⟨[], a, .cp x⟩ → (∀ κ ∈ a, κ ∈ acc) → g j = some ⟨[], a, .cp x⟩) → manyC g n = some (acc, xs)
 | 0, acc, xs, h, _ => h
 | n + 1, acc, xs, h, hfg => by
   simp only [manyC] at h ⊢
   split at h
   · rename_i acc1 l a x h1 h2
     cases h
     rw [manyC_congr h1 (fun j a x hj hs => hfg j a x hj (fun κ hκ => List.mem_append_left _ (hs κ hκ))), hfg n a x h2 (fun κ hκ => List.mem_append_right _ hκ)]
   · cases h
theorem evLoad_local {t : TypeId} {c : C} {out : Out} (h : evLoad T ob t c = some out) (ha : ∀ κ ∈ out.acc, ob' κ = ob κ) : evLoad T ob' t c = some out := by
 unfold evLoad at h ⊢
 split at h
 · rename_i c n sz i
   split at h
   · rename_i acc xs hm
     obtain ⟨x, hx, rfl⟩ := Option.map_eq_some_iff.1 h
     rw [manyC_congr hm (fun j a x hj hs => by
      obtain ⟨c', h1, h2⟩ := Option.bind_eq_some_iff.1 hj
      rw [h1]
      exact evLoad0_local h2 (fun κ hκ => ha κ (hs κ hκ)))]
     simp only [hx, Option.map_some]
   · cases h
 · exact evLoad0_local h ha
theorem evIndexAddr_local {t : TypeId} {c : C} {cst : Bool} {n : Int} {out : Out} (h : evIndexAddr T ob t c cst n = some out) (ha : ∀ κ ∈ out.acc, ob' κ = ob κ) : evIndexAddr T ob' t c cst n = some out := by
 cases c with
 | own κ =>
   simp only [evIndexAddr] at h ⊢
   split at h
   · rename_i i hi
     split at h
     · rename_i el hd
       split at h
       · rename_i ei hei
         split at h
         · rename_i e l ho
           split at h
           · rename_i hsz
             cases h
             have e2 := ha κ (by simp)
             simp only [hi, hd, hei, e2, ho, if_pos hsz]
           · cases h
         · rename_i e ll hh ho
           split at h
           · rename_i hsz
             cases h
             have e2 := ha κ (by simp)
             simp only [hi, hd, hei, e2, ho, if_pos hsz]
           · cases h
         · cases h
       · cases h
     · exact h
     · cases h
   · cases h
 | val b e y => exact h
 | _ =>
   simp only [evIndexAddr] at h ⊢
   exact h
theorem evLen_local {c : C} {out : Out} (h : evLen ob c = some out) (ha : ∀ κ ∈ out.acc, ob' κ = ob κ) : evLen ob' c = some out := by
 cases c with
 | own κ =>
   simp only [evLen] at h ⊢
   split at h
   · rename_i e l ho
     cases h
     have e2 := ha κ (by simp)
     simp only [e2, ho]
   · cases h
 | _ => exact h
theorem evV0_local {ρ ρ' : Operand → AV} {op : Op} {out : Out} (h : evV0 T ρ ob op = some out) (hρ : ∀ x ∈ op.operands.toList, ρ' x = ρ x) (ha : ∀ κ ∈ out.acc, ob' κ = ob κ) : evV0 T ρ' ob' op = some out := by
 cases op with
 | move x => simp only [evV0] at h ⊢; rw [hρ x (by simp [Op.operands])]; exact h
 | assign x => simp only [evV0] at h ⊢; rw [hρ x (by simp [Op.operands])]; exact h
 | pick c a b => simp only [evV0] at h ⊢; rw [hρ c (by simp [Op.operands]), hρ a (by simp [Op.operands]), hρ b (by simp [Op.operands])]; exact h
 | load t x =>
   simp only [evV0] at h ⊢
   rw [hρ x (by simp [Op.operands])]
   split at h
   · rename_i c e; (try rw [e]); exact evLoad_local h ha
   · cases h
 | fieldAddr s x f => simp only [evV0] at h ⊢; rw [hρ x (by simp [Op.operands])]; exact h
 | field s x f => simp only [evV0] at h ⊢; rw [hρ x (by simp [Op.operands])]; exact h
 | indexAddr t x i =>
   simp only [evV0] at h ⊢
   rw [hρ x (by simp [Op.operands]), hρ i (by simp [Op.operands])]
   split at h
   · rename_i k n c e1 e2; (try rw [e1, e2]); exact evIndexAddr_local h ha
   · cases h
 | index t x i => simp only [evV0] at h ⊢; rw [hρ x (by simp [Op.operands]), hρ i (by simp [Op.operands])]; exact h
 | binOp op t x y yt => simp only [evV0] at h ⊢; rw [hρ x (by simp [Op.operands]), hρ y (by simp [Op.operands])]; exact h
 | unOp op t x => simp only [evV0] at h ⊢; rw [hρ x (by simp [Op.operands])]; exact h
 | convert s d x => simp only [evV0] at h ⊢; rw [hρ x (by simp [Op.operands])]; exact h
 | extract x n => simp only [evV0] at h ⊢; rw [hρ x (by simp [Op.operands])]; exact h
 | nilCheck x => simp only [evV0] at h ⊢; rw [hρ x (by simp [Op.operands])]; exact h
 | slice t x lo hi mx =>
   cases mx with
   | some m => simp only [evV0] at h; cases h
   | none =>
     have e : ∀ y : Option Operand, (∀ z, y = some z → z ∈ (Op.slice t x lo hi none).operands.toList) → optI ρ' y = optI ρ y := fun y hy => by
      cases y with
      | none => rfl
      | some z => simp only [optI]; rw [hρ z (hy z rfl)]
     simp only [evV0] at h ⊢
     rw [hρ x (by simp [Op.operands]), e lo (fun z hz => by simp [Op.operands, hz]), e hi (fun z hz => by simp [Op.operands, hz])]
     split at h
     · rename_i c l1 h1 e1 e2 e3
       cases c with
       | own κ =>
         simp only [evSlice] at h ⊢
         split at h
         · rename_i e' l ho
           have hk : κ ∈ out.acc := by
            revert h
            repeat' split
            all_goals first | (intro h; cases h; done) | (intro h; cases h; simp)
           rw [ha κ hk, ho]
           exact h
         · cases h
       | _ => exact h
     · cases h
 | lookup t m x ok =>
   cases ok with
   | true => simp only [evV0] at h; cases h
   | false =>
     simp only [evV0] at h ⊢
     rw [hρ m (by simp [Op.operands]), hρ x (by simp [Op.operands])]
     split at h
     · rename_i κ a b e1 e2
       (try simp only [e1, e2])
       split at h
       · rename_i l hs ho
         cases h
         have hk := ha κ (by simp)
         simp only [hs, hk, ho]
       · cases h
     · cases h
 | build t parts =>
   simp only [evV0] at h ⊢
   have e : (parts.toList.map fun p => (p.1, ρ' p.2)) = parts.toList.map fun p => (p.1, ρ p.2) := List.map_congr_left fun p hp => by
    rw [hρ p.2 (by simp only [Op.operands]; exact List.mem_map.2 ⟨p, hp, rfl⟩)]
   rw [e]; exact h
 | makeFunc fn first captured =>
   cases fn with
   | func f =>
     simp only [evV0] at h ⊢
     have e : captured.toList.map ρ' = captured.toList.map ρ := List.map_congr_left fun x hx => hρ x (by simp [Op.operands]; exact .inr (by simpa using hx))
     rw [e]; exact h
   | _ => simp only [evV0] at h; cases h
 | call c =>
   obtain ⟨callee, args, argTypes⟩ := c
   have hargs : ∀ b, callee = .builtin b → ∀ x ∈ args.toList, ρ' x = ρ x := fun b hb x hx => hρ x (by subst hb; simpa [Op.operands, Call.operands] using hx)
   cases callee with
   | builtin b =>
     cases b with
     | len =>
       simp only [evV0] at h ⊢
       split at h
       · rename_i x t e1 e2
         have e3 := hargs _ rfl x (by rw [e1]; simp)
         simp only [e1, e2, e3]
         split at h
         · rename_i a i e4 hi
           (try simp only [e4, hi])
           split at h
           · rename_i g1 g2; (try simp only [g1, g2]); exact evLen_local h ha
           · rename_i g1 g2 g3; (try simp only [g1, g2, g3]); exact evLen_local h ha
           · cases h
         · cases h
       · cases h
     | max => simp only [evV0] at h ⊢; rw [List.map_congr_left (hargs _ rfl)]; exact h
     | min => simp only [evV0] at h ⊢; rw [List.map_congr_left (hargs _ rfl)]; exact h
     | _ => simp only [evV0] at h; cases h
   | _ => simp only [evV0] at h; cases h
 | _ => simp only [evV0] at h; cases h
theorem evLenM_local {c : C} {out : Out} (h : evLenM ob c = some out) (ha : ∀ κ ∈ out.acc, ob' κ = ob κ) : evLenM ob' c = some out := by
 unfold evLenM at h ⊢
 split at h
 · rename_i κ
   split at h
   · rename_i K V l it ho
     cases h
     have e := ha κ (by simp)
     simp only [e, ho]
   · cases h
 · exact h
 · cases h
theorem evM_local {ρ ρ' : Operand → AV} {op : Op} {out : Out} (h : evM T ρ ob op = some out) (hρ : ∀ x ∈ op.operands.toList, ρ' x = ρ x) (ha : ∀ κ ∈ out.acc, ob' κ = ob κ) : evM T ρ' ob' op = some out ∧ evV0 T ρ' ob' op = none := by
 cases op with
 | index t x i =>
   simp only [evM, evV0] at h ⊢
   rw [hρ x (by simp [Op.operands]), hρ i (by simp [Op.operands])]
   split at h
   · rename_i k n cs e1 e2
     refine ⟨?_, ?_⟩
     · (try simp only [e1, e2]); exact h
     · rw [e1, e2]
   · cases h
 | slice t x lo hi mx =>
   cases lo with
   | some _ => cases hi <;> cases mx <;> simp only [evM] at h <;> cases h
   | none =>
     cases hi with
     | some _ => cases mx <;> simp only [evM] at h <;> cases h
     | none =>
       cases mx with
       | some _ => simp only [evM] at h; cases h
       | none =>
         simp only [evM, evV0, optI] at h ⊢
         rw [hρ x (by simp [Op.operands])]
         split at h
         · rename_i e y off e1
           (try simp only [e1])
           exact ⟨h, by simp [evSlice]⟩
         · rename_i κ off e1
           split at h
           · rename_i e y ho
             obtain ⟨c, hc, rfl⟩ := Option.map_eq_some_iff.1 h
             have e2 := ha κ (by simp)
             (try simp only [e1, e2, ho, hc, Option.map_some])
             exact ⟨trivial, by simp [evSlice]⟩
           · cases h
         · cases h
 | lookup t m x ok =>
   simp only [evM] at h ⊢
   rw [hρ m (by simp [Op.operands]), hρ x (by simp [Op.operands])]
   split at h
   · rename_i κ e1
     split at h
     · rename_i K V l it ho
       split at h
       · rename_i y k hy hk
         have hκ : κ ∈ out.acc := by
          cases ok <;> (cases h; simp)
         have e2 := ha κ hκ
         refine ⟨?_, ?_⟩
         · (try simp only [e1, e2, ho, hy, hk]); exact h
         · cases ok with
           | true => rfl
           | false =>
             simp only [evV0]
             rw [hρ m (by simp [Op.operands]), hρ x (by simp [Op.operands]), e1]
             split
             · rename_i κ' a b e3 e4
               cases e3
               rw [e2, ho]
               split <;> simp_all
             · rfl
       · cases h
     · cases h
   · rename_i K V l e1
     refine ⟨?_, ?_⟩
     · (try simp only [e1]); exact h
     · cases ok with
       | true => rfl
       | false =>
         simp only [evV0]
         rw [hρ m (by simp [Op.operands]), hρ x (by simp [Op.operands]), e1]
   · cases h
 | entry x =>
   simp only [evM, evV0] at h ⊢
   rw [hρ x (by simp [Op.operands])]
   split at h
   · rename_i d e1
     split at h
     · rename_i κ hd
       split at h
       · rename_i K V l d' L kv ho
         split at h
         · rename_i hdd
           cases h
           have e2 := ha d (by simp)
           have e3 := ha κ (by simp)
           (try simp only [e1, e2, hd, e3, ho, hdd])
           exact ⟨trivial, trivial⟩
         · cases h
       · cases h
     · cases h
   · cases h
 | call c =>
   obtain ⟨callee, args, argTypes⟩ := c
   cases callee with
   | builtin b =>
     cases b with
     | len =>
       simp only [evM, evV0] at h ⊢
       split at h
       · rename_i x t e1 e2
         have e3 := hρ x (by simp [Op.operands, Call.operands, e1])
         simp only [e1, e2, e3]
         split at h
         · rename_i a i e4 hi
           split at h
           · rename_i hm
             refine ⟨?_, ?_⟩
             · (try simp only [e4, hi, hm]); exact evLenM_local h ha
             · (try simp only [e4, hi])
               revert hm
               cases i.d <;> simp [isMapD, isStrD, isSlD]
           · cases h
         · cases h
       · cases h
     | _ => simp only [evM] at h; cases h
   | _ => simp only [evM] at h; cases h
 | _ => simp only [evM] at h; cases h
theorem evV_local {ρ ρ' : Operand → AV} {op : Op} {out : Out} (h : evV T ρ ob op = some out) (hρ : ∀ x ∈ op.operands.toList, ρ' x = ρ x) (ha : ∀ κ ∈ out.acc, ob' κ = ob κ) : evV T ρ' ob' op = some out := by
 unfold evV at h ⊢
 split at h
 · rename_i o ho
   cases h
   rw [evV0_local ho hρ ha]
 · obtain ⟨h1, h2⟩ := evM_local h hρ ha
   rw [h2]; exact h1
theorem mkNew_local {len d : Nat} {conds : List DP} {acc : List Nat} {v : C} {o : Ob} {e : Eff} (h : mkNew ob len d conds acc v o = some e) (ha : ∀ κ ∈ e.acc, ob' κ = ob κ) : mkNew ob' len d conds acc v o = some e ∧ e.kill = none ∧ ∃ o, e.upd = some (d, o) ∧ d ∈ e.acc ∧ d < len := by
 obtain ⟨h1, h2, rfl⟩ := mkNew_spec h
 refine ⟨?_, rfl, o, rfl, by simp, okK_lt h1⟩
 unfold mkNew at h ⊢
 rw [ha d (by simp)]
 exact h
theorem ob_lt {σ : St} {κ : Nat} {o : Ob} (h : σ.ob κ = some o) : κ < σ.objs.length := by
 rcases Nat.lt_or_ge κ σ.objs.length with g | g
 · exact g
 · unfold St.ob at h; rw [List.getD_eq_getElem?_getD, List.getElem?_eq_none g] at h; cases h
theorem srcL_local {e : Ty} {x : C} {acc : List Nat} {m : List e.D} (h : srcL ob e x = some (acc, m)) (ha : ∀ κ ∈ acc, ob' κ = ob κ) : srcL ob' e x = some (acc, m) := by
 cases x with
 | own κ =>
   simp only [srcL] at h ⊢
   split at h
   · rename_i e' l ho
     have hk : κ ∈ acc := by
      revert h
      generalize Ty.dec e' e = d
      intro h
      cases d with
      | isTrue he => subst he; cases h; simp
      | isFalse _ => cases h
     rw [ha κ hk, ho]
     exact h
   · cases h
 | part κ sz lo n =>
   simp only [srcL] at h ⊢
   split at h
   · rename_i e' l ho
     have hk : κ ∈ acc := by
      revert h
      generalize Ty.dec e' e = d
      intro h
      cases d with
      | isTrue he =>
        subst he
        split at h
        · cases h; simp
        · cases h
      | isFalse _ => cases h
     rw [ha κ hk, ho]
     exact h
   · cases h
 | _ => exact h
theorem evX0_local {σ σ' : St} (hl : σ'.objs.length = σ.objs.length) {ρ ρ' : Operand → AV} {dst : Option Nat} {op : Op} {e : Eff} (h : evX0 T Y ρ σ.ob σ.objs.length dst op = some e) (hρ : ∀ x ∈ op.operands.toList, ρ' x = ρ x) (ha : ∀ κ ∈ e.acc, σ'.ob κ = σ.ob κ) :
 evX0 T Y ρ' σ'.ob σ'.objs.length dst op = some e ∧ (True → ∀ κ ∈ updKeys e.upd, κ ∈ e.acc ∧ κ < σ.objs.length) := by
 rw [hl]
 have fin : ∀ {d : Nat} {conds : List DP} {acc : List Nat} {v : C} {o : Ob}, mkNew σ.ob σ.objs.length d conds acc v o = some e → mkNew σ'.ob σ.objs.length d conds acc v o = some e ∧ (True → ∀ κ ∈ updKeys e.upd, κ ∈ e.acc ∧ κ < σ.objs.length) := fun {d conds acc v o} hn => by
  obtain ⟨k1, k2, o, k3, k4, k5⟩ := mkNew_local hn ha
  refine ⟨k1, fun _ κ hκ => ?_⟩
  rw [k3] at hκ
  have : κ = d := by simpa [updKeys] using hκ
  rw [this]; exact ⟨k4, k5⟩
 cases op with
 | box el x =>
   simp only [evX0] at h ⊢
   rw [hρ x (by simp [Op.operands])]
   split at h
   · rename_i d x1 hx
     split at h
     · rename_i cs hcs; (try simp only [hx, hcs]); exact fin h
     · cases h
   · cases h
 | alloc el =>
   simp only [evX0] at h ⊢
   split at h
   · rename_i d i hi
     split at h
     · rename_i b z hz; (try simp only [hi, hz]); exact fin h
     · cases h
   · cases h
 | buildSlice t n parts =>
   simp only [evX0] at h ⊢
   have e1 : (parts.toList.map fun p => (p.1, ρ' p.2)) = parts.toList.map fun p => (p.1, ρ p.2) := List.map_congr_left fun p hp => by
    rw [hρ p.2 (by simp only [Op.operands]; exact List.mem_map.2 ⟨p, hp, rfl⟩)]
   rw [e1]
   split at h
   · rename_i d it hit
     split at h
     · rename_i el hd
       split at h
       · rename_i i ety hi hety
         split at h
         · rename_i b z hz
           split at h
           · rename_i hcond
             split at h
             · rename_i cs hcs
               split at h
               · rename_i l hl'
                 (try simp only [hit, hd, hi, hety, hz, if_pos hcond, hcs, hl'])
                 exact fin h
               · cases h
             · cases h
           · cases h
         · cases h
       · cases h
     · cases h
   · cases h
 | makeSlice t l c =>
   simp only [evX0] at h ⊢
   rw [hρ l (by simp [Op.operands])]
   split at h
   · rename_i d it hit
     split at h
     · rename_i el hd
       split at h
       · rename_i i ety hi hety
         split at h
         · rename_i b z hz
           split at h
           · rename_i hcond
             split at h
             · rename_i y n hy hn
               (try simp only [hit, hd, hi, hety, hz, if_pos hcond, hy, hn])
               exact fin h
             · cases h
           · cases h
         · cases h
       · cases h
     · cases h
   · cases h
 | makeMap t r =>
   cases r with
   | some r => simp only [evX0] at h; cases h
   | none =>
     simp only [evX0] at h ⊢
     split at h
     · rename_i d hs
       (try simp only [hs])
       exact fin h
     · cases h
 | mapUpdate t m k x =>
   simp only [evX0] at h ⊢
   rw [hρ m (by simp [Op.operands]), hρ k (by simp [Op.operands]), hρ x (by simp [Op.operands])]
   split at h
   · rename_i κ a b e1 e2 e3
     (try simp only [e1, e2, e3])
     split at h
     · rename_i l hs ho
       cases h
       have hk := ha κ (by simp)
       simp only [hs, hk, ho]
       exact ⟨trivial, fun _ κ' hκ => by
        have : κ' = κ := by simpa [updKeys] using hκ
        subst this; exact ⟨by simp, ob_lt ho⟩⟩
     · cases h
   · cases h
 | store t p x =>
   simp only [evX0] at h ⊢
   rw [hρ p (by simp [Op.operands]), hρ x (by simp [Op.operands])]
   split at h
   · rename_i c cx hp hx
     (try simp only [hp, hx])
     unfold evStore at h ⊢
     split at h
     · rename_i κ off
       split at h
       · rename_i i cs xs hi hob hxs
         split at h
         · rename_i hcond
           cases h
           have e2 := ha κ (by simp)
           simp only [hi, e2, hob, hxs, if_pos hcond]
           exact ⟨trivial, fun _ κ' hκ => by
            have : κ' = κ := by simpa [updKeys] using hκ
            subst this; exact ⟨by simp, ob_lt hob⟩⟩
         · cases h
       · cases h
     · rename_i κ sz j off
       split at h
       · rename_i i e1 l xs hi hob hxs
         split at h
         · rename_i hcond
           split at h
           · rename_i y hy
             cases h
             have e2 := ha κ (by simp)
             simp only [hi, e2, hob, hxs, if_pos hcond, hy]
             exact ⟨trivial, fun _ κ' hκ => by
              have : κ' = κ := by simpa [updKeys] using hκ
              subst this; exact ⟨by simp, ob_lt hob⟩⟩
           · cases h
         · cases h
       · cases h
     · cases h
   · cases h
 | call c =>
   obtain ⟨callee, args, argTypes⟩ := c
   cases callee with
   | builtin b =>
     cases b with
     | append =>
       simp only [evX0] at h ⊢
       split at h
       · rename_i s x t t' d e1 e2
         have e3 : ρ' s = ρ s := hρ s (by simp [Op.operands, Call.operands]; rw [← Array.mem_toList_iff, e1]; simp)
         have e4 : ρ' x = ρ x := hρ x (by simp [Op.operands, Call.operands]; rw [← Array.mem_toList_iff, e1]; simp)
         simp only [e1, e2, e3, e4]
         split at h
         · rename_i sc xc it hs hx hit
           split at h
           · rename_i el hd
             split at h
             · rename_i htt
               (try simp only [hs, hx, hit, hd, if_pos htt])
               unfold evAppend at h ⊢
               split at h
               · rename_i i hi
                 (try simp only [hi])
                 split at h
                 · cases h
                 · rename_i b z hz
                   split at h
                   · rename_i κ
                     split at h
                     · rename_i ety l hob
                       split at h
                       · rename_i acc m hm
                         split at h
                         · rename_i hcond
                           cases h
                           have g1 := ha κ (by simp)
                           have g2 := srcL_local (ob' := σ'.ob) hm (fun κ' hκ => ha κ' (by simp [hκ]))
                           simp only [hz, g1, hob, g2, if_pos hcond]
                           exact ⟨trivial, fun _ κ' hκ => by
                            have hκ' : κ' = κ := by simpa [updKeys] using hκ
                            subst hκ'
                            exact ⟨List.mem_cons_self .., okK_lt hcond.2.2.2.1⟩⟩
                         · cases h
                       · cases h
                     · cases h
                   · split at h
                     · rename_i ety hety
                       split at h
                       · rename_i acc m hm
                         split at h
                         · rename_i hcond
                           have hacc : ∀ κ' ∈ acc, κ' ∈ e.acc := fun κ' hκ => by
                            obtain ⟨_, _, rfl⟩ := mkNew_spec h
                            simp [hκ]
                           have g2 := srcL_local (ob' := σ'.ob) hm (fun κ' hκ => ha κ' (hacc κ' hκ))
                           simp only [hz, hety, g2, if_pos hcond]
                           exact fin h
                         · cases h
                       · cases h
                     · cases h
                   · cases h
               · cases h
             · cases h
           · cases h
         · cases h
       · cases h
     | copy =>
       simp only [evX0] at h ⊢
       split at h
       · rename_i d s t t' e1 e2
         have e3 : ρ' d = ρ d := hρ d (by simp [Op.operands, Call.operands]; rw [← Array.mem_toList_iff, e1]; simp)
         have e4 : ρ' s = ρ s := hρ s (by simp [Op.operands, Call.operands]; rw [← Array.mem_toList_iff, e1]; simp)
         simp only [e1, e2, e3, e4]
         split at h
         · rename_i dc sc it hd hs hit
           split at h
           · rename_i el hdd
             (try simp only [hd, hs, hit, hdd])
             unfold evCopy at h ⊢
             split at h
             · rename_i i κ lo n hi hpart
               split at h
               · rename_i ety l hob
                 split at h
                 · rename_i acc m hm
                   split at h
                   · rename_i hcond
                     cases h
                     have g1 := ha κ (by simp)
                     have g2 := srcL_local (ob' := σ'.ob) hm (fun κ' hκ => ha κ' (by simp [hκ]))
                     have g3 : partOf σ'.ob dc = some (κ, lo, n) := by
                      rw [← hpart]
                      cases dc with
                      | own κ' =>
                        have : κ' = κ := by
                         simp only [partOf] at hpart
                         split at hpart
                         · cases hpart; rfl
                         · cases hpart
                        subst this
                        simp only [partOf, g1]
                      | _ => rfl
                     simp only [hi, g3, g1, hob, g2, if_pos hcond]
                     exact ⟨trivial, fun _ κ' hκ => by
                      have : κ' = κ := by simpa [updKeys] using hκ
                      subst this; exact ⟨by simp, ob_lt hob⟩⟩
                   · cases h
                 · cases h
               · cases h
             · cases h
           · cases h
         · cases h
       · cases h
     | _ => simp only [evX0] at h; cases h
   | _ => simp only [evX0] at h; cases h
 | _ => simp only [evX0] at h; cases h
theorem evR_none {ρ ρ' : Operand → AV} {f g : Nat → Option Ob} {m n : Nat} {dst : Option Nat} {op : Op} {e : Eff} (h : evR T Y ρ f m dst op = some e) : evX0 T Y ρ' g n dst op = none := by
 cases op with
 | makeSlice t l c =>
   simp only [evR] at h
   simp only [evX0]
   split at h
   · rename_i d it hit
     split at h
     · rename_i el hd
       split at h
       · rename_i i ety hi hety
         obtain ⟨ey, h1, h2⟩ := Option.bind_eq_some_iff.1 hety
         split at h
         · rename_i b hz
           split at h
           · rename_i hcond
             have hn : ey.n = 2 := by
              unfold rowTy at h2
              split at h2
              · rfl
              · cases h2
             simp only [hit, hd, hi, h1, hz]
             rw [if_neg (fun z => by have := z.2.1; omega)]
           · cases h
         · cases h
       · cases h
     · cases h
   · cases h
 | _ => simp only [evR] at h; cases h
theorem evR_local {σ σ' : St} (hl : σ'.objs.length = σ.objs.length) {ρ ρ' : Operand → AV} {dst : Option Nat} {op : Op} {e : Eff} (h : evR T Y ρ σ.ob σ.objs.length dst op = some e) (hρ : ∀ x ∈ op.operands.toList, ρ' x = ρ x) (ha : ∀ κ ∈ e.acc, σ'.ob κ = σ.ob κ) :
 evR T Y ρ' σ'.ob σ'.objs.length dst op = some e ∧ (True → ∀ κ ∈ updKeys e.upd, κ ∈ e.acc ∧ κ < σ.objs.length) := by
 rw [hl]
 cases op with
 | makeSlice t l c =>
   simp only [evR] at h ⊢
   rw [hρ l (by simp [Op.operands])]
   split at h
   · rename_i d it hit
     split at h
     · rename_i el hd
       split at h
       · rename_i i ety hi hety
         split at h
         · rename_i b hz
           split at h
           · rename_i hcond
             split at h
             · rename_i n hn
               simp only [hit, hd, hi, hety, hz, if_pos hcond, hn]
               obtain ⟨k1, k2, o, k3, k4, k5⟩ := mkNew_local h ha
               refine ⟨k1, fun _ κ hκ => ?_⟩
               rw [k3] at hκ
               have : κ = d := by simpa [updKeys] using hκ
               rw [this]; exact ⟨k4, k5⟩
             · cases h
           · cases h
         · cases h
       · cases h
     · cases h
   · cases h
 | _ => simp only [evR] at h; cases h
theorem evS_local {σ σ' : St} (hl : σ'.objs.length = σ.objs.length) {ρ ρ' : Operand → AV} {dst : Option Nat} {op : Op} {e : Eff} (h : evS T Y ρ σ.ob σ.objs.length dst op = some e) (hρ : ∀ x ∈ op.operands.toList, ρ' x = ρ x) (ha : ∀ κ ∈ e.acc, σ'.ob κ = σ.ob κ) :
 evS T Y ρ' σ'.ob σ'.objs.length dst op = some e ∧ (True → ∀ κ ∈ updKeys e.upd, κ ∈ e.acc ∧ κ < σ.objs.length) := by
 rw [hl]
 cases op with
 | slice t x lo hi mx =>
   cases mx with
   | some m => simp only [evS] at h; cases h
   | none =>
     have e0 : ∀ y : Option Operand, (∀ z, y = some z → z ∈ (Op.slice t x lo hi none).operands.toList) → optI ρ' y = optI ρ y := fun y hy => by
      cases y with
      | none => rfl
      | some z => simp only [optI]; rw [hρ z (hy z rfl)]
     simp only [evS] at h ⊢
     rw [hρ x (by simp [Op.operands]), e0 lo (fun z hz => by subst hz; simp [Op.operands]), e0 hi (fun z hz => by subst hz; simp [Op.operands])]
     split at h
     · rename_i d
       split at h
       · rename_i mk hmk
         split at h
         · rename_i κ lo' hi' e1 hlo hhi
           split at h
           · rename_i ety l hob hokk
             split at h
             · rename_i out hout
               cases h
               have e2 : σ'.ob κ = some (.vec ety l) := by rw [ha κ (by simp), hob]
               have e3 : evSlice T σ'.ob t (.own κ) lo' hi' = some out := by
                rw [← hout]
                simp only [evSlice, e2, hob]
               simp only [hmk, e1, hlo, hhi, e2, hokk, e3]
               refine ⟨trivial, fun _ κ' hκ => ?_⟩
               have : κ' = κ := by simpa [updKeys] using hκ
               subst this
               exact ⟨by simp, okK_lt hokk⟩
             · cases h
           · cases h
         · cases h
       · cases h
     · cases h
 | _ => simp only [evS] at h; cases h
theorem evS_none {ρ : Operand → AV} {ob : Nat → Option Ob} {len : Nat} {dst : Option Nat} {op : Op} {e : Eff} (h : evS T Y ρ ob len dst op = some e) (ρ' : Operand → AV) (ob' : Nat → Option Ob) (len' : Nat) : evX0 T Y ρ' ob' len' dst op = none ∧ evR T Y ρ' ob' len' dst op = none := by
 cases op with
 | slice t x lo hi mx => exact ⟨rfl, rfl⟩
 | _ => simp only [evS] at h; cases h
theorem evC_local {σ σ' : St} {ρ ρ' : Operand → AV} {op : Op} {e : Eff} (h : evC T ρ σ.ob op = some e) (hρ : ∀ x ∈ op.operands.toList, ρ' x = ρ x) (ha : ∀ κ ∈ e.acc, σ'.ob κ = σ.ob κ) :
 evC T ρ' σ'.ob op = some e ∧ (True → ∀ κ ∈ updKeys e.upd, κ ∈ e.acc ∧ κ < σ.objs.length) := by
 cases op with
 | call c =>
   obtain ⟨callee, args, argTypes⟩ := c
   cases callee with
   | builtin b =>
     cases b with
     | clear =>
       simp only [evC] at h ⊢
       split at h
       · rename_i x t e1 e2
         have ex : ρ' x = ρ x := hρ x (by simp [Op.operands, Call.operands]; rw [← Array.mem_toList_iff, e1]; simp)
         simp only [e1, e2, ex]
         split at h
         · rename_i xc it hx hit
           (try simp only [hx, hit])
           split at h
           · rename_i el hdd
             unfold evClear at h ⊢
             split at h
             · rename_i κ sz lo n
               split at h
               · rename_i i ety l hi hob
                 split at h
                 · rename_i b z hz
                   split at h
                   · rename_i hcond
                     split at h
                     · rename_i y hy
                       cases h
                       have e4 : σ'.ob κ = some (.vec ety l) := by rw [ha κ (by simp), hob]
                       simp only [hdd, hi, e4, hz, if_pos hcond, hy]
                       refine ⟨trivial, fun _ κ' hκ => ?_⟩
                       have : κ' = κ := by simpa [updKeys] using hκ
                       subst this
                       exact ⟨by simp, ob_lt' (by rw [hob]; simp)⟩
                     · cases h
                   · cases h
                 · cases h
               · cases h
             · cases h
           · cases h
         · cases h
       · cases h
     | _ => simp only [evC] at h; cases h
   | _ => simp only [evC] at h; cases h
 | _ => simp only [evC] at h; cases h
theorem evC_none {ρ : Operand → AV} {ob : Nat → Option Ob} {op : Op} {e : Eff} (h : evC T ρ ob op = some e) (ρ' : Operand → AV) (ob' : Nat → Option Ob) (len' : Nat) (dst : Option Nat) : evX0 T Y ρ' ob' len' dst op = none ∧ evR T Y ρ' ob' len' dst op = none ∧ evS T Y ρ' ob' len' dst op = none := by
 cases op with
 | call c =>
   obtain ⟨callee, args, argTypes⟩ := c
   cases callee with
   | builtin b =>
     cases b with
     | clear => exact ⟨rfl, rfl, rfl⟩
     | _ => simp only [evC] at h; cases h
   | _ => simp only [evC] at h; cases h
 | _ => simp only [evC] at h; cases h
theorem evX1_local {σ σ' : St} (hl : σ'.objs.length = σ.objs.length) {ρ ρ' : Operand → AV} {dst : Option Nat} {op : Op} {e : Eff} (h : evX1 T Y ρ σ.ob σ.objs.length dst op = some e) (hρ : ∀ x ∈ op.operands.toList, ρ' x = ρ x) (ha : ∀ κ ∈ e.acc, σ'.ob κ = σ.ob κ) :
 evX1 T Y ρ' σ'.ob σ'.objs.length dst op = some e ∧ (True → ∀ κ ∈ updKeys e.upd, κ ∈ e.acc ∧ κ < σ.objs.length) ∧
 evX0 T Y ρ' σ'.ob σ'.objs.length dst op = none ∧ evR T Y ρ' σ'.ob σ'.objs.length dst op = none ∧ evS T Y ρ' σ'.ob σ'.objs.length dst op = none ∧ evC T ρ' σ'.ob op = none := by
 have one : ∀ {κ : Nat} {o o' : Ob}, σ.ob κ = some o → ∀ κ' ∈ updKeys (some (κ, o')), κ' ∈ [κ] ∧ κ' < σ.objs.length := fun ho κ' hκ => by
  simp only [updKeys, List.mem_singleton] at hκ
  subst hκ
  exact ⟨List.mem_singleton.2 rfl, ob_lt ho⟩
 cases op with
 | store t p x =>
   simp only [evX1] at h ⊢
   rw [hρ p (by simp [Op.operands]), hρ x (by simp [Op.operands])]
   split at h
   · rename_i κ off n sz i k v e1 e2
     split at h
     · rename_i ti cs hti hob
       split at h
       · rename_i l hc hl'
         cases h
         have e3 := ha κ (by simp)
         refine ⟨?_, fun _ => one hob, ?_, rfl, rfl, rfl⟩
         · (try simp only [e1, e2, hti, e3, hob, hc, hl'])
         · simp only [evX0]
           rw [hρ p (by simp [Op.operands]), hρ x (by simp [Op.operands]), e1, e2]
           rfl
       · cases h
     · cases h
   · cases h
 | slice t x lo hi mx =>
   cases lo with
   | some _ => cases hi <;> cases mx <;> simp only [evX1] at h <;> cases h
   | none =>
     cases hi with
     | some _ => cases mx <;> simp only [evX1] at h <;> cases h
     | none =>
       cases mx with
       | some _ => simp only [evX1] at h; cases h
       | none =>
         simp only [evX1] at h ⊢
         rw [hρ x (by simp [Op.operands])]
         split at h
         · rename_i κ e1
           split at h
           · rename_i cs ey hob hY
             split at h
             · rename_i y hy
               obtain ⟨c, hc, rfl⟩ := Option.map_eq_some_iff.1 h
               have e3 := ha κ (by simp)
               refine ⟨?_, fun _ => one hob, rfl, rfl, ?_, rfl⟩
               · (try simp only [e1, e3, hob, hY, hy, hc, Option.map_some])
               · simp only [evS, optI]
                 rw [hρ x (by simp [Op.operands]), e1]
                 cases dst with
                 | none => rfl
                 | some d =>
                   simp only
                   cases Y.get (cutMark d) <;> rfl
             · cases h
           · cases h
         · cases h
 | makeMap t r =>
   cases r with
   | some _ => simp only [evX1] at h; cases h
   | none =>
     simp only [evX1] at h ⊢
     split at h
     · rename_i d K V hs hY
       split at h
       · rename_i y hy
         have h1 := mkNew_local h ha
         rw [hl]
         refine ⟨h1.1, fun _ κ hκ => ?_, ?_, rfl, rfl, rfl⟩
         · obtain ⟨_, _, o, h2, h3, h4⟩ := h1
           rw [h2] at hκ
           simp only [updKeys, List.mem_singleton] at hκ
           subst hκ
           exact ⟨h3, h4⟩
         · simp only [evX0, hs]
       · cases h
     · cases h
 | mapUpdate t m k x =>
   simp only [evX1] at h ⊢
   rw [hρ m (by simp [Op.operands]), hρ k (by simp [Op.operands]), hρ x (by simp [Op.operands])]
   split at h
   · rename_i κ e1
     split at h
     · rename_i K V l it hob
       split at h
       · rename_i y kk xx hy hk hx
         cases h
         have e3 := ha κ (by simp)
         refine ⟨?_, fun _ => one hob, ?_, rfl, rfl, rfl⟩
         · (try simp only [e1, e3, hob, hy, hk, hx])
         · simp only [evX0]
           rw [hρ m (by simp [Op.operands]), hρ k (by simp [Op.operands]), hρ x (by simp [Op.operands]), e1]
           split
           · rename_i κ' a b e4 e5 e6
             cases e4
             rw [e3, hob]
             split <;> simp_all
           · rfl
       · cases h
     · cases h
   · cases h
 | call c =>
   obtain ⟨callee, args, argTypes⟩ := c
   cases callee with
   | builtin b =>
     cases b with
     | delete =>
       simp only [evX1] at h ⊢
       split at h
       · rename_i m k t t' e0 e0'
         have hm := hρ m (by simp [Op.operands, Call.operands, e0])
         have hk' := hρ k (by simp [Op.operands, Call.operands, e0])
         simp only [e0, e0', hm, hk']
         split at h
         · rename_i κ e1
           split at h
           · rename_i K V l it hob
             split at h
             · rename_i y kk hy hk
               cases h
               have e3 := ha κ (by simp)
               refine ⟨?_, fun _ => one hob, rfl, rfl, rfl, rfl⟩
               (try simp only [e1, e3, hob, hy, hk])
             · cases h
           · cases h
         · cases h
       · cases h
     | _ => simp only [evX1] at h; cases h
   | _ => simp only [evX1] at h; cases h
 | _ => simp only [evX1] at h; cases h
theorem evX_local {σ σ' : St} (hl : σ'.objs.length = σ.objs.length) {ρ ρ' : Operand → AV} {dst : Option Nat} {op : Op} {e : Eff} (h : evX T Y ρ σ.ob σ.objs.length dst op = some e) (hρ : ∀ x ∈ op.operands.toList, ρ' x = ρ x) (ha : ∀ κ ∈ e.acc, σ'.ob κ = σ.ob κ) :
 evX T Y ρ' σ'.ob σ'.objs.length dst op = some e ∧ (True → ∀ κ ∈ updKeys e.upd, κ ∈ e.acc ∧ κ < σ.objs.length) := by
 unfold evX at h
 split at h
 · rename_i e' he'
   cases h
   have := evX0_local hl he' hρ ha
   refine ⟨?_, this.2⟩
   unfold evX; rw [this.1]
 · split at h
   · rename_i e' he'
     cases h
     have := evR_local hl he' hρ ha
     refine ⟨?_, this.2⟩
     unfold evX; rw [evR_none he', this.1]
   · split at h
     · rename_i e' he'
       cases h
       have := evS_local hl he' hρ ha
       refine ⟨?_, this.2⟩
       obtain ⟨q1, q2⟩ := evS_none he' ρ' σ'.ob σ'.objs.length
       unfold evX; rw [q1, q2, this.1]
     · split at h
       · rename_i e' he'
         cases h
         have := evC_local (σ := σ) (σ' := σ') he' hρ ha
         refine ⟨?_, this.2⟩
         obtain ⟨q1, q2, q3⟩ := evC_none he' ρ' σ'.ob σ'.objs.length dst
         unfold evX; rw [q1, q2, q3, this.1]
       · obtain ⟨q0, q5, q1, q2, q3, q4⟩ := evX1_local hl h hρ ha
         refine ⟨?_, q5⟩
         unfold evX; rw [q1, q2, q3, q4, q0]
end
end Go.Rx
