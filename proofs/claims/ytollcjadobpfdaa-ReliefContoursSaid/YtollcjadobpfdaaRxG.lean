/- Reflection, part G: an operation that yields a value, of whatever kind. -/
import Derived.Test.YtollcjadobpfdaaRxMp
namespace Go.Rx
set_option linter.unusedVariables false
set_option linter.unusedSimpArgs false
set_option linter.unusedSectionVars false
def isStrD : TD → Bool
 | .str => true
 | _ => false
def isSlD : TD → Bool
 | .slice _ => true
 | _ => false
def isStrC : C → Bool
 | .str _ => true
 | _ => false
def ptrs? : List AV → Option (List Nat)
 | [] => some []
 | .cp (.one (.ptr κ 0)) :: r => (ptrs? r).map (κ :: ·)
 | _ => none
def isMapD : TD → Bool
 | .map _ _ => true
 | _ => false
def isCst : Operand → Bool
 | .const _ => true
 | _ => false
section
variable (T : Tab) (ρ : Operand → AV) (ob : Nat → Option Ob)
def arrL (T : Tab) (t : TypeId) (cs : List C) (off : Nat) : Option C :=
 match T.get t with
 | some i => match i.d with
   | .array m el => match T.get el with
     | some ei => match ei.d with
       | .int k => match ei.size.beq 1, intsC k ((cs.drop off).take m) with
         | true, some l => if l.length = m then some (.val false (.int k) l) else none
         | _, _ => none
       | _ => none
     | none => none
   | _ => none
 | none => none
def evM : Op → Option Out
 | .index t x i => match ρ i, ρ x with
   | .cp (.one (.int _ n)), .cp (.agg cs) => evIndexArr T t cs (isCst i) n
   | _, _ => none
 | .slice t x none none none => match ρ x with
   | .cp (.one (.fptr e y off)) => (arrL T t (e.cells y) off).map fun c => ⟨[], [], oneA c⟩
   | .cp (.one (.ptr κ off)) => match ob κ with
     | some (.fbox e y) => (arrL T t (e.cells y) off).map fun c => ⟨[], [κ], oneA c⟩
     | _ => none
   | _ => none
 | .lookup t m x ok => match ρ m with
   | .cp (.one (.mp κ)) => match ob κ with
     | some (.map K V l _) => match mapB T t K V, datOf K (ρ x) with
       | some y, some k => match ok with
         | true => some ⟨[], [κ], .tup [valC V ((mgetB (kB K) l k).getD y), .one (.prop ((mgetB (kB K) l k).isSome = true) inferInstance)]⟩
         | false => some ⟨[], [κ], .cp (valC V ((mgetB (kB K) l k).getD y))⟩
       | _, _ => none
     | _ => none
   | .cp (.one (.dat (.map K V) l)) => match mapB T t K V, datOf K (ρ x) with
     | some y, some k => match ok with
       | true => some ⟨[], [], .tup [valC V ((mgetB (kB K) l k).getD y), .one (.prop ((mgetB (kB K) l k).isSome = true) inferInstance)]⟩
       | false => some ⟨[], [], .cp (valC V ((mgetB (kB K) l k).getD y))⟩
     | _, _ => none
   | _ => none
 | .entry x => match ρ x with
   | .cp (.one (.ptr d 0)) => match ob d with
     | some (.tok κ) => match ob κ with
       | some (.map K V l (some (d', _, some kv))) => match d'.beq d with
         | true => some ⟨[], [d, κ], .tup [valC K kv.1, valC V kv.2]⟩
         | false => none
       | _ => none
     | _ => none
   | _ => none
 | .call c => match c.callee with
   | .builtin .len => match c.args.toList, c.argTypes.toList with
     | [x], [t] => match ρ x, T.get t with
       | .cp (.one a), some i => match isMapD i.d with
         | true => evLenM ob a
         | false => none
       | _, _ => none
     | _, _ => none
   | _ => none
 | _ => none
def evV0 : Op → Option Out
 | .move x => some ⟨[], [], ρ x⟩
 | .assign x => some ⟨[], [], ρ x⟩
 | .pick c a b => match ρ c with
   | .cp (.one (.lit true)) => some ⟨[], [], ρ a⟩
   | .cp (.one (.lit false)) => some ⟨[], [], ρ b⟩
   | _ => none
 | .load t x => match ρ x with
   | .cp (.one c) => evLoad T ob t c
   | _ => none
 | .fieldAddr s x f => match ρ x with
   | .cp (.one c) => evFieldAddr T s f c
   | _ => none
 | .field s x f => match ρ x with
   | .cp (.agg cs) => evField T s f cs
   | _ => none
 | .indexAddr t x i => match ρ i, ρ x with
   | .cp (.one (.int _ n)), .cp (.one c) => evIndexAddr T ob t c (isCst i) n
   | _, _ => none
 | .index t x i => match ρ i, ρ x, T.get t with
   | .cp (.one (.int _ n)), .cp (.one (.str s)), some ti => match isStrD ti.d with
     | true => some ⟨[⟨0 ≤ n, inferInstance⟩, ⟨n < (s.size : Int), inferInstance⟩], [], oneA (.int .u8 (strAt s n.toNat))⟩
     | false => none
   | _, _, _ => none
 | .binOp op t x y _ => evBin T op t (ρ x) (ρ y)
 | .unOp op _ x => match ρ x with
   | .cp (.one c) => evUn op c
   | _ => none
 | .convert s d x => match ρ x with
   | .cp (.one c) => evConv T s d c
   | _ => none
 | .extract x n => match ρ x with
   | .tup vs => match vs[n]? with
     | some v => some ⟨[], [], .cp v⟩
     | none => none
   | _ => none
 | .nilCheck x => match ρ x with
   | .cp (.one (.ptr κ o)) => some ⟨[], [], oneA (.ptr κ o)⟩
   | .cp (.one (.vptr κ s i o)) => some ⟨[], [], oneA (.vptr κ s i o)⟩
   | .cp (.one (.fptr e x o)) => some ⟨[], [], oneA (.fptr e x o)⟩
   | _ => none
 | .build t parts => evBuild T t (parts.toList.map fun p => (p.1, ρ p.2))
 | .slice t x lo hi none => match ρ x, optI ρ lo, optI ρ hi with
   | .cp (.one c), some lo, some hi => evSlice T ob t c lo hi
   | _, _, _ => none
 | .lookup t m x false => match ρ m, ρ x with
   | .cp (.one (.mp κ)), .cp (.agg [.int .i64 a, .int .i64 b]) => match setB T t, ob κ with
     | true, some (.set l) => some ⟨[], [κ], oneA (.prop ((a, b) ∈ l) inferInstance)⟩
     | _, _ => none
   | _, _ => none
 | .makeFunc (.func f) first captured => if first.size = 0 then (ptrs? (captured.toList.map ρ)).map fun κs => ⟨[], [], oneA (.fn f κs)⟩ else none
 | .call c => match c.callee with
   | .builtin .len => match c.args.toList, c.argTypes.toList with
     | [x], [t] => match ρ x, T.get t with
       | .cp (.one a), some i => match isStrD i.d, isSlD i.d, isStrC a with
         | true, _, true => evLen ob a
         | false, true, false => evLen ob a
         | _, _, _ => none
       | _, _ => none
     | _, _ => none
   | .builtin .max => match c.args.toList.map ρ with
     | .cp (.one (.int k x)) :: r => (mxC true k x r).map fun c => ⟨[], [], oneA c⟩
     | _ => none
   | .builtin .min => match c.args.toList.map ρ with
     | .cp (.one (.int k x)) :: r => (mxC false k x r).map fun c => ⟨[], [], oneA c⟩
     | _ => none
   | _ => none
 | _ => none
def evV (op : Op) : Option Out := match evV0 T ρ ob op with
 | some o => some o
 | none => evM T ρ ob op
end
theorem ptrs_rep {w : World} {R : Nat → RL} {Pr : Nat → Prop} : ∀ {l : List AV} {κs : List Nat} {vs : List Value}, ptrs? l = some κs → All2 (RepA w R Pr) l vs → vs = κs.map (fun κ => Value.pointer (some ⟨(R κ).blk, 0, none⟩)) ∧ ∀ κ ∈ κs, ∃ x ∈ l, κ ∈ x.refs
 | [], _, [], h, _ => by simp only [ptrs?] at h; cases h; exact ⟨rfl, fun κ h => by cases h⟩
 | a :: l, κs, v :: vs, h, hr => by
   unfold ptrs? at h
   split at h
   · rename_i e; cases e
   · rename_i κ r e
     cases e
     obtain ⟨κ1, h1, rfl⟩ := Option.map_eq_some_iff.1 h
     obtain ⟨rfl, k2⟩ := ptrs_rep h1 hr.2
     have hv : v = .pointer (some ⟨(R κ).blk, 0, none⟩) := hr.1
     refine ⟨by rw [hv]; rfl, fun x hx => ?_⟩
     rcases List.mem_cons.1 hx with rfl | hx
     · exact ⟨_, List.mem_cons_self .., by simp [AV.refs, Cp.refs, C.refs]⟩
     · obtain ⟨y, g1, g2⟩ := k2 x hx
       exact ⟨y, List.mem_cons_of_mem _ g1, g2⟩
   · cases h
 | [], _, _ :: _, _, hr => hr.elim
 | _ :: _, _, [], _, hr => hr.elim
def Seen (ρ : Operand → AV) (ob : Nat → Option Ob) (xs : List Operand) (acc : List Nat) (κ : Nat) : Prop :=
 (∃ x ∈ xs, κ ∈ (ρ x).refs) ∨ ∃ κ' ∈ acc, ∃ o, ob κ' = some o ∧ κ ∈ o.refs
theorem All2_map {α β γ : Type} {r : β → γ → Prop} {f : α → β} {g : α → γ} : ∀ (l : List α), (∀ a ∈ l, r (f a) (g a)) → All2 r (l.map f) (l.map g)
 | [], _ => trivial
 | a :: l, h => ⟨h a (List.mem_cons_self ..), All2_map l fun x hx => h x (List.mem_cons_of_mem _ hx)⟩
theorem evV0_sound {P : Program} {T : Tab} (hT : TabOK P T) {w : World} {R : Nat → RL} {Pr : Nat → Prop} {ob : Nat → Option Ob} (hob : ∀ κ o, ob κ = some o → RepOb w R Pr κ o)
 {ρ : Operand → AV} {ev : Operand → Value} (hρ : ∀ x, RepA w R Pr (ρ x) (ev x)) {o : Oper} {out : Out} (h : evV0 T ρ ob o.op = some out) (hh : Hold out.conds) :
 ∃ u, (execOp ev o).run P w = .ok (.value u) w ∧ RepA w R Pr out.v u ∧ ∀ κ ∈ out.v.refs, Seen ρ ob o.op.operands.toList out.acc κ := by
 obtain ⟨dst, op, ty, pos, after, guard⟩ := o
 simp only at h ⊢
 have lift : ∀ (s : Sem Value) (x : Operand), (∃ u, s.run P w = .ok u w ∧ RepA w R Pr out.v u ∧ ∀ κ ∈ out.v.refs, Seen ρ ob op.operands.toList out.acc κ) →
  execOp ev ⟨dst, op, ty, pos, after, guard⟩ = (do pure (.value (← s))) → ∃ u, (execOp ev ⟨dst, op, ty, pos, after, guard⟩).run P w = .ok (.value u) w ∧ RepA w R Pr out.v u ∧ ∀ κ ∈ out.v.refs, Seen ρ ob op.operands.toList out.acc κ := fun s x ⟨u, k1, k2, k3⟩ e => by
  refine ⟨u, ?_, k2, k3⟩
  rw [e]
  simp [k1]
 cases op with
 | move x =>
   simp only [evV0] at h; cases h
   exact ⟨ev x, by simp [execOp], hρ x, fun κ hκ => .inl ⟨x, by simp [Op.operands], hκ⟩⟩
 | assign x =>
   simp only [evV0] at h; cases h
   exact ⟨ev x, by simp [execOp], hρ x, fun κ hκ => .inl ⟨x, by simp [Op.operands], hκ⟩⟩
 | pick c a b =>
   simp only [evV0] at h
   have hc := hρ c
   split at h
   · rename_i e
     cases h
     rw [e] at hc
     have hc : ev c = .bool true := hc
     exact ⟨ev a, by simp [execOp, hc, asBool], hρ a, fun κ hκ => .inl ⟨a, by simp [Op.operands], hκ⟩⟩
   · rename_i e
     cases h
     rw [e] at hc
     have hc : ev c = .bool false := hc
     exact ⟨ev b, by simp [execOp, hc, asBool], hρ b, fun κ hκ => .inl ⟨b, by simp [Op.operands], hκ⟩⟩
   · cases h
 | load t x =>
   simp only [evV0] at h
   have hx := hρ x
   split at h
   · rename_i c e
     rw [e] at hx
     obtain ⟨u, k1, k2, k3⟩ := evLoad_sound hT hob h hx
     exact lift _ x ⟨u, k1, k2, fun κ hκ => .inr (k3 κ hκ)⟩ rfl
   · cases h
 | fieldAddr s x f =>
   simp only [evV0] at h
   have hx := hρ x
   split at h
   · rename_i c e
     rw [e] at hx
     obtain ⟨u, k1, k2, k3⟩ := evFieldAddr_sound hT hob h hx
     exact lift _ x ⟨u, k1, k2, fun κ hκ => .inl ⟨x, by simp [Op.operands], by rw [e]; exact k3 κ hκ⟩⟩ rfl
   · cases h
 | field s x f =>
   simp only [evV0] at h
   have hx := hρ x
   split at h
   · rename_i cs e
     rw [e] at hx
     obtain ⟨vs, hv, hr⟩ := hx
     obtain ⟨u, k1, k2, k3⟩ := evField_sound hT h hr
     refine lift (Instr.field s (ev x) f) x ⟨u, by rw [hv]; exact k1, k2, fun κ hκ => .inl ⟨x, by simp [Op.operands], ?_⟩⟩ rfl
     obtain ⟨c, hc, hk⟩ := k3 κ hκ
     rw [e]; exact List.mem_flatMap.2 ⟨c, hc, hk⟩
   · cases h
 | indexAddr t x i =>
   simp only [evV0] at h
   have hx := hρ x
   have hi := hρ i
   split at h
   · rename_i k n c e1 e2
     rw [e2] at hx
     rw [e1] at hi
     have hi : ev i = .int k n := hi
     obtain ⟨u, k1, k2, k3⟩ := evIndexAddr_sound hT hob (k := k) h hh hx
     exact lift (Instr.indexAt t (ev x) (ev i)) x ⟨u, by rw [hi]; exact k1, k2, fun κ hκ => .inl ⟨x, by simp [Op.operands], by rw [e2]; exact k3 κ hκ⟩⟩ rfl
   · cases h
 | index t x i =>
   simp only [evV0] at h
   have hx := hρ x
   have hi := hρ i
   split at h
   · rename_i k n s ti e1 e2 e3
     split at h
     · rename_i hs
       cases h
       rw [e2] at hx
       rw [e1] at hi
       have hi : ev i = .int k n := hi
       have hx : ev x = .string s := hx
       obtain ⟨d, hu, hd⟩ := tab_under hT e3
       have hstr : P.underlying t = some .string := by
        rw [hd] at hs
        cases d <;> simp [tdOf, isStrD] at hs
        exact hu
       have h0 : 0 ≤ n := hh ⟨0 ≤ n, inferInstance⟩ (by simp)
       have h1 : n < (s.size : Int) := hh ⟨n < (s.size : Int), inferInstance⟩ (by simp)
       refine lift (Instr.index t (ev x) (ev i)) x ⟨.int .u8 (strAt s n.toNat), ?_, rfl, fun κ hκ => by simp [AV.refs, Cp.refs, C.refs] at hκ⟩ rfl
       rw [hi, hx, run_index_string w t s k n hstr, dif_pos ⟨h0, h1⟩, strAt_eq s n.toNat (by omega)]
     · cases h
   · cases h
 | binOp op t x y yt =>
   simp only [evV0] at h
   obtain ⟨r, k0, k1, k2, k3⟩ := evBin_sound hT h hh (hρ x) (hρ y) x y
   exact lift (do eqGuard op t x y (ev x) (ev y); binOp op t (ev x) (ev y)) x ⟨r, by rw [Sem.run_bind, k0]; exact k1, k2, fun κ hκ => by rw [k3] at hκ; cases hκ⟩ rfl
 | unOp op t x =>
   simp only [evV0] at h
   have hx := hρ x
   split at h
   · rename_i c e
     rw [e] at hx
     obtain ⟨r, k1, k2, k3⟩ := evUn_sound hT h hx
     exact lift _ x ⟨r, k1, k2, fun κ hκ => by rw [k3] at hκ; cases hκ⟩ rfl
   · cases h
 | convert s d x =>
   simp only [evV0] at h
   have hx := hρ x
   split at h
   · rename_i c e
     rw [e] at hx
     obtain ⟨r, k1, k2, k3⟩ := evConv_sound hT h hx
     exact lift _ x ⟨r, k1, k2, fun κ hκ => by rw [k3] at hκ; cases hκ⟩ rfl
   · cases h
 | extract x n =>
   simp only [evV0] at h
   have hx := hρ x
   split at h
   · rename_i vs e
     rw [e] at hx
     split at h
     · rename_i v hv
       cases h
       obtain ⟨us, h1, h2⟩ := hx
       obtain ⟨u, hu, hr⟩ := h2.get hv
       have hu' : us[n]? = some u := by simpa using hu
       refine lift (Instr.extract (ev x) n) x ⟨u, by rw [h1]; simp [Instr.extract, hu'], hr, fun κ hκ => .inl ⟨x, by simp [Op.operands], ?_⟩⟩ rfl
       rw [e]; exact List.mem_flatMap.2 ⟨v, List.mem_of_getElem? hv, hκ⟩
     · cases h
   · cases h
 | nilCheck x =>
   simp only [evV0] at h
   have hx := hρ x
   split at h
   · rename_i e; cases h
     rw [e] at hx
     have hx' : ev x = _ := hx
     exact ⟨ev x, by simp [execOp, hx'], hx, fun κ hκ => .inl ⟨x, by simp [Op.operands], by rw [e]; exact hκ⟩⟩
   · rename_i e; cases h
     rw [e] at hx
     obtain ⟨_, o, n, c, _, hx'⟩ := id hx
     exact ⟨ev x, by simp [execOp, hx'], hx, fun κ hκ => .inl ⟨x, by simp [Op.operands], by rw [e]; exact hκ⟩⟩
   · rename_i e; cases h
     rw [e] at hx
     obtain ⟨blk, o, cells, el, fr, us, hx', _⟩ := id hx
     exact ⟨ev x, by simp [execOp, hx'], hx, fun κ hκ => by cases hκ⟩
   · cases h
 | slice t x lo hi mx =>
   cases mx with
   | some m => simp only [evV0] at h; cases h
   | none =>
     simp only [evV0] at h
     have hx := hρ x
     split at h
     · rename_i c l1 h1 e1 e2 e3
       rw [e1] at hx
       obtain ⟨u, k1, k2, k3⟩ := evSlice_sound hT hρ e2 e3 hob h hh hx
       exact lift (Instr.sliceAt t (ev x) (lo.map ev) (hi.map ev) none) x ⟨u, k1, k2, fun κ hκ => .inl ⟨x, by simp [Op.operands], by rw [e1]; exact k3 κ hκ⟩⟩ rfl
     · cases h
 | lookup t m x ok =>
   cases ok with
   | true => simp only [evV0] at h; cases h
   | false =>
     simp only [evV0] at h
     have hm := hρ m
     have hx := hρ x
     split at h
     · rename_i κ a b e1 e2
       rw [e1] at hm
       rw [e2] at hx
       split at h
       · rename_i l hs ho
         cases h
         obtain ⟨es, clock, hb, hr⟩ := hob κ _ ho
         have hm : ev m = .map (some (R κ).blk) := hm
         obtain ⟨vs, hx1, hx2⟩ := hx
         have hvs : vs = #[.int .i64 a, .int .i64 b] := by
          apply Array.ext'
          generalize vs.toList = l at hx2
          match l, hx2 with
          | [u, v], h => rw [show u = _ from h.1, show v = _ from h.2.1]
         have hx1 : ev x = pk a b := by rw [hx1, hvs]
         have hrun := run_lookup_set hT hs hb hr a b
         refine lift (Instr.lookup t (ev m) (ev x) false) x ⟨.bool (decide ((a, b) ∈ l)), by rw [hm, hx1]; exact hrun, rfl, fun κ hκ => by cases hκ⟩ rfl
       · cases h
     · cases h
 | build t parts =>
   simp only [evV0] at h
   have hp : All2 (fun p v => p.1 = v.1 ∧ RepA w R Pr p.2 v.2) (parts.toList.map fun p => (p.1, ρ p.2)) (parts.map fun (i, x) => (i, ev x)).toList := by
    rw [Array.toList_map]
    exact All2_map _ fun p _ => ⟨rfl, hρ p.2⟩
   obtain ⟨r, k1, k2, k3⟩ := evBuild_sound hT h hp
   refine lift _ (.tmp 0) ⟨r, k1, k2, fun κ hκ => ?_⟩ rfl
   obtain ⟨p, hp, hk⟩ := k3 κ hκ
   obtain ⟨q, hq, rfl⟩ := List.mem_map.1 hp
   exact .inl ⟨q.2, by simp [Op.operands]; exact ⟨q.1, by simpa using hq⟩, hk⟩
 | makeFunc fn first captured =>
   cases fn with
   | func f =>
     simp only [evV0] at h
     split at h
     · rename_i hf
       obtain ⟨κs, hκs, rfl⟩ := Option.map_eq_some_iff.1 h
       have hr : All2 (RepA w R Pr) (captured.toList.map ρ) (captured.toList.map ev) := All2_map _ fun x _ => hρ x
       obtain ⟨h1, h2⟩ := ptrs_rep hκs hr
       have hfirst : first = #[] := by simpa using hf
       subst hfirst
       refine lift (Instr.makeFunc (.func f) ((#[] : Array Operand).map ev) (captured.map ev)) (.tmp 0) ⟨_, rfl, ?_, fun κ hκ => ?_⟩ rfl
       · show Value.func _ _ _ = Value.func _ _ _
         rw [← h1]
         have e : captured.map ev = (List.map ev captured.toList).toArray := Array.ext' (by simp)
         rw [e, Array.map_empty]
       · obtain ⟨x, hx, hk⟩ := h2 κ hκ
         obtain ⟨y, hy, rfl⟩ := List.mem_map.1 hx
         exact .inl ⟨y, by simp [Op.operands]; simpa using hy, hk⟩
     · cases h
   | _ => simp only [evV0] at h; cases h
 | call c =>
   obtain ⟨callee, args, argTypes⟩ := c
   cases callee with
   | builtin b =>
     cases b with
     | len =>
       simp only [evV0] at h
       split at h
       · rename_i x t e1 e2
         split at h
         · rename_i a i e3 hi
           have hx := hρ x
           rw [e3] at hx
           obtain rfl : args = #[x] := by apply Array.ext'; simpa using e1
           obtain rfl : argTypes = #[t] := by apply Array.ext'; simpa using e2
           have key : ((∃ e, i.d = .slice e) ∨ i.d = .str) → (i.d = .str ↔ ∃ s, a = .str s) → evLen ob a = some out → ∃ u, (execOp ev ⟨dst, .call ⟨.builtin .len, #[x], #[t]⟩, ty, pos, after, guard⟩).run P w = .ok (.value u) w ∧ RepA w R Pr out.v u ∧ ∀ κ ∈ out.v.refs, Seen ρ ob (Op.call ⟨.builtin .len, #[x], #[t]⟩).operands.toList out.acc κ := fun hd hs h => by
            obtain ⟨u, k1, k2, k3⟩ := evLen_sound hT hob (ty := ty) hi hd h hs hx
            exact ⟨u, by simp [execOp, resolve, invoke, builtin, k1], k2, fun κ hκ => by rw [k3] at hκ; cases hκ⟩
           split at h
           · rename_i g1 g3
             have g1' : i.d = .str := by revert g1; cases i.d <;> simp [isStrD]
             have g3' : ∃ s, a = .str s := by revert g3; cases a <;> simp [isStrC]
             exact key (.inr g1') ⟨fun _ => g3', fun _ => g1'⟩ h
           · rename_i g1 g2 g3
             have g1' : i.d ≠ .str := by revert g1; cases i.d <;> simp [isStrD]
             have g2' : ∃ e, i.d = .slice e := by revert g2; cases i.d <;> simp [isSlD]
             have g3' : ¬ ∃ s, a = .str s := by revert g3; cases a <;> simp [isStrC]
             exact key (.inl g2') ⟨fun h => (g1' h).elim, fun h => (g3' h).elim⟩ h
           · cases h
         · cases h
       · cases h
     | max =>
       simp only [evV0] at h
       split at h
       · rename_i k x r e
         obtain ⟨c, hc, rfl⟩ := Option.map_eq_some_iff.1 h
         have hr : All2 (RepA w R Pr) (args.toList.map ρ) (args.toList.map ev) := All2_map _ fun x _ => hρ x
         rw [e] at hr
         cases hl : args.toList.map ev with
         | nil => rw [hl] at hr; exact hr.elim
         | cons v vs =>
           rw [hl] at hr
           obtain ⟨u, k1, k2, k3⟩ := mxC_sound hT true r x vs c hc hr.2
           have hv : v = .int k x := hr.1
           refine ⟨u, ?_, k2, fun κ hκ => by change κ ∈ c.refs at hκ; rw [k3] at hκ; cases hκ⟩
           subst hv
           have e2 : (args.map ev).toList = .int k x :: vs := by rw [Array.toList_map]; exact hl
           simp [execOp, resolve, invoke, builtin, Builtin.max_, hl]
           simpa using congrArg (fun r => r.andThen fun a w' => Result.ok (Next.value a) w') k1
       · cases h
     | min =>
       simp only [evV0] at h
       split at h
       · rename_i k x r e
         obtain ⟨c, hc, rfl⟩ := Option.map_eq_some_iff.1 h
         have hr : All2 (RepA w R Pr) (args.toList.map ρ) (args.toList.map ev) := All2_map _ fun x _ => hρ x
         rw [e] at hr
         cases hl : args.toList.map ev with
         | nil => rw [hl] at hr; exact hr.elim
         | cons v vs =>
           rw [hl] at hr
           obtain ⟨u, k1, k2, k3⟩ := mxC_sound hT false r x vs c hc hr.2
           have hv : v = .int k x := hr.1
           refine ⟨u, ?_, k2, fun κ hκ => by change κ ∈ c.refs at hκ; rw [k3] at hκ; cases hκ⟩
           subst hv
           have e2 : (args.map ev).toList = .int k x :: vs := by rw [Array.toList_map]; exact hl
           simp [execOp, resolve, invoke, builtin, Builtin.min_, hl]
           simpa using congrArg (fun r => r.andThen fun a w' => Result.ok (Next.value a) w') k1
       · cases h
     | _ => simp only [evV0] at h; cases h
   | _ => simp only [evV0] at h; cases h
 | _ => simp only [evV0] at h; cases h
theorem arrL_sound {P : Program} {T : Tab} (hT : TabOK P T) {w : World} {R : Nat → RL} {Pr : Nat → Prop} {t : TypeId} {cs : List C} {off : Nat} {c : C} (h : arrL T t cs off = some c) {blk o : Nat} {cells : Array Value} {el : TypeId} {fr : Nat × Nat} {us : List Value}
 (hp : Pr blk) (hb : w.heap[blk]? = some (.cells cells el fr)) (ha : At cells o us) (hr : All2 (RepC w R Pr) cs us) : ∃ u, (Instr.sliceAt t (.pointer (some ⟨blk, o + off, none⟩)) none none none).run P w = .ok u w ∧ RepC w R Pr c u ∧ c.refs = [] := by
 unfold arrL at h
 split at h
 · rename_i i hi
   split at h
   · rename_i m e hd
     have har := tab_array hT hi hd
     split at h
     · rename_i ei hei
       split at h
       · rename_i k hk
         split at h
         · rename_i l hsz hl
           split at h
           · rename_i hlen
             cases h
             have hsz := Nat.eq_of_beq_eq_true hsz
             refine ⟨.slice (some ⟨blk, o + off, none⟩) m m, ?_, ⟨some ⟨blk, o + off, none⟩, m, by show [_] = [Value.slice _ (List.length l) m]; rw [hlen], by show List.length l ≤ m; omega, trivial, fun _ => ⟨blk, o + off, cells, el, fr, rfl, hp, hb, fun j y hj => ?_⟩⟩, rfl⟩
             · simp [Instr.sliceAt, Instr.sureAddr, Instr.sliceBounds, run_underlying har, tab_size hT hei, add_addr]
             · have hj : l[j]? = some y := hj
               have hjl : j < l.length := (List.getElem?_eq_some_iff.1 hj).1
               have hall : ∀ (q : Nat), q < m → ∃ c, ((cs.drop off).take m)[q]? = some c := fun q hq => by
                have hl2 : ∀ {cs : List C} {l : List Int}, intsC k cs = some l → cs.length = l.length := by
                 intro cs
                 induction cs with
                 | nil => intro l h; simp only [intsC] at h; cases h; rfl
                 | cons c0 r ih =>
                   intro l h
                   cases c0 with
                   | int k' n =>
                     simp only [intsC] at h
                     split at h
                     · obtain ⟨m, hm, rfl⟩ := Option.map_eq_some_iff.1 h
                       simp [ih hm]
                     · cases h
                   | _ => simp [intsC] at h
                have := hl2 hl
                exact ⟨_, List.getElem?_eq_getElem (by omega)⟩
               obtain ⟨c, hc⟩ := hall j (by omega)
               have e := intsC_at hl hc
               subst e
               rw [List.getElem?_take, if_pos (by omega), List.getElem?_drop] at hc
               obtain ⟨u, hu, hru⟩ := hr.get hc
               have hru : u = .int k (l.getD j 0) := hru
               refine ⟨[u], fun q v hv => ?_, ?_⟩
               · cases q with
                 | zero =>
                   simp only [List.getElem?_cons_zero, Option.some.injEq] at hv
                   subst hv
                   have := ha _ _ hu
                   rw [show o + off + j * (Ty.int k).n + 0 = o + (off + j) by show o + off + j * 1 + 0 = _; omega]
                   exact this
                 | succ q => simp at hv
               · show [u] = [Value.int k y]
                 rw [hru, List.getD_eq_getElem?_getD, hj]; rfl
           · cases h
         · cases h
       · cases h
     · cases h
   · cases h
 · cases h
theorem evM_sound {P : Program} {T : Tab} (hT : TabOK P T) {w : World} {R : Nat → RL} {Pr : Nat → Prop} {ob : Nat → Option Ob} (hob : ∀ κ o, ob κ = some o → RepOb w R Pr κ o)
 {ρ : Operand → AV} {ev : Operand → Value} (hρ : ∀ x, RepA w R Pr (ρ x) (ev x)) {o : Oper} {out : Out} (h : evM T ρ ob o.op = some out) (hh : Hold out.conds) :
 ∃ u, (execOp ev o).run P w = .ok (.value u) w ∧ RepA w R Pr out.v u ∧ ∀ κ ∈ out.v.refs, Seen ρ ob o.op.operands.toList out.acc κ := by
 obtain ⟨dst, op, ty, pos, after, guard⟩ := o
 simp only at h ⊢
 have lift : ∀ (s : Sem Value), (∃ u, s.run P w = .ok u w ∧ RepA w R Pr out.v u ∧ ∀ κ ∈ out.v.refs, Seen ρ ob op.operands.toList out.acc κ) →
  execOp ev ⟨dst, op, ty, pos, after, guard⟩ = (do pure (.value (← s))) → ∃ u, (execOp ev ⟨dst, op, ty, pos, after, guard⟩).run P w = .ok (.value u) w ∧ RepA w R Pr out.v u ∧ ∀ κ ∈ out.v.refs, Seen ρ ob op.operands.toList out.acc κ := fun s hs e => by
  obtain ⟨u, k1, k2, k3⟩ := hs
  refine ⟨u, ?_, k2, k3⟩
  rw [e]
  simp [k1]
 have noref : ∀ {v : AV} {q : Nat → Prop}, v.refs = [] → ∀ κ ∈ v.refs, q κ := fun hv κ hκ => by rw [hv] at hκ; cases hκ
 have hval : ∀ {V : Ty} {x : V.D} {v : Value}, RepE w Pr V x v → RepA w R Pr (.cp (valC V x)) v ∧ (AV.cp (valC V x)).refs = [] := fun hv => valC_rep hv
 have htup : ∀ {a b : Cp} {u v : Value}, RepCp w R Pr a u → RepCp w R Pr b v → RepA w R Pr (.tup [a, b]) (.tuple #[u, v]) := fun h1 h2 => ⟨_, rfl, h1, h2, trivial⟩
 have look : ∀ {t : TypeId} {m x : Operand} {ok : Bool} {K V : Ty} {y : V.D} {l : List (K.D × V.D)} {k : K.D} {blk : Nat} {es : Array MapEntry} {clock : Nat} {acc : List Nat}, op = .lookup t m x ok → mapB T t K V = some y → datOf K (ρ x) = some k → ev m = .map (some blk) → w.heap[blk]? = some (.map es clock) → RepMap w Pr K V l es clock →
  out = (match ok with
   | true => ⟨[], acc, .tup [valC V ((mgetB (kB K) l k).getD y), .one (.prop ((mgetB (kB K) l k).isSome = true) inferInstance)]⟩
   | false => ⟨[], acc, .cp (valC V ((mgetB (kB K) l k).getD y))⟩) →
  ∃ u, (execOp ev ⟨dst, op, ty, pos, after, guard⟩).run P w = .ok (.value u) w ∧ RepA w R Pr out.v u ∧ ∀ κ ∈ out.v.refs, Seen ρ ob op.operands.toList out.acc κ := by
  intro t m x ok K V y l k blk es clock acc hop hy hk hm hb hs hout
  subst hop
  obtain ⟨v, h1, h2, h3⟩ := run_lookup_map hT hy hb hs k (datOf_rep hk (hρ x))
  obtain ⟨g1, g2⟩ := hval h1
  cases ok with
  | false =>
    subst hout
    exact lift (Instr.lookup t (ev m) (ev x) false) ⟨v, by rw [hm]; exact h2, g1, noref g2⟩ rfl
  | true =>
    subst hout
    refine lift (Instr.lookup t (ev m) (ev x) true) ⟨_, by rw [hm]; exact h3, htup g1 (by show Value.bool _ = Value.bool _; rw [Bool.decide_eq_true]), noref ?_⟩ rfl
    show [valC V _, Cp.one _].flatMap Cp.refs = []
    rw [List.flatMap_cons, show (valC V _).refs = [] from g2]; rfl
 cases op with
 | index t x i =>
   simp only [evM] at h
   split at h
   · rename_i k n cs e1 e2
     have hx := hρ x
     have hi := hρ i
     rw [e2] at hx
     rw [e1] at hi
     have hi : ev i = .int k n := hi
     obtain ⟨vs, hx1, hx2⟩ := hx
     obtain ⟨u, k1, k2, k3⟩ := evIndexArr_sound hT (k := k) h hh hx2
     refine lift (Instr.index t (ev x) (ev i)) ⟨u, by rw [hi, hx1]; exact k1, k2, fun κ hκ => .inl ⟨x, by simp [Op.operands], ?_⟩⟩ rfl
     obtain ⟨c, hc, hk⟩ := k3 κ hκ
     rw [e2]; exact List.mem_flatMap.2 ⟨c, hc, hk⟩
   · cases h
 | slice t x lo hi mx =>
   cases lo with
   | some _ => cases hi <;> cases mx <;> simp only [evM] at h <;> cases h
   | none =>
     cases hi with
     | some _ => cases mx <;> simp only [evM] at h <;> cases h
     | none =>
       cases mx with
       | some _ => simp only [evM] at h; cases h
       | none =>
         simp only [evM] at h
         have hx := hρ x
         split at h
         · rename_i e y off e1
           rw [e1] at hx
           obtain ⟨c, hc, rfl⟩ := Option.map_eq_some_iff.1 h
           obtain ⟨blk, o, cells, el, fr, us, h1, h2, h3, h4, h5⟩ := hx
           obtain ⟨u, k1, k2, k3⟩ := arrL_sound hT hc h2 h3 h4 (cells_rep (R := R) h5)
           exact lift (Instr.sliceAt t (ev x) none none none) ⟨u, by rw [h1]; exact k1, k2, noref k3⟩ rfl
         · rename_i κ off e1
           rw [e1] at hx
           split at h
           · rename_i e y ho
             obtain ⟨c, hc, rfl⟩ := Option.map_eq_some_iff.1 h
             obtain ⟨h2, cells, el, fr, us, h3, h4, h5⟩ := hob κ _ ho
             obtain ⟨u, k1, k2, k3⟩ := arrL_sound hT hc h2 h3 h4 (cells_rep (R := R) h5)
             have hx : ev x = .pointer (some ⟨(R κ).blk, off, none⟩) := hx
             exact lift (Instr.sliceAt t (ev x) none none none) ⟨u, by rw [hx]; simpa using k1, k2, noref k3⟩ rfl
           · cases h
         · cases h
 | lookup t m x ok =>
   simp only [evM] at h
   have hm := hρ m
   split at h
   · rename_i κ e1
     rw [e1] at hm
     split at h
     · rename_i K V l it ho
       split at h
       · rename_i y k hy hk
         obtain ⟨es, clock, hb, hs1, hs2, hs3, _⟩ := hob κ _ ho
         exact look rfl hy hk hm hb ⟨hs1, hs2, hs3⟩ (acc := [κ]) (by cases ok <;> simpa using h.symm)
       · cases h
     · cases h
   · rename_i K V l e1
     rw [e1] at hm
     split at h
     · rename_i y k hy hk
       obtain ⟨v, blk, es, clock, h1, h2, h3, h4, h5, h6, h7⟩ := hm
       have hev : ev m = .map (some blk) := by
        have : [ev m] = [v] := h1
        rw [← h2]; simpa using this
       exact look rfl hy hk hev h4 ⟨h5, h6, h7⟩ (acc := []) (by cases ok <;> simpa using h.symm)
     · cases h
   · cases h
 | entry x =>
   simp only [evM] at h
   have hx := hρ x
   split at h
   · rename_i d e1
     rw [e1] at hx
     split at h
     · rename_i κ hd
       split at h
       · rename_i K V l d' L kv ho
         split at h
         · rename_i hdd
           have hdd := Nat.eq_of_beq_eq_true hdd
           subst hdd
           cases h
           obtain ⟨es, clock, hb, ⟨hs1, hs1'⟩, hs2, hs3, hit⟩ := hob κ _ ho
           obtain ⟨since, seen, g1, g2, g3, g4, g5⟩ := hit d' L (some kv) rfl
           obtain ⟨i, en, seen', q1, q2, rfl⟩ := g5 kv rfl
           have hx : ev x = .pointer (some ⟨(R d').blk, 0, none⟩) := hx
           have hrun := run_entry_at (P := P) w (R d').blk (R κ).blk since seen' es clock en g1 ?_ (List.mem_of_getElem? q2) hs1
           · obtain ⟨m1, m2⟩ := RepEnt.iff.1 (hs3 i kv en q1 q2)
             obtain ⟨a1, a2⟩ := valC_rep (R := R) m1
             obtain ⟨b1, b2⟩ := valC_rep (R := R) m2
             refine lift (Instr.entry (ev x)) ⟨_, by rw [hx]; exact hrun, htup a1 b1, noref ?_⟩ rfl
             show [valC K _, valC V _].flatMap Cp.refs = []
             simp [a2, b2]
           · exact hb
         · cases h
       · cases h
     · cases h
   · cases h
 | call c =>
   obtain ⟨callee, args, argTypes⟩ := c
   cases callee with
   | builtin b =>
     cases b with
     | len =>
       simp only [evM] at h
       split at h
       · rename_i x t e1 e2
         have hx := hρ x
         split at h
         · rename_i a i e3 hi
           split at h
           rotate_left
           · cases h
           rename_i hmd
           rw [e3] at hx
           obtain rfl : args = #[x] := by apply Array.ext'; simpa using e1
           obtain rfl : argTypes = #[t] := by apply Array.ext'; simpa using e2
           have hun : ∃ k v, P.underlying t = some (.map k v) := by
            obtain ⟨d, h1, h2⟩ := tab_under hT hi
            rw [h2] at hmd
            cases d <;> simp [tdOf, isMapD] at hmd
            exact ⟨_, _, h1⟩
           obtain ⟨kt, vt, hun⟩ := hun
           have key : ∀ {blk : Nat} {es : Array MapEntry} {clock n : Nat}, ev x = .map (some blk) → w.heap[blk]? = some (.map es clock) → es.size = n → (execOp ev ⟨dst, .call ⟨.builtin .len, #[x], #[t]⟩, ty, pos, after, guard⟩).run P w = .ok (.value (.int .i64 (n : Int))) w := fun hv hb hn => by
            subst hn
            simp [execOp, resolve, invoke, builtin, Builtin.len_, hv, run_underlying hun, get_map hb, goInt]
           unfold evLenM at h
           split at h
           · rename_i κ
             split at h
             · rename_i K V l it ho
               cases h
               obtain ⟨es, clock, hb, hs1, hs2, hs3, _⟩ := hob κ _ ho
               exact ⟨_, key hx hb (by simpa using hs2), rfl, fun κ hκ => by cases hκ⟩
             · cases h
           · rename_i K V l
             cases h
             obtain ⟨v, blk, es, clock, h1, h2, h3, h4, h5, h6, h7⟩ := hx
             have hev : ev x = .map (some blk) := by
              have : [ev x] = [v] := h1
              rw [← h2]; simpa using this
             exact ⟨_, key hev h4 (by simpa using h6), rfl, fun κ hκ => by cases hκ⟩
           · cases h
         · cases h
       · cases h
     | _ => simp only [evM] at h; cases h
   | _ => simp only [evM] at h; cases h
 | _ => simp only [evM] at h; cases h
theorem evV_sound {P : Program} {T : Tab} (hT : TabOK P T) {w : World} {R : Nat → RL} {Pr : Nat → Prop} {ob : Nat → Option Ob} (hob : ∀ κ o, ob κ = some o → RepOb w R Pr κ o)
 {ρ : Operand → AV} {ev : Operand → Value} (hρ : ∀ x, RepA w R Pr (ρ x) (ev x)) {o : Oper} {out : Out} (h : evV T ρ ob o.op = some out) (hh : Hold out.conds) :
 ∃ u, (execOp ev o).run P w = .ok (.value u) w ∧ RepA w R Pr out.v u ∧ ∀ κ ∈ out.v.refs, Seen ρ ob o.op.operands.toList out.acc κ := by
 unfold evV at h
 split at h
 · rename_i o' ho
   cases h
   exact evV0_sound hT hob hρ ho hh
 · exact evM_sound hT hob hρ h hh
end Go.Rx
