/- Reflection, part P: one operation: what it asks, what it touches, what it does. -/
import Derived.Test.YtollcjadobpfdaaRxO
namespace Go.Rx
set_option linter.unusedVariables false
set_option linter.unusedSimpArgs false
set_option linter.unusedSectionVars false
structure Foot where
 acc : List Nat
 upd : List Nat
 glob : Bool
 kl : Option Nat
 rs : List Nat
 vr : List Nat
 os : List Nat
 ur : List Nat
abbrev ft (acc upd : List Nat) (glob : Bool) : Foot := ⟨acc, upd, glob, none, [], [], [], []⟩
def condsK {α : Type} : List DP → Option α → Option α
 | [], r => r
 | x :: l, r => @ite _ x.p x.d (condsK l r) none
theorem condsK_some {α : Type} : ∀ {l : List DP} {r : Option α} {y : α}, condsK l r = some y → Hold l ∧ r = some y
 | [], _, _, h => ⟨(fun _ hx => (by cases hx)), h⟩
 | x :: l, r, y, h => by
   simp only [condsK] at h
   by_cases hp : x.p
   · rw [if_pos hp] at h
     obtain ⟨h1, h2⟩ := condsK_some h
     exact ⟨fun z hz => by rcases List.mem_cons.1 hz with rfl | hz; exact hp; exact h1 z hz, h2⟩
   · rw [if_neg hp] at h; cases h
def litK {α : Type} (lit : Bool) (v : AV) (K : AV → Option α) : Option α :=
 match lit, v with
 | true, .cp (.one (.prop p d)) => @ite _ p d (K (oneA (.lit true))) (K (oneA (.lit false)))
 | _, v => K v
def LitV (v v' : AV) : Prop := v' = v ∨ ∃ (p : Prop) (d : Decidable p) (b : Bool), v = oneA (.prop p d) ∧ v' = oneA (.lit b) ∧ b = @decide p d
theorem litK_some {α : Type} {lit : Bool} {v : AV} {K : AV → Option α} {y : α} (h : litK lit v K = some y) : ∃ v', LitV v v' ∧ K v' = some y := by
 unfold litK at h
 split at h
 · rename_i p d
   by_cases hp : p
   · rw [if_pos hp] at h; exact ⟨_, .inr ⟨p, d, true, rfl, rfl, by simp [hp]⟩, h⟩
   · rw [if_neg hp] at h; exact ⟨_, .inr ⟨p, d, false, rfl, rfl, by simp [hp]⟩, h⟩
 · exact ⟨v, .inl rfl, h⟩
theorem LitV.rep {w : World} {R : Nat → RL} {Pr : Nat → Prop} {v v' : AV} {u : Value} (h : LitV v v') (hr : RepA w R Pr v u) : RepA w R Pr v' u := by
 rcases h with rfl | ⟨p, d, b, rfl, rfl, rfl⟩
 · exact hr
 · exact hr
theorem LitV.refs {v v' : AV} (h : LitV v v') {κ : Nat} (hk : κ ∈ v'.refs) : κ ∈ v.refs := by
 rcases h with rfl | ⟨p, d, b, rfl, rfl, rfl⟩
 · exact hk
 · cases hk
section
variable (T : Tab) (Y : Tys) (E : Env)
def frzKeys (σ : St) : Op → List Nat
 | .store _ _ x => (σ.ρ x).refs
 | .buildSlice _ _ parts => parts.toList.flatMap fun p => (σ.ρ p.2).refs
 | _ => []
def liftV (σ : St) : Op → Option (DP × St)
 | .store _ _ (.tmp s) => match σ.get s with
   | .cp (.one (.val false e l)) => some (⟨List.isEmpty (slL false l) = false, inferInstance⟩, σ.put (some s) (.cp (.one (.val true e (slM true (slL false l))))))
   | _ => none
 | _ => none
def calleeOf : AV → Option (FuncId × List AV)
 | .cp (.one (.fn f κs)) => some (f, κs.map fun κ => oneA (.ptr κ 0))
 | .cp (.one (.dat (.clo f e) x)) => some (f, (e.cells x).map oneA)
 | _ => none
def callOf (σ : St) : Op → Option (FuncId × Con × List AV)
 | .call c => match c.callee with
   | .value x => match calleeOf (σ.ρ x) with
     | some (f, caps) => match E.get f with
       | some con => some (f, con, c.args.toList.map σ.ρ ++ caps)
       | none => none
     | _ => none
   | _ => none
 | _ => none
def headK : List LO → List AV → Option (Nat × List AV)
 | .box _ :: _, .cp (.one (.ptr κ 0)) :: r => some (κ, r)
 | .row _ :: _, .cp (.one (.own κ)) :: r => some (κ, r)
 | .rows _ :: _, .cp (.one (.own κ)) :: r => some (κ, r)
 | .map _ _ :: _, .cp (.one (.mp κ)) :: r => some (κ, r)
 | _, _ => none
def callOfB (σ : St) : Op → Option (FuncId × BCon × Nat × List AV)
 | .call c => match c.callee with
   | .value x => match calleeOf (σ.ρ x) with
     | some (f, caps) => match E.getB f with
       | some con => match headK con.ls ((c.args.toList.map σ.ρ ++ caps).drop con.pos) with
         | some (κ, r) => some (f, con, κ, (c.args.toList.map σ.ρ ++ caps).take con.pos ++ r)
         | none => none
       | none => none
     | _ => none
   | _ => none
 | _ => none
def updKeys : Option (Nat × Ob) → List Nat
 | some (κ, _) => [κ]
 | none => []
def St.eff1 (σ : St) (e : Eff) : St :=
 let σ1 := match e.kill with
  | some κ => σ.kill κ
  | none => σ
 match e.upd with
  | some (κ, o) => σ1.setOb κ (some o)
  | none => σ1
def noBox (σ : St) (κ : Nat) : Bool := σ.objs.all fun o => match o with
 | some o => !o.refs.contains κ
 | none => true
def slotsWith (σ : St) (κ : Nat) : List Nat := (List.range σ.tmps.length).filter fun t => (σ.get t).refs.contains κ
def St.killK (σ : St) : Option Nat → St
 | some κ => σ.kill κ
 | none => σ
def Free (σ : St) (kl : Option Nat) (S : List Nat) : Prop := ∀ κ, kl = some κ → (∀ t, t ∉ S → κ ∉ (σ.get t).refs) ∧ noBox σ κ = true
def effFoot (σ : St) (e : Eff) : Foot := match e.kill with
 | none => ft e.acc (updKeys e.upd) false
 | some κ => ⟨e.acc, updKeys e.upd, !noBox σ κ, some κ, slotsWith σ κ, [], [], []⟩
def rowOp (σ : St) (dst : Option Nat) : Op → Option (List DP × St × AV)
 | .load t p => match σ.ρ p, dst, T.get t with
   | .cp (.one (.vptr κ sz j off)), some d, some i => match i.d, σ.ob κ, σ.ob d, okK d σ.objs.length && sz.beq 1 && off.beq 0 with
     | .slice _, some (.rows e ll none), none, true => some ([], (σ.setOb κ (some (.rows e ll (some j)))).setOb d (some (.vec e (ll.getD j []))), oneA (.own d))
     | _, _, _, _ => none
   | _, _, _ => none
 | .store t p x => match σ.ρ p, σ.ρ x, T.get t with
   | .cp (.one (.vptr κ sz j off)), .cp (.one (.own d)), some i => match i.size.beq 1 && sz.beq 1 && off.beq 0, σ.ob κ, σ.ob d with
     | true, some (.rows e ll (some j')), some (.vec e' l) => match Ty.dec e' e with
       | isTrue h => some ([⟨j' = j, inferInstance⟩], (σ.gone d).setOb κ (some (.rows e (ll.set j (h ▸ l)) none)), anyA)
       | isFalse _ => none
     | _, _, _ => none
   | _, _, _ => none
 | .range t x => match dst, σ.ρ x with
   | some d, .cp (.one (.mp κ)) => match σ.ob κ, σ.ob d, okK d σ.objs.length with
     | some (.map K V l _), none, true => match mapB T t K V with
       | some _ => some ([], (σ.setOb d (some (.tok κ))).setOb κ (some (.map K V l (some (d, l, none)))), oneA (.ptr d 0))
       | none => none
     | _, _, _ => none
   | _, _ => none
 | _ => none
def rowFoot (σ : St) (dst : Option Nat) : Op → Foot
 | .load t p => match σ.ρ p, dst with
   | .cp (.one (.vptr κ sz j off)), some d => ft [κ, d] [κ, d] false
   | _, _ => ft [] [] true
 | _ => ft [] [] true
def preK {α : Type} (o : Oper) (σ : St) (K : St → AV → Foot → Option α) : Option α :=
 match evX T Y σ.ρ σ.ob σ.objs.length o.dst o.op with
 | some e => condsK e.conds (K (σ.eff1 e) e.v (effFoot σ e))
 | none => match evV T σ.ρ σ.ob o.op with
   | some out => condsK out.conds (K σ out.v (ft out.acc [] false))
   | none => match callOf E σ o.op with
     | some (f, con, args) => match callPre σ con args with
       | some (acc, σ1, xs) => (con.fn xs).bind fun r => match callPost σ1 o.dst con.rs r with
         | some (σ2, v, ns) => K σ2 v (ft (acc ++ ns.map (·.1)) (ns.map (·.1)) (!(acc.isEmpty || con.rs.all RT.solid)))
         | none => none
       | none => none
     | none => match callOfB E σ o.op with
      | some (f, con, κ, args) => match callPreB σ con κ args with
       | some (acc, ks, x, xs) => (con.fn x xs).bind fun q => match callPostB (frzs acc σ) o.dst κ ks con.pin con.ls con.rs q.1 q.2 with
         | some (σ2, v, ns) => K σ2 v (ft (κ :: (ks ++ (acc ++ ns.map (·.1)))) (κ :: (ks ++ ns.map (·.1))) (!(acc.isEmpty && con.pin)))
         | none => none
       | none => none
      | none => match rowOp T σ o.dst o.op with
       | some (cs, σ2, v) => condsK cs (K σ2 v (rowFoot σ o.dst o.op))
       | none => match frzKeys σ o.op with
        | [] => match liftV σ o.op with
          | some (c, σ2) => match evX T Y σ2.ρ σ2.ob σ2.objs.length o.dst o.op with
            | some e => condsK (c :: e.conds) (K (σ2.eff1 e) e.v (ft [] [] true))
            | none => none
          | none => none
        | κ :: κs => match evX T Y (frzs (κ :: κs) σ).ρ (frzs (κ :: κs) σ).ob (frzs (κ :: κs) σ).objs.length o.dst o.op with
          | some e => condsK e.conds (K ((frzs (κ :: κs) σ).eff1 e) e.v (ft [] [] true))
          | none => match liftV (frzs (κ :: κs) σ) o.op with
            | some (c, σ2) => match evX T Y σ2.ρ σ2.ob σ2.objs.length o.dst o.op with
              | some e => condsK (c :: e.conds) (K (σ2.eff1 e) e.v (ft [] [] true))
              | none => none
            | none => none
inductive Pre (o : Oper) (σ : St) : St → AV → Foot → Prop where
 | val (out : Out) (h : evV T σ.ρ σ.ob o.op = some out) (hh : Hold out.conds) : Pre o σ σ out.v (ft out.acc [] false)
 | eff (e : Eff) (h : evX T Y σ.ρ σ.ob σ.objs.length o.dst o.op = some e) (hh : Hold e.conds) (g : Bool) (S : List Nat) (hg : g = false → Free σ e.kill S) : Pre o σ (σ.eff1 e) e.v ⟨e.acc, updKeys e.upd, g, e.kill, S, [], [], []⟩
 | call (f : FuncId) (con : Con) (args : List AV) (acc : List Nat) (σ1 σ2 : St) (xs : DL con.sig) (r : RDL con.rs) (v : AV) (ns : List (Nat × Ob)) (h : callOf E σ o.op = some (f, con, args)) (hpre : callPre σ con args = some (acc, σ1, xs)) (hfn : con.fn xs = some r)
    (hpost : callPost σ1 o.dst con.rs r = some (σ2, v, ns)) : Pre o σ σ2 v (ft (acc ++ ns.map (·.1)) (ns.map (·.1)) (!(acc.isEmpty || con.rs.all RT.solid)))
 | callb (f : FuncId) (con : BCon) (κ : Nat) (args : List AV) (acc ks : List Nat) (σ2 : St) (x : LOD con.ls) (xs : DL con.sig) (y : LOD con.ls) (r : RDL con.rs) (v : AV) (ns : List (Nat × Ob)) (h : callOfB E σ o.op = some (f, con, κ, args)) (hpre : callPreB σ con κ args = some (acc, ks, x, xs)) (hfn : con.fn x xs = some (y, r))
    (hpost : callPostB (frzs acc σ) o.dst κ ks con.pin con.ls con.rs y r = some (σ2, v, ns)) : Pre o σ σ2 v (ft (κ :: (ks ++ (acc ++ ns.map (·.1)))) (κ :: (ks ++ ns.map (·.1))) (!(acc.isEmpty && con.pin)))
 | frz (κs : List Nat) (e : Eff) (h : evX T Y (frzs κs σ).ρ (frzs κs σ).ob (frzs κs σ).objs.length o.dst o.op = some e) (hh : Hold e.conds) : Pre o σ ((frzs κs σ).eff1 e) e.v (ft [] [] true)
 | lift (κs : List Nat) (c : DP) (σ2 : St) (hl : liftV (frzs κs σ) o.op = some (c, σ2)) (hc : c.p) (e : Eff) (h : evX T Y σ2.ρ σ2.ob σ2.objs.length o.dst o.op = some e) (hh : Hold e.conds) : Pre o σ (σ2.eff1 e) e.v (ft [] [] true)
 | row (cs : List DP) (σ2 : St) (v : AV) (h : rowOp T σ o.dst o.op = some (cs, σ2, v)) (hh : Hold cs) : Pre o σ σ2 v (rowFoot σ o.dst o.op)
theorem slots_free {σ : St} {κ : Nat} : ∀ t, t ∉ slotsWith σ κ → κ ∉ (σ.get t).refs := fun t ht hk => ht (by
 unfold slotsWith
 refine List.mem_filter.2 ⟨?_, by simpa using hk⟩
 rcases Nat.lt_or_ge t σ.tmps.length with g | g
 · exact List.mem_range.2 g
 · unfold St.get at hk
   rw [List.getD_eq_getElem?_getD, List.getElem?_eq_none g] at hk
   simp [AV.refs, Cp.refs, C.refs] at hk)
theorem effPre {o : Oper} {σ : St} {e : Eff} (h : evX T Y σ.ρ σ.ob σ.objs.length o.dst o.op = some e) (hh : Hold e.conds) : Pre T Y E o σ (σ.eff1 e) e.v (effFoot σ e) := by
 cases hk : e.kill with
 | none =>
   have := Pre.eff (T := T) (Y := Y) (E := E) e h hh false [] (fun _ κ hκ => by rw [hk] at hκ; cases hκ)
   unfold effFoot
   rw [hk] at this ⊢
   exact this
 | some κ =>
   have := Pre.eff (T := T) (Y := Y) (E := E) e h hh (!noBox σ κ) (slotsWith σ κ) (fun hg κ' hκ => by
    rw [hk] at hκ; cases hκ
    exact ⟨slots_free, by simpa using hg⟩)
   unfold effFoot
   rw [hk] at this ⊢
   exact this
theorem preK_some {α : Type} {o : Oper} {σ : St} {K : St → AV → Foot → Option α} {y : α} (h : preK T Y E o σ K = some y) : ∃ σ1 v F, Pre T Y E o σ σ1 v F ∧ K σ1 v F = some y := by
 unfold preK at h
 split at h
 · rename_i e he
   obtain ⟨h1, h2⟩ := condsK_some h
   exact ⟨_, _, _, effPre T Y E he h1, h2⟩
 · split at h
   · rename_i out ho
     obtain ⟨h1, h2⟩ := condsK_some h
     exact ⟨_, _, _, .val out ho h1, h2⟩
   · split at h
     · rename_i f con args hc
       split at h
       · rename_i acc σ1 xs hp
         obtain ⟨r, hr, h⟩ := Option.bind_eq_some_iff.1 h
         split at h
         · rename_i σ2 v ns hq
           exact ⟨_, _, _, .call f con args acc σ1 σ2 xs r v ns hc hp hr hq, h⟩
         · cases h
       · cases h
     · have lft : ∀ κs, (match liftV (frzs κs σ) o.op with
        | some (c, σ2) => match evX T Y σ2.ρ σ2.ob σ2.objs.length o.dst o.op with
          | some e => condsK (c :: e.conds) (K (σ2.eff1 e) e.v (ft [] [] true))
          | none => none
        | none => none) = some y → ∃ σ1 v F, Pre T Y E o σ σ1 v F ∧ K σ1 v F = some y := fun κs h => by
        split at h
        · rename_i c σ2 hl
          split at h
          · rename_i e he
            obtain ⟨h1, h2⟩ := condsK_some h
            exact ⟨_, _, _, .lift κs c σ2 hl (h1 c (by simp)) e he (fun z hz => h1 z (by simp [hz])), h2⟩
          · cases h
        · cases h
       split at h
       · rename_i f con κ args hc
         split at h
         · rename_i acc ks x xs hp
           obtain ⟨⟨y', r⟩, hr, h⟩ := Option.bind_eq_some_iff.1 h
           split at h
           · rename_i σ2 v ns hq
             exact ⟨_, _, _, .callb f con κ args acc ks σ2 x xs y' r v ns hc hp hr hq, h⟩
           · cases h
         · cases h
       · split at h
         · rename_i cs σ2 v hr
           obtain ⟨h1, h2⟩ := condsK_some h
           exact ⟨_, _, _, .row cs σ2 v hr h1, h2⟩
         · split at h
           · exact lft [] h
           · rename_i κ κs _
             split at h
             · rename_i e he
               obtain ⟨h1, h2⟩ := condsK_some h
               exact ⟨_, _, _, .frz (κ :: κs) e he h1, h2⟩
             · exact lft (κ :: κs) h
end
def Ent (P : Program) (f : FuncId) : Prop := ∀ (args : Array Value) (w : World), (callFunc f args).run P w = .ok (.enter f args) w
def EnvE (P : Program) : Env → Prop
 | [] => True
 | (f, _) :: r => Ent P f ∧ EnvE P r
theorem EnvE.get {P : Program} : ∀ {E : Env} {f : FuncId} {c : Con}, EnvE P E → E.get f = some c → Ent P f
 | [], _, _, _, h => by cases h
 | (g, .c d) :: r, f, c, h, hg => by
   simp only [Env.get] at hg
   split at hg
   · rename_i e; subst e; exact h.1
   · exact EnvE.get h.2 hg
 | (g, .b d) :: r, f, c, h, hg => EnvE.get (E := r) h.2 hg
theorem EnvE.getB {P : Program} : ∀ {E : Env} {f : FuncId} {c : BCon}, EnvE P E → E.getB f = some c → Ent P f
 | [], _, _, _, h => by cases h
 | (g, .b d) :: r, f, c, h, hg => by
   simp only [Env.getB] at hg
   split at hg
   · rename_i e; subst e; exact h.1
   · exact EnvE.getB h.2 hg
 | (g, .c d) :: r, f, c, h, hg => EnvE.getB (E := r) h.2 hg
section
variable {w0 : World} {Fz Pr0 : Nat → Prop} {Lo : Nat → RL} {R : Nat → RL} {Pr : Nat → Prop} {σ : St} {a : Act} {w : World}
variable {P : Program} {T : Tab} {Y : Tys} {E : Env}
theorem lift_inv (h : Inv w0 Fz Pr0 Lo R Pr σ a w) {op : Op} {c : DP} {σ2 : St} (hl : liftV σ op = some (c, σ2)) (hc : c.p) : Inv w0 Fz Pr0 Lo R Pr σ2 a w := by
 unfold liftV at hl
 split at hl
 · rename_i t p s
   split at hl
   · rename_i e l hg
     cases hl
     have hv := h.tm s
     rw [hg] at hv
     have hv0 : RepC w R Pr (.val false e l) (a.tmps.getD s undef) := hv
     obtain ⟨A, cap, k1, k2, _, k4⟩ := hv0
     have hne : slL false l ≠ [] := fun e => by simp [e] at hc
     have hA : A ≠ none := by
      obtain ⟨blk, off, cells, el, fr, h1, _⟩ := k4 hne
      rw [h1]; simp
     have hi := h.put (some s) (.cp (.one (.val true e (slM true (slL false l))))) (a.tmps.getD s undef) ⟨A, cap, k1, k2, hA, k4⟩ (fun κ hκ => by cases hκ)
     have ha : a.put (some s) (a.tmps.getD s undef) = a := by
      have ht : s < a.tmps.size := by
       rcases Nat.lt_or_ge s a.tmps.size with g | g
       · exact g
       · have k1' : a.tmps.getD s undef = .slice A (slL false l).length cap := by simpa using k1
         rw [Array.getD_eq_getD_getElem?, Array.getElem?_eq_none g] at k1'; simp [undef] at k1'
      cases a with
      | mk tm df =>
        simp only [Act.put]
        congr 1
        have ht' : s < tm.size := ht
        apply Array.ext
        · simp
        · intro i h1 h2
          rw [Array.getElem_setIfInBounds]
          split
          · rename_i e; subst e; simp [Array.getD, ht']
          · rfl
     rw [ha] at hi
     exact hi
   · cases hl
 · cases hl
theorem eff_sound (hT : TabOK P T) (hFz : ∀ b, b < w0.heap.size → Fz b ∨ Pr0 b) (h : Inv w0 Fz Pr0 Lo R Pr σ a w) {o : Oper} {e : Eff} {v' : AV} (he : evX T Y σ.ρ σ.ob σ.objs.length o.dst o.op = some e) (hh : Hold e.conds) (hv : LitV e.v v') {next : Act → World → Prop} {Q : Exit → Act → World → Prop}
 (hn : ∀ u R' Pr' w', Inv w0 Fz Pr0 Lo R' Pr' ((σ.eff1 e).put o.dst v') (a.put o.dst u) w' → next (a.put o.dst u) w') : o.wp P a w next Q := by
 obtain ⟨n, u, w', R', Pr', k1, k2, k3⟩ := evX_sound hT hFz h he hh
 have hsplit : Inv w0 Fz Pr0 Lo R' Pr' ((σ.eff1 e).put o.dst v') (a.put o.dst u) w' := by
  have e1 : σ.eff o.dst e = (σ.eff1 e).put o.dst e.v := rfl
  rw [e1] at k3
  rcases hv with rfl | ⟨p, d, b, hv1, hv2, hv3⟩
  · exact k3
  ·
   cases hd : o.dst with
   | none => rw [hd] at k3; exact k3
   | some d1 =>
     rw [hd] at k3
     have e2 : (σ.eff1 e).put (some d1) v' = ((σ.eff1 e).put (some d1) e.v).put (some d1) v' := by
      simp [St.put, List.set_set]
     have e3 : a.put (some d1) u = (a.put (some d1) u).put (some d1) u := by
      simp [Act.put]
     rw [e2, e3]
     by_cases hlt : @LT.lt Nat _ d1 (σ.eff1 e).tmps.length
     · refine k3.put (some d1) v' u ?_ (fun κ hκ => by rw [hv2] at hκ; cases hκ)
       have := k3.tm d1
       rw [St.get_put, if_pos ⟨rfl, hlt⟩, Act.getD_put] at this
       have hsz := k3.sz
       have hsz' : @LT.lt Nat _ d1 a.tmps.size := by
        simp only [St.put, Act.put, List.length_set, Array.size_setIfInBounds] at hsz; omega
       rw [if_pos ⟨rfl, hsz'⟩] at this
       exact LitV.rep (.inr ⟨p, d, b, hv1, hv2, hv3⟩) this
     · have e4 : ((σ.eff1 e).put (some d1) e.v).put (some d1) v' = (σ.eff1 e).put (some d1) e.v := by
        simp only [St.put, List.set_set]
        rw [List.set_eq_of_length_le (by omega), List.set_eq_of_length_le (by omega)]
       rw [e4, ← e3]; exact k3
 unfold Oper.wp
 rw [k1]
 rcases k2 with rfl | ⟨rfl, rfl⟩
 · exact hn u R' Pr' w' hsplit
 · exact hn undef R' Pr' w' hsplit
theorem calleeOf_rep {w : World} {R : Nat → RL} {Pr : Nat → Prop} {v : AV} {f : FuncId} {caps : List AV} {u : Value} (h : calleeOf v = some (f, caps)) (hr : RepA w R Pr v u) : ∃ ps : List Value, u = .func (.func f) #[] ps.toArray ∧ All2 (RepA w R Pr) caps ps := by
 unfold calleeOf at h
 split at h
 · rename_i g κs
   cases h
   exact ⟨_, hr, All2_map _ fun κ _ => rfl⟩
 · rename_i g e x
   cases h
   obtain ⟨v', ps, h1, h2, h3⟩ := hr
   have h1 : u = v' := by simpa using h1
   refine ⟨ps, h1.trans h2, ?_⟩
   exact (cells_rep (R := R) h3).map_left fun c _ b hb => hb
 · cases h
theorem leftL_nil {α : Type} : ∀ (es : List MapEntry) (l : List α), es.length = l.length → leftL es l #[] = l
 | [], [], _ => rfl
 | e :: es, x :: l, h => by
   have e0 : (#[] : Array Nat).contains e.born = false := by simp
   rw [leftL, e0, leftL_nil es l (by simpa using h)]
 | [], _ :: _, h => by simp at h
 | _ :: _, [], h => by simp at h
theorem headK_rep {w : World} {R : Nat → RL} {Pr : Nat → Prop} {ls : List LO} {l rest : List AV} {us : List Value} {κ : Nat} (h : headK ls l = some (κ, rest)) (hr : All2 (RepA w R Pr) l us) : ∃ u0 us1, us = u0 :: us1 ∧ u0 = headV R κ ls ∧ All2 (RepA w R Pr) rest us1 := by
 unfold headK at h
 split at h
 · cases h
   cases us with
   | nil => exact hr.elim
   | cons u us => exact ⟨u, us, rfl, hr.1, hr.2⟩
 · cases h
   cases us with
   | nil => exact hr.elim
   | cons u us => exact ⟨u, us, rfl, hr.1, hr.2⟩
 · cases h
   cases us with
   | nil => exact hr.elim
   | cons u us => exact ⟨u, us, rfl, hr.1, hr.2⟩
 · cases h
   cases us with
   | nil => exact hr.elim
   | cons u us => exact ⟨u, us, rfl, hr.1, hr.2⟩
 · cases h
theorem row_sound (hT : TabOK P T) (h : Inv w0 Fz Pr0 Lo R Pr σ a w) {o : Oper} {cs : List DP} {σ2 : St} {v v' : AV} (he : rowOp T σ o.dst o.op = some (cs, σ2, v)) (hh : Hold cs) (hv : LitV v v') {next : Act → World → Prop} {Q : Exit → Act → World → Prop}
 (hn : ∀ u R' Pr' w', Inv w0 Fz Pr0 Lo R' Pr' (σ2.put o.dst v') (a.put o.dst u) w' → next (a.put o.dst u) w') : o.wp P a w next Q := by
 obtain ⟨dst, op, ty, pos, after, guard⟩ := o
 simp only at he hn ⊢
 cases op with
 | load t p =>
   simp only [rowOp] at he
   split at he
   · rename_i κ sz j off d i hp hi
     split at he
     · rename_i el0 e ll hd ho hod hc
       cases he
       simp only [Bool.and_eq_true] at hc
       have hsz := Nat.eq_of_beq_eq_true hc.1.2
       have hoff := Nat.eq_of_beq_eq_true hc.2
       subst hsz hoff
       have hpv := h.opd p
       rw [hp] at hpv
       obtain ⟨hj, o1, n1, c1, q1, q2⟩ := hpv
       have hlen := (h.ob κ _ ho).1
       rw [hlen] at hj
       obtain ⟨loc, o2, n2, c2, cells, el, r1, r2, r3, hi2⟩ := h.takeRow ho hj hod hc.1.1
       rw [r1] at q1
       cases q1
       have hv1 : v' = oneA (.own d) := by
        rcases hv with e | ⟨_, _, _, e, _⟩
        · exact e
        · cases e
       obtain ⟨u, k1, k2, _⟩ := load_at (P := P) (R := fun κ' => if κ' = d then loc else R κ') (Pr := Pr) (o := o1 + j) (off := 0) (us := [loc.hdr]) (cs := [.own d]) (x := .one (.own d)) hT hi r2 (fun c u hu => by
        cases c with
        | zero => simp only [List.getElem?_cons_zero] at hu; cases hu; exact r3
        | succ c => simp at hu) ⟨by show _ = _; simp, trivial⟩ (by unfold subC; rw [hd]; rfl)
       have hu : a.eval p = .pointer (some ⟨(R κ).blk, o1 + j + 0, none⟩) := by rw [q2]; simp
       rw [← hu] at k1
       unfold Oper.wp
       have hrun : (execOp a.eval ⟨some d, .load t p, ty, pos, after, guard⟩).run P w = .ok (.value u) w := by
        simp [execOp, k1]
       rw [hrun]
       refine hn u _ Pr w (hi2.put (some d) v' u (by rw [hv1]; exact k2) (fun κ1 hκ1 => ?_))
       rw [hv1] at hκ1
       have : κ1 = d := by simpa [AV.refs, Cp.refs, C.refs] using hκ1
       subst this
       rw [St.ob_setOb, if_pos ⟨rfl, by have := okK_lt hc.1.1; simpa [St.setOb] using this⟩]
       simp
     · cases he
   · cases he
 | store t p x =>
   simp only [rowOp] at he
   split at he
   · rename_i κ sz j off d i hp hx hi
     split at he
     · rename_i e ll j' e' l hc ho hod
       revert he
       generalize Ty.dec e' e = dc
       intro he
       cases dc with
       | isFalse _ => cases he
       | isTrue hee =>
         subst hee
         cases he
         have hjj : j' = j := hh ⟨j' = j, inferInstance⟩ (by simp)
         subst hjj
         simp only [Bool.and_eq_true] at hc
         have his := Nat.eq_of_beq_eq_true hc.1.1
         have hsz := Nat.eq_of_beq_eq_true hc.1.2
         have hoff := Nat.eq_of_beq_eq_true hc.2
         subst hsz hoff
         have hpv := h.opd p
         rw [hp] at hpv
         have hxv := h.opd x
         rw [hx] at hxv
         have hxv : a.eval x = (R d).hdr := hxv
         obtain ⟨hj, o1, n1, c1, q1, q2⟩ := hpv
         obtain ⟨hlen, o2, c2, cells, el, r1, r2, r3, r4, _⟩ := h.ob κ _ ho
         rw [hlen] at hj
         rw [r1] at q1
         cases q1
         have hle : o1 + j' + 1 ≤ cells.size := by omega
         obtain ⟨g1, g2⟩ := storeVar_at (P := P) (R := R) (Pr := Pr) hT hi r3 (o := o1 + j') (v := (R d).hdr) (xs := [.own d]) (x := .one (.own d)) rfl (by show _ = _; rfl) (by simp [his]) (by omega) (by simp)
         have hcells : (R d).hdr.cells = #[(R d).hdr] := rfl
         rw [hcells] at g1
         generalize hcur : (cells.toList.take (o1 + j') ++ (#[(R d).hdr] : Array Value).toList ++ cells.toList.drop (o1 + j' + (#[(R d).hdr] : Array Value).toList.length)).toArray = cur at g1
         have hi2 := h.giveRow ho hj hod r1 r3 (cur := cur) (fun q => by
          rw [← hcur]
          simp only [List.getElem?_toArray]
          by_cases q1 : q < o1 + j'
          · rw [if_neg (by omega), List.append_assoc, List.getElem?_append_left (by simp; omega), List.getElem?_take, if_pos q1]; simp
          · have htl : (cells.toList.take (o1 + j')).length = o1 + j' := by simp; omega
            by_cases q2 : q = o1 + j'
            · subst q2
              rw [if_pos rfl, List.append_assoc, List.getElem?_append_right (by omega), htl]
              simp
            · rw [if_neg q2, List.getElem?_append_right (by simp only [List.length_append, htl]; simp; omega), List.getElem?_drop]
              simp only [List.length_append, htl]
              simp only [List.length_cons, List.length_nil]
              rw [show o1 + j' + (0 + 1) + (q - (o1 + j' + (0 + 1))) = q by omega]
              simp) (by rw [← hcur]; simp; omega)
         have hv1 : v' = anyA := by
          rcases hv with e | ⟨_, _, _, e, _⟩
          · exact e
          · cases e
         have hrun : (execOp a.eval ⟨dst, .store t p x, ty, pos, after, guard⟩).run P w = .ok .skip (w.setRow (R κ).blk cur) := by
          have e1 : a.eval p = .pointer (some ⟨(R κ).blk, o1 + j', none⟩) := by rw [q2]; simp
          simp [execOp, e1, hxv, g1]
         unfold Oper.wp
         rw [hrun]
         exact hn undef R Pr _ (hi2.put dst v' undef (by rw [hv1]; trivial) (fun κ1 hκ1 => by rw [hv1] at hκ1; cases hκ1))
     · cases he
   · cases he
 | range t x =>
   simp only [rowOp] at he
   split at he
   · rename_i d κ hx
     split at he
     · rename_i K V l it ho hod hok
       split at he
       · rename_i y hy
         cases he
         obtain ⟨kt, vt, hun, _, _⟩ := mapB_spec hT hy
         have hxv := h.opd x
         rw [hx] at hxv
         have hxv : a.eval x = .map (some (R κ).blk) := hxv
         obtain ⟨es, clock, g1, ⟨g2, g2'⟩, g3, g4, _⟩ := h.ob κ _ ho
         have hv1 : v' = oneA (.ptr d 0) := by
          rcases hv with e | ⟨_, _, _, e, _⟩
          · exact e
          · cases e
         have hdκ : d ≠ κ := fun e => by rw [e, ho] at hod; cases hod
         have h1 := h.world (w' := w.alloc (.mapIter (some (R κ).blk) clock #[] clock)) (fun b hb => alloc_old w _ b hb) ⟨by simp, rfl, rfl, rfl, (by first | exact Nat.le_refl _ | exact Nat.le_succ _ | exact Nat.le_add_right _ _)⟩ (fun _ h => h) (fun _ h _ => h) (fun b hb => by have := h.pr b hb; simp; omega)
         have h2 := h1.add d (.tok κ) ⟨w.heap.size, none, 0, 0⟩ hod hok rfl trivial (fun κ hκ => by cases hκ) (fun z => z.elim)
         have hR : (fun κ' => if κ' = d then (⟨w.heap.size, none, 0, 0⟩ : RL) else R κ') κ = R κ := if_neg (fun z => hdκ z.symm)
         have ho2 : (σ.setOb d (some (.tok κ))).ob κ = some (.map K V l it) := by rw [St.ob_setOb, if_neg (fun z => hdκ z.1)]; exact ho
         have hd2 : (σ.setOb d (some (.tok κ))).ob d = some (.tok κ) := by rw [St.ob_setOb, if_pos ⟨rfl, okK_lt hok⟩]
         have hlt : (R κ).blk < w.heap.size := RepOb.lt (o := .map K V l it) trivial (h.ob κ _ ho)
         have h3 := h2.upd κ _ (.map K V l (some (d, l, none))) ho2 (w' := w.alloc (.mapIter (some (R κ).blk) clock #[] clock)) (R' := fun κ' => if κ' = d then ⟨w.heap.size, none, 0, 0⟩ else R κ') (fun _ _ => rfl) (.inl rfl) (fun _ _ _ => rfl) (Grow.refl _) (fun _ => .inr ⟨trivial, rfl⟩)
          ⟨es, clock, by simp only [hR]; rw [alloc_old w _ _ hlt]; exact g1, ⟨g2, g2'⟩, g3, fun i kv en q1 q2 => (g4 i kv en q1 q2).move (fun b hb => alloc_old w _ b (h.pr b hb)) (fun _ h => h), fun d' L cur e => by
            cases e
            refine ⟨clock, #[], ?_, Nat.le_refl _, g2', (leftL_nil es.toList l g3).symm, fun kv z => by cases z⟩
            simp only [if_true, hR]
            exact alloc_new w _⟩ (fun κ' hκ => by
             simp only [Ob.refs, List.mem_singleton] at hκ
             subst hκ
             rw [hd2]; simp) (fun b hb => by
             obtain ⟨d', L, e, rfl⟩ := hb
             cases e
             simp only [if_true]
             refine ⟨fun z => by have := h.pr _ z; omega, fun z => by have := (h.fz _ z).1; have := h.sm.sz; omega, by simp only [hR]; omega, fun κ1 o1 hne ho1 => ?_⟩
             rw [St.ob_setOb] at ho1
             split at ho1
             · rename_i hc
               cases ho1
               exact ⟨fun z => z.elim, fun z => z⟩
             · rename_i hc
               have hk1 : κ1 ≠ d := fun e => by
                rw [e, hod] at ho1; cases ho1
               have hob1 := h.ob κ1 o1 ho1
               have hR1 : (fun κ' => if κ' = d then (⟨w.heap.size, none, 0, 0⟩ : RL) else R κ') κ1 = R κ1 := if_neg hk1
               refine ⟨fun hre e => ?_, fun hi => ?_⟩
               · simp only [if_neg hk1] at e
                 have hre' : real R κ1 o1 := (real_same hR1 o1).1 hre
                 have := RepOb.lt hre' hob1
                 omega
               · have hi' := hi.back (w := w) (R := R) hR1 (fun hre => alloc_old w _ _ (RepOb.lt hre hob1)) (fun κ2 h2 => if_neg (fun (e : κ2 = d) => h.wo κ1 o1 κ2 ho1 h2 (by rw [e]; exact hod)))
                 have := hob1.inn_lt hi'
                 omega)
         unfold Oper.wp
         have hrun : (execOp a.eval ⟨some d, .range t x, ty, pos, after, guard⟩).run P w = .ok (.value (.pointer (some ⟨w.heap.size, 0, none⟩))) (w.alloc (.mapIter (some (R κ).blk) clock #[] clock)) := by
          have e : execOp a.eval ⟨some d, .range t x, ty, pos, after, guard⟩ = (do pure (.value (← Instr.range t (a.eval x)))) := rfl
          rw [e, hxv, Sem.run_bind, run_range_map w t kt vt _ es clock hun g1]; rfl
         rw [hrun]
         refine hn _ _ Pr _ (h3.put (some d) v' _ ?_ (fun κ1 hκ1 => ?_))
         · rw [hv1]; show _ = _; simp
         · rw [hv1] at hκ1
           have : κ1 = d := by simpa [AV.refs, Cp.refs, C.refs] using hκ1
           subst this
           rw [St.ob_setOb]
           split
           · simp
           · rw [hd2]; simp
       · cases he
     · cases he
   · cases he
 | _ => simp only [rowOp] at he; cases he
theorem pre_sound (hT : TabOK P T) (hE : EnvOK P E) (hE' : EnvE P E) (hFz : ∀ b, b < w0.heap.size → Fz b ∨ Pr0 b) (h : Inv w0 Fz Pr0 Lo R Pr σ a w) {o : Oper} {σ1 : St} {v v' : AV} {F : Foot} (hp : Pre T Y E o σ σ1 v F) (hv : LitV v v') {next : Act → World → Prop} {Q : Exit → Act → World → Prop}
 (hn : ∀ u R' Pr' w', Inv w0 Fz Pr0 Lo R' Pr' (σ1.put o.dst v') (a.put o.dst u) w' → next (a.put o.dst u) w') : o.wp P a w next Q := by
 cases hp with
 | val out ho hh =>
   obtain ⟨u, k1, k2, k3⟩ := evV_sound hT h.ob h.opd ho hh
   unfold Oper.wp
   rw [k1]
   refine hn u R Pr w (h.put o.dst v' u (hv.rep k2) fun κ hκ => ?_)
   rcases k3 κ (hv.refs hκ) with ⟨x, _, hx⟩ | ⟨κ', _, ob, h1, h2⟩
   · exact h.opr x hx
   · exact h.wo κ' ob κ h1 h2
 | eff e he hh g S hg => exact eff_sound hT hFz h he hh hv hn
 | frz κs e he hh => exact eff_sound hT hFz (frzs_inv κs h hFz) he hh hv hn
 | row cs σ2 v he hh => exact row_sound hT h he hh hv hn
 | lift κs c σ2 hl hc e he hh => exact eff_sound hT hFz (lift_inv (frzs_inv κs h hFz) hl hc) he hh hv hn
 | callb f con κ args acc ks σ2 x0 xs y r v ns hc hpre hfn hpost =>
   obtain ⟨dst, op, ty, pos, after, guard⟩ := o
   cases op with
   | call c =>
     obtain ⟨callee, cargs, argTypes⟩ := c
     cases callee with
     | value x =>
       simp only [callOfB] at hc
       split at hc
       · rename_i f' caps hf
         split at hc
         · rename_i con' hg
           split at hc
           · rename_i κ' rest hh
             cases hc
             obtain ⟨ps, hx, hps⟩ := calleeOf_rep hf (h.opd x)
             have hargs : All2 (RepA w R Pr) (cargs.toList.map σ.ρ ++ caps) (cargs.map a.eval ++ ps.toArray).toList := by
              rw [Array.toList_append, Array.toList_map]
              exact (All2_map _ fun y _ => h.opd y).append hps
             generalize hus : (cargs.map a.eval ++ ps.toArray).toList = us at hargs
             obtain ⟨u0, us1, hd, hu0, hrest⟩ := headK_rep hh (hargs.drop con.pos)
             have hlen : con.pos < us.length := by
              rcases Nat.lt_or_ge con.pos us.length with g | g
              · exact g
              · rw [List.drop_eq_nil_of_le g] at hd; cases hd
             have hvs : All2 (RepA w R Pr) ((cargs.toList.map σ.ρ ++ caps).take con.pos ++ rest) (us.take con.pos ++ us1) := (hargs.take con.pos).append hrest
             have hcall := callb_sound (hE.getB hg) h hFz hvs hpre hfn hpost
             have hent := hE'.getB hg
             unfold Oper.wp
             have hrun : (execOp a.eval ⟨dst, .call ⟨.value x, cargs, argTypes⟩, ty, pos, after, guard⟩).run P w = .ok (.enter f (cargs.map a.eval ++ ps.toArray)) w := by
              simp only [execOp, resolve, hx, Deferred.ofValue, Sem.run_bind, Sem.run_pure, Result.andThen_ok, invoke]
              have := hent (cargs.map a.eval ++ ps.toArray) w
              simpa using this
             rw [hrun]
             have hl2 : (us.take con.pos).length = con.pos := by simp; omega
             have earr : ((us.take con.pos ++ us1).take con.pos ++ headV R κ con.ls :: (us.take con.pos ++ us1).drop con.pos).toArray = cargs.map a.eval ++ ps.toArray := by
              rw [List.take_left' hl2, List.drop_left' hl2, ← hu0, ← hd, List.take_append_drop, ← hus, Array.toArray_toList]
             rw [earr] at hcall
             refine Calls.mono hcall ?_
             rintro e w' ⟨u, R', Pr', rfl, k1, k2, k3⟩
             exact hn u R' Pr' w' (k1.put dst v' u (hv.rep k2) fun κ hκ => k3 κ (hv.refs hκ))
           · cases hc
         · cases hc
       · cases hc
     | _ => simp only [callOfB] at hc; cases hc
   | _ => simp only [callOfB] at hc; cases hc
 | call f con args acc σ1' σ2 xs r v ns hc hpre hfn hpost =>
   obtain ⟨dst, op, ty, pos, after, guard⟩ := o
   cases op with
   | call c =>
     obtain ⟨callee, cargs, argTypes⟩ := c
     cases callee with
     | value x =>
       simp only [callOf] at hc
       split at hc
       · rename_i f' caps hf
         split at hc
         · rename_i con' hg
           cases hc
           obtain ⟨ps, hx, hps⟩ := calleeOf_rep hf (h.opd x)
           have hargs : All2 (RepA w R Pr) (cargs.toList.map σ.ρ ++ caps) (cargs.map a.eval ++ ps.toArray).toList := by
            rw [Array.toList_append, Array.toList_map]
            exact (All2_map _ fun y _ => h.opd y).append hps
           have hcall := call_sound (hE.get hg) h hFz hargs hpre hfn hpost
           have hent := hE'.get hg
           unfold Oper.wp
           have hrun : (execOp a.eval ⟨dst, .call ⟨.value x, cargs, argTypes⟩, ty, pos, after, guard⟩).run P w = .ok (.enter f (cargs.map a.eval ++ ps.toArray)) w := by
            simp only [execOp, resolve, hx, Deferred.ofValue, Sem.run_bind, Sem.run_pure, Result.andThen_ok, invoke]
            have := hent (cargs.map a.eval ++ ps.toArray) w
            simpa using this
           rw [hrun]
           have earr : ((cargs.map a.eval ++ ps.toArray).toList).toArray = cargs.map a.eval ++ ps.toArray := Array.toArray_toList
           rw [earr] at hcall
           refine Calls.mono hcall ?_
           rintro e w' ⟨u, R', Pr', rfl, k1, k2, k3⟩
           exact hn u R' Pr' w' (k1.put dst v' u (hv.rep k2) fun κ hκ => k3 κ (hv.refs hκ))
         · cases hc
       · cases hc
     | _ => simp only [callOf] at hc; cases hc
   | _ => simp only [callOf] at hc; cases hc
end
end Go.Rx
