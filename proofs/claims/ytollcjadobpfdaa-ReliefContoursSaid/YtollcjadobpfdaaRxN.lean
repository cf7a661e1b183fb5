/- Reflection, part N: contracts over plain data; a call of such a function. -/
import Derived.Test.YtollcjadobpfdaaRxMs
namespace Go.Rx
set_option linter.unusedVariables false
set_option linter.unusedSimpArgs false
set_option linter.unusedSectionVars false
abbrev PT := Bool × Ty
def DL : List PT → Type
 | [] => Unit
 | p :: r => p.2.D × DL r
inductive LF where
 | d (τ : Ty)
 | o
inductive LO where
 | box (fs : List LF)
 | row (e : Ty)
 | rows (e : Ty)
 | map (K V : Ty)
def LFD : List LF → Type
 | [] => Unit
 | .d τ :: r => τ.D × LFD r
 | .o :: r => LFD r
def LO.D : LO → Type
 | .box fs => LFD fs
 | .row e => List e.D
 | .rows e => List (List e.D)
 | .map K V => List (K.D × V.D)
def LOD : List LO → Type
 | [] => Unit
 | o :: r => o.D × LOD r
def cellsF : List Nat → (fs : List LF) → LFD fs → List C
 | _, [], _ => []
 | ks, .d τ :: r, x => τ.cells x.1 ++ cellsF ks r x.2
 | k :: ks, .o :: r, x => .own k :: cellsF ks r x
 | [], .o :: r, x => .any :: cellsF [] r x
def LO.ob (ks : List Nat) : (o : LO) → o.D → Ob
 | .box fs, x => .box (cellsF ks fs x)
 | .row e, l => .vec e l
 | .rows e, ll => .rows e ll none
 | .map K V, l => .map K V l none
def obsL (ks : List Nat) : List Nat → (ls : List LO) → LOD ls → List (Nat × Ob)
 | κ :: κs, o :: r, x => (κ, o.ob ks x.1) :: obsL ks κs r x.2
 | _, [], _ => []
 | [], _ :: _, _ => []
def rg (ls : List LO) : List Nat := List.range' 0 ls.length
def obs0 (ls : List LO) (x : LOD ls) : List (Nat × Ob) := obsL (rg ls).tail (rg ls) ls x
def headV (R : Nat → RL) (κ : Nat) : List LO → Value
 | .box _ :: _ => .pointer (some ⟨(R κ).blk, 0, none⟩)
 | .row _ :: _ => (R κ).hdr
 | .rows _ :: _ => (R κ).hdr
 | .map _ _ :: _ => .map (some (R κ).blk)
 | [] => undef
inductive RT where
 | d (agg : Bool) (τ : Ty)
 | new (e : Ty)
 | obj (o : LO) (ls : List LO)
def RT.D : RT → Type
 | .d _ τ => τ.D
 | .new e => List e.D
 | .obj o ls => LOD (o :: ls)
def RDL : List RT → Type
 | [] => Unit
 | p :: r => p.D × RDL r
def RepV (w : World) (Pr : Nat → Prop) (p : PT) (x : p.2.D) (v : Value) : Prop :=
 match p.1 with
 | true => ∃ us, v = .agg us ∧ RepTy w Pr p.2 x us.toList
 | false => RepTy w Pr p.2 x [v]
def RepArgs (w : World) (Pr : Nat → Prop) : (sig : List PT) → DL sig → List Value → Prop
 | [], _, vs => vs = []
 | p :: r, xs, vs => ∃ v us, vs = v :: us ∧ RepV w Pr p xs.1 v ∧ RepArgs w Pr r xs.2 us
def RepNew (w : World) (N : Nat → Prop) (Pr : Nat → Prop) (e : Ty) (l : List e.D) (v : Value) (blk : Nat) : Prop :=
 (v = .slice none 0 0 ∧ l = []) ∨ ∃ off cap cells el, v = .slice (some ⟨blk, off, none⟩) l.length cap ∧ l.length ≤ cap ∧ w.heap[blk]? = some (.cells cells el (0, 0)) ∧ off + cap * e.n ≤ cells.size ∧ N blk ∧ ¬ Pr blk ∧
   ∀ i y, l[i]? = some y → ∃ us, At cells (off + i * e.n) us ∧ RepTy w Pr e y us
def RepRets (w : World) (N : Nat → Prop) (Pr : Nat → Prop) : (rs : List RT) → RDL rs → List Value → (Nat → Prop) → Prop
 | [], _, vs, _ => vs = []
 | .d agg τ :: r, xs, vs, bs => ∃ v us, vs = v :: us ∧ RepV w Pr (agg, τ) xs.1 v ∧ RepRets w N Pr r xs.2 us bs
 | .new e :: r, xs, vs, bs => ∃ v us blk, vs = v :: us ∧ RepNew w N Pr e xs.1 v blk ∧ (v ≠ .slice none 0 0 → ¬ bs blk) ∧ RepRets w N Pr r xs.2 us (fun b => bs b ∨ (v ≠ .slice none 0 0 ∧ b = blk))
 | .obj o ls :: r, xs, vs, bs => ∃ v us L, vs = v :: us ∧ v = headV L 0 (o :: ls) ∧ Sep w L Pr (obs0 (o :: ls) xs.1) ∧ (∀ b, Bl w L (obs0 (o :: ls) xs.1) b → N b ∧ ¬ bs b) ∧ RepRets w N Pr r xs.2 us (fun b => bs b ∨ Bl w L (obs0 (o :: ls) xs.1) b)
def packV : List Value → Value
 | [v] => v
 | vs => .tuple vs.toArray
def PureOK (P : Program) (f : FuncId) (sig : List PT) (rs : List RT) (fn : DL sig → Option (RDL rs)) : Prop :=
 ∀ xs r, fn xs = some r → ∀ (w : World) (Pr : Nat → Prop) (vs : List Value), (∀ b, Pr b → b < w.heap.size) → RepArgs w Pr sig xs vs →
   Calls P f vs.toArray w fun e w' => ∃ Pr' us, e = .returned (packV us) ∧ (∀ b, b < w.heap.size → w'.heap[b]? = w.heap[b]?) ∧ Grow w w' ∧ (∀ b, Pr b → Pr' b) ∧
    (∀ b, Pr' b → b < w.heap.size → Pr b) ∧ (∀ b, Pr' b → b < w'.heap.size) ∧ RepRets w' (fun b => w.heap.size ≤ b) Pr' rs r us (fun _ => False)
structure Con where
 sig : List PT
 rs : List RT
 fn : DL sig → Option (RDL rs)
def mvd (pin : Bool) : List LO → Bool
 | .row _ :: _ => !pin
 | _ => false
def selfV (pin : Bool) (ls : List LO) (L : Nat → RL) : List Value := match mvd pin ls with
 | true => [(L 0).hdr]
 | false => []
def BoxOK (P : Program) (f : FuncId) (pos : Nat) (pin : Bool) (ls : List LO) (sig : List PT) (rs : List RT) (fn : LOD ls → DL sig → Option (LOD ls × RDL rs)) : Prop :=
 ∀ x xs y r, fn x xs = some (y, r) → ∀ (w : World) (Pr : Nat → Prop) (vs : List Value) (Lo : Nat → RL), (∀ b, Pr b → b < w.heap.size) → Sep w Lo Pr (obs0 ls x) → RepArgs w Pr sig xs vs →
   Calls P f (vs.take pos ++ headV Lo 0 ls :: vs.drop pos).toArray w fun e w' => ∃ Pr' rv Lo', e = .returned (packV (selfV pin ls Lo' ++ rv)) ∧ (∀ i, i < ls.length → (pin = true ∨ (i = 0 ∧ mvd pin ls = false)) → Lo' i = Lo i) ∧ (∀ b, b < w.heap.size → ¬ Bl w Lo (obs0 ls x) b → w'.heap[b]? = w.heap[b]?) ∧ Grow w w' ∧ (∀ b, Pr b → Pr' b) ∧
    (∀ b, Pr' b → b < w.heap.size → Pr b ∨ Bl w Lo (obs0 ls x) b) ∧ (∀ b, Pr' b → b < w'.heap.size) ∧ Sep w' Lo' Pr' (obs0 ls y) ∧ (∀ b, Bl w' Lo' (obs0 ls y) b → Bl w Lo (obs0 ls x) b ∨ w.heap.size ≤ b) ∧
    RepRets w' (fun b => w.heap.size ≤ b ∨ Bl w Lo (obs0 ls x) b) Pr' rs r rv (Bl w' Lo' (obs0 ls y))
structure BCon where
 pos : Nat
 pin : Bool
 ls : List LO
 sig : List PT
 rs : List RT
 fn : LOD ls → DL sig → Option (LOD ls × RDL rs)
inductive ECon where
 | c (c : Con)
 | b (c : BCon)
abbrev Env := List (FuncId × ECon)
def Env.get : Env → FuncId → Option Con
 | [], _ => none
 | (g, .c c) :: r, f => if f = g then some c else Env.get r f
 | (_, .b _) :: r, f => Env.get r f
def Env.getB : Env → FuncId → Option BCon
 | [], _ => none
 | (g, .b c) :: r, f => if f = g then some c else Env.getB r f
 | (_, .c _) :: r, f => Env.getB r f
def EnvOK (P : Program) : Env → Prop
 | [] => True
 | (f, .c c) :: r => PureOK P f c.sig c.rs c.fn ∧ EnvOK P r
 | (f, .b c) :: r => BoxOK P f c.pos c.pin c.ls c.sig c.rs c.fn ∧ EnvOK P r
theorem EnvOK.get {P : Program} : ∀ {E : Env} {f : FuncId} {c : Con}, EnvOK P E → E.get f = some c → PureOK P f c.sig c.rs c.fn
 | [], _, _, _, h => by cases h
 | (g, .c d) :: r, f, c, h, hg => by
   simp only [Env.get] at hg
   split at hg
   · rename_i e; subst e; cases hg; exact h.1
   · exact EnvOK.get h.2 hg
 | (g, .b d) :: r, f, c, h, hg => EnvOK.get (E := r) h.2 hg
theorem EnvOK.getB {P : Program} : ∀ {E : Env} {f : FuncId} {c : BCon}, EnvOK P E → E.getB f = some c → BoxOK P f c.pos c.pin c.ls c.sig c.rs c.fn
 | [], _, _, _, h => by cases h
 | (g, .b d) :: r, f, c, h, hg => by
   simp only [Env.getB] at hg
   split at hg
   · rename_i e; subst e; cases hg; exact h.1
   · exact EnvOK.getB h.2 hg
 | (g, .c d) :: r, f, c, h, hg => EnvOK.getB (E := r) h.2 hg
def unown (ob : Nat → Option Ob) : C → List Nat × C
 | .own κ => match ob κ with
   | some (.vec e l) => ([κ], .val false e l)
   | _ => ([κ], .own κ)
 | c => ([], c)
def unowns (ob : Nat → Option Ob) : List C → List Nat × List C
 | [] => ([], [])
 | c :: cs => ((unown ob c).1 ++ (unowns ob cs).1, (unown ob c).2 :: (unowns ob cs).2)
def isAggCp : Cp → Bool
 | .one _ => false
 | .agg _ => true
def toArg (ob : Nat → Option Ob) (p : PT) : AV → Option (List Nat × p.2.D)
 | .cp x => match isAggCp x, p.1, cpCells x with
   | true, true, some cs => match p.2.of (unowns ob cs).2 with
     | some (y, []) => some ((unowns ob cs).1, y)
     | _ => none
   | false, false, some cs => match p.2.of (unowns ob cs).2 with
     | some (y, []) => some ((unowns ob cs).1, y)
     | _ => none
   | _, _, _ => none
 | .tup _ => none
def ptrArg (ob : Nat → Option Ob) : (e : Ty) → Cp → Option (List Nat × e.D)
 | .ptr e, .one (.ptr κ 0) => match ob κ with
   | some (.box cs) => match e.of (unowns ob cs).2 with
     | some (y, []) => some (κ :: (unowns ob cs).1, (show (Ty.ptr e).D from y))
     | _ => none
   | _ => none
 | _, _ => none
def unownM (ob : Nat → Option Ob) : C → List Nat × C
 | .mp κ => match ob κ with
   | some (.map K V l _) => ([κ], .dat (.map K V) l)
   | _ => ([κ], .mp κ)
 | c => unown ob c
def unownsM (ob : Nat → Option Ob) : List C → List Nat × List C
 | [] => ([], [])
 | c :: cs => ((unownM ob c).1 ++ (unownsM ob cs).1, (unownM ob c).2 :: (unownsM ob cs).2)
def capArg (ob : Nat → Option Ob) : (e : Ty) → List Nat → Option (List Nat × e.D)
 | .ptr e, [κ] => match ob κ with
   | some (.box cs) => match e.of (unownsM ob cs).2 with
     | some (y, []) => some (κ :: (unownsM ob cs).1, (show (Ty.ptr e).D from y))
     | _ => none
   | some (.fbox e' x) => match Ty.dec e' e with
     | isTrue h => some ([κ], (show (Ty.ptr e).D from (h ▸ x : e.D)))
     | isFalse _ => none
   | _ => none
 | .pair (.ptr e) b, κ :: κs => match ob κ, capArg ob b κs with
   | some (.box cs), some (acc, r) => match e.of (unownsM ob cs).2 with
     | some (y, []) => some (κ :: ((unownsM ob cs).1 ++ acc), ((show (Ty.ptr e).D from y), r))
     | _ => none
   | some (.fbox e' x), some (acc, r) => match Ty.dec e' e with
     | isTrue h => some (κ :: acc, ((show (Ty.ptr e).D from (h ▸ x : e.D)), r))
     | isFalse _ => none
   | _, _ => none
 | _, _ => none
def mapArg (ob : Nat → Option Ob) : (e : Ty) → Cp → Option (List Nat × e.D)
 | .map K V, .one (.mp κ) => match ob κ with
   | some (.map K' V' l _) => match Ty.dec (.map K' V') (.map K V) with
     | isTrue h => some ([κ], (h ▸ (show (Ty.map K' V').D from l) : (Ty.map K V).D))
     | isFalse _ => none
   | _ => none
 | .clo f e, .one (.fn g κs) => match g.beq f with
   | true => (capArg ob e κs).map fun p => (p.1, (show (Ty.clo f e).D from p.2))
   | false => none
 | e, c => ptrArg ob e c
def toArgP (ob : Nat → Option Ob) (p : PT) (v : AV) : Option (List Nat × p.2.D) :=
 match toArg ob p v with
 | some r => some r
 | none => match p.1, v with
   | false, .cp x => mapArg ob p.2 x
   | _, _ => none
def isVecK (ob : Nat → Option Ob) (κ : Nat) : Bool := match ob κ with
 | some (.vec _ _) => true
 | _ => false
def toArgs (ob : Nat → Option Ob) : (sig : List PT) → List AV → Option (List Nat × DL sig)
 | [], [] => some ([], ())
 | p :: r, v :: vs => match toArgP ob p v, toArgs ob r vs with
   | some (k1, x), some (k2, xs) => some (k1 ++ k2, (x, xs))
   | _, _ => none
 | _, _ => none
def Ty.solid : Ty → Bool
 | .pair a b => a.solid && b.solid
 | .sl _ _ => false
 | .ptr _ => false
 | .clo _ _ => false
 | .map _ _ => false
 | _ => true
def RT.solid : RT → Bool
 | .d _ τ => τ.solid
 | .new e => e.solid
 | .obj _ _ => false
def frzs : List Nat → St → St
 | [], σ => σ
 | κ :: r, σ => frzs r (σ.frz κ)
def LO.isRow : LO → Bool
 | .box _ => false
 | _ => true
def keysAt (N d i n : Nat) : List Nat := (List.range' i n).map fun j => d + j * N
def headC1 (κ : Nat) : LO → C
 | .box _ => .ptr κ 0
 | .row _ => .own κ
 | .rows _ => .own κ
 | .map _ _ => .mp κ
def rets (N d : Nat) : Nat → (rs : List RT) → RDL rs → Option (List Cp × List (Nat × Ob))
 | _, [], _ => some ([], [])
 | i, .d true τ :: r, xs => match rets N d i r xs.2 with
   | some (cs, ns) => some (.agg (τ.cells xs.1) :: cs, ns)
   | none => none
 | i, .d false τ :: r, xs => match τ.cells xs.1, rets N d i r xs.2 with
   | [c], some (cs, ns) => some (.one c :: cs, ns)
   | _, _ => none
 | i, .new e :: r, xs => match rets N d (i + 1) r xs.2 with
   | some (cs, ns) => some (.one (.own (d + i * N)) :: cs, (d + i * N, .vec e xs.1) :: ns)
   | none => none
 | i, .obj o ls :: r, xs => match rets N d (i + (ls.length + 1)) r xs.2, ls.all LO.isRow with
   | some (cs, ns), true => some (.one (headC1 (d + i * N) o) :: cs, obsL (keysAt N d (i + 1) ls.length) (keysAt N d (i + 1) ls.length) ls xs.1.2 ++ (d + i * N, o.ob (keysAt N d (i + 1) ls.length) xs.1.1) :: ns)
   | _, _ => none
def packA : List Cp → AV
 | [c] => .cp c
 | cs => .tup cs
def frzIf (rs : List RT) (acc : List Nat) (σ : St) : St :=
 match acc with
 | [] => σ
 | _ :: _ => match rs.all RT.solid with
   | true => σ
   | false => frzs acc σ
def callPre (σ : St) (c : Con) (args : List AV) : Option (List Nat × St × DL c.sig) :=
 match toArgs σ.ob c.sig args with
 | some (acc, xs) => match acc.all (isVecK σ.ob) || c.rs.all RT.solid with
   | true => some (acc, frzIf c.rs acc σ, xs)
   | false => none
 | none => none
def callPost (σ : St) (dst : Option Nat) (rs : List RT) (r : RDL rs) : Option (St × AV × List (Nat × Ob)) :=
 match rets σ.tmps.length (dst.getD 0) 0 rs r with
 | some (cs, ns) => match σ.adds ns with
   | some σ' => some (σ', packA cs, ns)
   | none => none
 | none => none
def okR : List Nat → List Nat → Bool
 | _, [] => true
 | vs, κ :: ns => !vs.contains κ && !ns.contains κ && okR vs ns
theorem okR_spec : ∀ {vs ns : List Nat}, okR vs ns = true → ns.Nodup ∧ ∀ κ ∈ ns, κ ∉ vs
 | vs, [], _ => ⟨List.nodup_nil, fun κ hκ => by cases hκ⟩
 | vs, κ :: ns, h => by
   simp only [okR, Bool.and_eq_true, Bool.not_eq_true', List.contains_eq_mem, decide_eq_false_iff_not] at h
   obtain ⟨k1, k2⟩ := okR_spec h.2
   refine ⟨List.nodup_cons.2 ⟨h.1.2, k1⟩, fun κ' hκ => ?_⟩
   rcases List.mem_cons.1 hκ with rfl | hκ
   · exact h.1.1
   · exact k2 κ' hκ
def takeF (ob : Nat → Option Ob) : List Nat → (fs : List LF) → List C → Option (List Nat × LFD fs)
 | _, [], [] => some ([], ())
 | ks, .d τ :: r, cs => match τ.of (unowns ob (cs.take τ.n)).2, takeF ob ks r (cs.drop τ.n) with
   | some (x, []), some (a, y) => some ((unowns ob (cs.take τ.n)).1 ++ a, (x, y))
   | _, _ => none
 | k :: ks, .o :: r, .own κ :: cs => match κ.beq k with
   | true => takeF ob ks r cs
   | false => none
 | _, _, _ => none
def keysF : List LF → List C → List Nat
 | .d τ :: r, cs => keysF r (cs.drop τ.n)
 | .o :: r, .own κ :: cs => κ :: keysF r cs
 | _, _ => []
def takeO (ob : Nat → Option Ob) (ks : List Nat) (κ : Nat) : (o : LO) → Option (List Nat × o.D)
 | .box fs => match ob κ with
   | some (.box cs) => takeF ob ks fs cs
   | _ => none
 | .row e => match ob κ with
   | some (.vec e' l) => match Ty.dec e' e with
     | isTrue h => some ([], (h ▸ l : List e.D))
     | isFalse _ => none
   | _ => none
 | .rows e => match ob κ with
   | some (.rows e' ll none) => match Ty.dec e' e with
     | isTrue h => some ([], (h ▸ ll : List (List e.D)))
     | isFalse _ => none
   | _ => none
 | .map K V => match ob κ with
   | some (.map K' V' l none) => match Ty.dec (.map K' V') (.map K V) with
     | isTrue h => some ([], (h ▸ (show (Ty.map K' V').D from l) : (Ty.map K V).D))
     | isFalse _ => none
   | _ => none
def takeL (ob : Nat → Option Ob) (ks : List Nat) : List Nat → (ls : List LO) → Option (List Nat × LOD ls)
 | κ :: κs, o :: r => match takeO ob ks κ o, takeL ob ks κs r with
   | some (a, x), some (b, y) => some (a ++ b, (x, y))
   | _, _ => none
 | [], [] => some ([], ())
 | _, _ => none
def rowKeys (ob : Nat → Option Ob) (κ : Nat) : List LO → List Nat
 | .box fs :: _ => match ob κ with
   | some (.box cs) => keysF fs cs
   | _ => []
 | _ => []
def callPreB (σ : St) (c : BCon) (κ : Nat) (args : List AV) : Option (List Nat × List Nat × LOD c.ls × DL c.sig) :=
 match takeL σ.ob (rowKeys σ.ob κ c.ls) (κ :: rowKeys σ.ob κ c.ls) c.ls, toArgs σ.ob c.sig args with
 | some (k1, x), some (k2, xs) => match okR (k1 ++ k2) (κ :: rowKeys σ.ob κ c.ls) && k2.all (isVecK σ.ob) with
   | true => some (k1 ++ k2, rowKeys σ.ob κ c.ls, x, xs)
   | false => none
 | _, _ => none
def kills : List Nat → St → St
 | [], σ => σ
 | κ :: r, σ => kills r (σ.kill κ)
def loose (pin : Bool) (ls : List LO) (κ : Nat) (ks : List Nat) : List Nat := match pin with
 | true => []
 | false => match mvd false ls with
   | true => κ :: ks
   | false => ks
def selfC (pin : Bool) (ls : List LO) (κ : Nat) : List Cp := match mvd pin ls with
 | true => [.one (.own κ)]
 | false => []
def callPostB (σ : St) (dst : Option Nat) (κ : Nat) (ks : List Nat) (pin : Bool) (ls : List LO) (rs : List RT) (y : LOD ls) (r : RDL rs) : Option (St × AV × List (Nat × Ob)) :=
 match rets σ.tmps.length (dst.getD 0) 0 rs r, (loose pin ls κ ks).all (fun k => okK k σ.objs.length) with
 | some (cs, ns), true => match ((kills (loose pin ls κ ks) σ).setObs (obsL ks (κ :: ks) ls y)).adds ns with
   | some σ' => some (σ', packA (selfC pin ls κ ++ cs), ns)
   | none => none
 | _, _ => none
section
variable {w w' : World} {R : Nat → RL} {Pr Pr' : Nat → Prop}
theorem RepTy.solid : ∀ {e : Ty} {x : e.D} {us : List Value}, e.solid = true → RepTy w Pr e x us → RepTy w' Pr' e x us
 | .int _, _, _, _, h => h
 | .bool, _, _, _, h => h
 | .str, _, _, _, h => h
 | .pair a b, x, us, hs, h => by
   simp only [Ty.solid, Bool.and_eq_true] at hs
   obtain ⟨u1, u2, rfl, h1, h2⟩ := h
   exact ⟨u1, u2, rfl, RepTy.solid hs.1 h1, RepTy.solid hs.2 h2⟩
 | .sl _ _, _, _, hs, _ => by simp [Ty.solid] at hs
 | .fn _, _, _, _, h => h
 | .ptr _, _, _, hs, _ => by simp [Ty.solid] at hs
theorem unown_rep {ob : Nat → Option Ob} (hob : ∀ κ o, ob κ = some o → RepOb w R Pr κ o) (hp : ∀ b, Pr b → Pr' b) {c : C} {v : Value} (hk : ∀ κ ∈ (unown ob c).1, ∀ e l, ob κ = some (.vec e l) → real R κ (.vec e l) → Pr' (R κ).blk) (h : RepC w R Pr c v) : RepC w R Pr' (unown ob c).2 v := by
 unfold unown at *
 split
 · rename_i κ
   split
   · rename_i e l ho
     have h1 : v = (R κ).hdr := h
     rw [h1]
     refine view_vec (hob κ _ ho) hp (fun hre => hk κ ?_ _ _ ho hre)
     simp only [ho]
     exact List.mem_singleton.2 rfl
   · exact RepC.move (fun _ _ => rfl) hp (fun _ _ => rfl) h
 · exact RepC.move (fun _ _ => rfl) hp (fun _ _ => rfl) h
theorem unowns_rep {ob : Nat → Option Ob} (hob : ∀ κ o, ob κ = some o → RepOb w R Pr κ o) (hp : ∀ b, Pr b → Pr' b) : ∀ {cs : List C} {vs : List Value}, (∀ κ ∈ (unowns ob cs).1, ∀ e l, ob κ = some (.vec e l) → real R κ (.vec e l) → Pr' (R κ).blk) → All2 (RepC w R Pr) cs vs → All2 (RepC w R Pr') (unowns ob cs).2 vs
 | [], [], _, _ => trivial
 | c :: cs, v :: vs, hk, h => ⟨unown_rep hob hp (fun κ hκ => hk κ (List.mem_append_left _ hκ)) h.1, unowns_rep hob hp (fun κ hκ => hk κ (List.mem_append_right _ hκ)) h.2⟩
 | [], _ :: _, _, h => h.elim
 | _ :: _, [], _, h => h.elim
theorem toArg_rep {ob : Nat → Option Ob} (hob : ∀ κ o, ob κ = some o → RepOb w R Pr κ o) (hp : ∀ b, Pr b → Pr' b) {p : PT} {v : AV} {u : Value} {acc : List Nat} {x : p.2.D} (h : toArg ob p v = some (acc, x)) (hk : ∀ κ ∈ acc, ∀ e l, ob κ = some (.vec e l) → real R κ (.vec e l) → Pr' (R κ).blk) (hr : RepA w R Pr v u) : RepV w Pr' p x u := by
 cases v with
 | tup _ => simp [toArg] at h
 | cp c =>
   have hr : RepCp w R Pr c u := hr
   simp only [toArg] at h
   split at h
   · rename_i cs h1 h2 h3
     split at h
     · rename_i y hy
       cases h
       have h4 := unowns_rep hob hp hk (cpCells_rep hr h3).1
       obtain ⟨u1, u2, hu12, k1, k2⟩ := of_rep hy h4
       have hu2 : u2 = [] := by
        cases u2 with
        | nil => rfl
        | cons _ _ => exact k2.elim
       subst hu2
       simp only [List.append_nil] at hu12
       cases c with
       | one c => simp [isAggCp] at h1
       | agg l =>
         obtain ⟨us, rfl, _⟩ := hr
         unfold RepV
         rw [h2]
         exact ⟨us, rfl, by rw [show us.toList = u1 from hu12]; exact k1⟩
     · cases h
   · rename_i cs h1 h2 h3
     split at h
     · rename_i y hy
       cases h
       have h4 := unowns_rep hob hp hk (cpCells_rep hr h3).1
       obtain ⟨u1, u2, hu12, k1, k2⟩ := of_rep hy h4
       have hu2 : u2 = [] := by
        cases u2 with
        | nil => rfl
        | cons _ _ => exact k2.elim
       subst hu2
       simp only [List.append_nil] at hu12
       cases c with
       | agg l => simp [isAggCp] at h1
       | one c =>
         have hu : u.cells = #[u] := by
          unfold cpCells at h3
          split at h3
          · cases h3
          · rename_i c' hne e
            cases e
            have := (RepC.one hr (fun e => hne (by rw [e]))).1
            cases u <;> first | rfl | exact absurd rfl (this _)
          · rename_i e; cases e
         unfold RepV
         rw [h2]
         show RepTy w Pr' p.2 _ [u]
         rw [hu] at hu12
         rw [show [u] = u1 from hu12]; exact k1
     · cases h
   · cases h
theorem isVecK_spec {ob : Nat → Option Ob} {κ : Nat} (h : isVecK ob κ = true) : ∃ e l, ob κ = some (.vec e l) := by
 unfold isVecK at h
 split at h
 · rename_i e l ho; exact ⟨e, l, ho⟩
 · cases h
theorem ptrArg_rep {ob : Nat → Option Ob} (hob : ∀ κ o, ob κ = some o → RepOb w R Pr κ o) (hp : ∀ b, Pr b → Pr' b) {e : Ty} {c : Cp} {u : Value} {acc : List Nat} {x : e.D} (h : ptrArg ob e c = some (acc, x)) (hk : ∀ κ ∈ acc, ∀ o, ob κ = some o → real R κ o → Pr' (R κ).blk) (hr : RepCp w R Pr c u) : RepTy w Pr' e x [u] := by
 unfold ptrArg at h
 split at h
 · rename_i e κ
   split at h
   · rename_i cs ho
     split at h
     · rename_i y hy
       cases h
       obtain ⟨el, vs, h1, h2⟩ := hob κ _ ho
       have h4 := unowns_rep hob hp (fun κ' hκ e l ho hre => hk κ' (List.mem_cons_of_mem _ hκ) _ ho hre) h2
       obtain ⟨u1, u2, hu12, k1, k2⟩ := of_rep hy h4
       refine ⟨u, rfl, (R κ).blk, 0, vs, el, (0, 0), u1, hr, hk κ (List.mem_cons_self ..) _ ho trivial, h1, fun c v hc => ?_, k1⟩
       rw [Nat.zero_add, ← Array.getElem?_toList, hu12]
       rw [List.getElem?_append_left (List.getElem?_eq_some_iff.1 hc).1]
       exact hc
     · cases h
   · cases h
 · cases h
theorem unownM_rep {ob : Nat → Option Ob} (hob : ∀ κ o, ob κ = some o → RepOb w R Pr κ o) (hp : ∀ b, Pr b → Pr' b) {c : C} {v : Value} (hk : ∀ κ ∈ (unownM ob c).1, ∀ o, ob κ = some o → real R κ o → Pr' (R κ).blk) (h : RepC w R Pr c v) : RepC w R Pr' (unownM ob c).2 v := by
 unfold unownM at *
 split
 · rename_i κ
   split
   · rename_i K V l it ho
     have h1 : v = .map (some (R κ).blk) := h
     obtain ⟨es, clock, g1, g2, g3, g4, _⟩ := hob κ _ ho
     refine ⟨v, (R κ).blk, es, clock, rfl, h1, hk κ ?_ _ ho trivial, g1, g2, g3, fun i kv en q1 q2 => (g4 i kv en q1 q2).move (fun _ _ => rfl) hp⟩
     simp only [ho]
     exact List.mem_singleton.2 rfl
   · exact RepC.move (fun _ _ => rfl) hp (fun _ _ => rfl) h
 · rename_i hne
   refine unown_rep hob hp (fun κ hκ e l ho hre => hk κ ?_ _ ho hre) h
   split
   · exact absurd rfl (hne _)
   · exact hκ
theorem unownsM_rep {ob : Nat → Option Ob} (hob : ∀ κ o, ob κ = some o → RepOb w R Pr κ o) (hp : ∀ b, Pr b → Pr' b) : ∀ {cs : List C} {vs : List Value}, (∀ κ ∈ (unownsM ob cs).1, ∀ o, ob κ = some o → real R κ o → Pr' (R κ).blk) → All2 (RepC w R Pr) cs vs → All2 (RepC w R Pr') (unownsM ob cs).2 vs
 | [], [], _, _ => trivial
 | c :: cs, v :: vs, hk, h => ⟨unownM_rep hob hp (fun κ hκ => hk κ (List.mem_append_left _ hκ)) h.1, unownsM_rep hob hp (fun κ hκ => hk κ (List.mem_append_right _ hκ)) h.2⟩
 | [], _ :: _, _, h => h.elim
 | _ :: _, [], _, h => h.elim
theorem cap_one {ob : Nat → Option Ob} (hob : ∀ κ o, ob κ = some o → RepOb w R Pr κ o) (hp : ∀ b, Pr b → Pr' b) {κ : Nat} {e : Ty} {y : e.D} {acc : List Nat} (hk : ∀ κ' ∈ acc, ∀ o, ob κ' = some o → real R κ' o → Pr' (R κ').blk) (hm : κ ∈ acc)
 (h : (∃ cs, ob κ = some (.box cs) ∧ e.of (unownsM ob cs).2 = some (y, []) ∧ ∀ κ' ∈ (unownsM ob cs).1, κ' ∈ acc) ∨ ob κ = some (.fbox e y)) : RepTy w Pr' (.ptr e) y [.pointer (some ⟨(R κ).blk, 0, none⟩)] := by
 rcases h with ⟨cs, ho, hy, ha⟩ | ho
 · obtain ⟨el, vs, h1, h2⟩ := hob κ _ ho
   have h4 := unownsM_rep hob hp (fun κ' hκ o ho' hre => hk κ' (ha κ' hκ) _ ho' hre) h2
   obtain ⟨u1, u2, hu12, k1, k2⟩ := of_rep hy h4
   refine ⟨_, rfl, (R κ).blk, 0, vs, el, (0, 0), u1, rfl, hk κ hm _ ho trivial, h1, fun c v hc => ?_, k1⟩
   rw [Nat.zero_add, ← Array.getElem?_toList, hu12]
   rw [List.getElem?_append_left (List.getElem?_eq_some_iff.1 hc).1]
   exact hc
 · obtain ⟨h0, cells, el, fr, us, h1, h2, h3⟩ := hob κ _ ho
   exact ⟨_, rfl, (R κ).blk, 0, cells, el, fr, us, rfl, hp _ h0, h1, h2, h3.move (fun _ _ => rfl) hp⟩
theorem capArg_rep {ob : Nat → Option Ob} (hob : ∀ κ o, ob κ = some o → RepOb w R Pr κ o) (hp : ∀ b, Pr b → Pr' b) : ∀ {e : Ty} {κs : List Nat} {acc : List Nat} {x : e.D}, capArg ob e κs = some (acc, x) → (∀ κ ∈ acc, ∀ o, ob κ = some o → real R κ o → Pr' (R κ).blk) →
 RepTy w Pr' e x (κs.map fun κ => Value.pointer (some ⟨(R κ).blk, 0, none⟩)) := fun {e} => by
 induction e with
 | ptr e _ =>
   intro κs acc x h hk
   match κs, h with
   | [κ], h =>
     simp only [capArg] at h
     split at h
     · rename_i cs ho
       split at h
       · rename_i y hy
         cases h
         exact cap_one hob hp hk (List.mem_cons_self ..) (.inl ⟨cs, ho, hy, fun κ' hκ => List.mem_cons_of_mem _ hκ⟩)
       · cases h
     · rename_i e' x' ho
       revert h
       generalize Ty.dec e' e = d
       intro h
       cases d with
       | isFalse _ => cases h
       | isTrue he =>
         subst he; cases h
         exact cap_one hob hp hk (List.mem_cons_self ..) (.inr ho)
     · cases h
   | [], h => simp [capArg] at h
   | _ :: _ :: _, h => simp [capArg] at h
 | pair a b _ ihb =>
   intro κs acc x h hk
   cases a with
   | ptr e =>
     match κs, h with
     | κ :: κs, h =>
       simp only [capArg] at h
       split at h
       · rename_i cs acc' r ho hr
         split at h
         · rename_i y hy
           cases h
           refine ⟨[_], _, rfl, cap_one hob hp hk (List.mem_cons_self ..) (.inl ⟨cs, ho, hy, fun κ' hκ => List.mem_cons_of_mem _ (List.mem_append_left _ hκ)⟩), ihb hr (fun κ hκ => hk κ (List.mem_cons_of_mem _ (List.mem_append_right _ hκ)))⟩
         · cases h
       · rename_i e' x' acc' r ho hr
         revert h
         generalize Ty.dec e' e = d
         intro h
         cases d with
         | isFalse _ => cases h
         | isTrue he =>
           subst he; cases h
           exact ⟨[_], _, rfl, cap_one hob hp hk (List.mem_cons_self ..) (.inr ho), ihb hr (fun κ hκ => hk κ (List.mem_cons_of_mem _ hκ))⟩
       · cases h
     | [], h => simp [capArg] at h
   | _ => intros; simp [capArg] at h
 | _ => intro κs acc x h; simp [capArg] at h
theorem mapArg_rep {ob : Nat → Option Ob} (hob : ∀ κ o, ob κ = some o → RepOb w R Pr κ o) (hp : ∀ b, Pr b → Pr' b) {e : Ty} {c : Cp} {u : Value} {acc : List Nat} {x : e.D} (h : mapArg ob e c = some (acc, x)) (hk : ∀ κ ∈ acc, ∀ o, ob κ = some o → real R κ o → Pr' (R κ).blk) (hr : RepCp w R Pr c u) : RepTy w Pr' e x [u] := by
 unfold mapArg at h
 split at h
 · rename_i K V κ
   split at h
   · rename_i K' V' l it ho
     revert h
     generalize Ty.dec (.map K' V') (.map K V) = d
     intro h
     cases d with
     | isFalse _ => cases h
     | isTrue he =>
       injection he with e1 e2
       subst e1 e2
       cases h
       have h1 : u = .map (some (R κ).blk) := hr
       obtain ⟨es, clock, g1, g2, g3, g4, _⟩ := hob κ _ ho
       exact ⟨u, (R κ).blk, es, clock, rfl, h1, hk κ (List.mem_singleton.2 rfl) _ ho trivial, g1, g2, g3, fun i kv en q1 q2 => (g4 i kv en q1 q2).move (fun _ _ => rfl) hp⟩
   · cases h
 · rename_i f e g κs
   split at h
   · rename_i hg
     obtain ⟨⟨acc', y⟩, hy, e1⟩ := Option.map_eq_some_iff.1 h
     cases e1
     have hg := Nat.eq_of_beq_eq_true hg
     subst hg
     exact ⟨u, _, rfl, hr, capArg_rep hob hp hy hk⟩
   · cases h
 · exact ptrArg_rep hob hp h hk hr
theorem toArgP_rep {ob : Nat → Option Ob} (hob : ∀ κ o, ob κ = some o → RepOb w R Pr κ o) (hp : ∀ b, Pr b → Pr' b) {p : PT} {v : AV} {u : Value} {acc : List Nat} {x : p.2.D} (h : toArgP ob p v = some (acc, x)) (hk : ∀ κ ∈ acc, ∀ o, ob κ = some o → real R κ o → Pr' (R κ).blk) (hr : RepA w R Pr v u) : RepV w Pr' p x u := by
 unfold toArgP at h
 split at h
 · rename_i r hr2
   cases h
   exact toArg_rep hob hp hr2 (fun κ hκ e l ho hre => hk κ hκ _ ho hre) hr
 · split at h
   · rename_i c hp1 _
     unfold RepV
     rw [hp1]
     exact mapArg_rep hob hp h hk hr
   · cases h
theorem toArgs_rep {ob : Nat → Option Ob} (hob : ∀ κ o, ob κ = some o → RepOb w R Pr κ o) (hp : ∀ b, Pr b → Pr' b) : ∀ {sig : List PT} {vs : List AV} {us : List Value} {acc : List Nat} {xs : DL sig}, toArgs ob sig vs = some (acc, xs) → (∀ κ ∈ acc, ∀ o, ob κ = some o → real R κ o → Pr' (R κ).blk) → All2 (RepA w R Pr) vs us → RepArgs w Pr' sig xs us
 | [], [], [], _, _, _, _, _ => rfl
 | p :: sig, v :: vs, u :: us, acc, xs, h, hk, hr => by
   simp only [toArgs] at h
   split at h
   · rename_i k1 x k2 ys h1 h2
     cases h
     exact ⟨u, us, rfl, toArgP_rep hob hp h1 (fun κ hκ => hk κ (List.mem_append_left _ hκ)) hr.1, toArgs_rep hob hp h2 (fun κ hκ => hk κ (List.mem_append_right _ hκ)) hr.2⟩
   · cases h
 | [], [], _ :: _, _, _, _, _, hr => hr.elim
 | [], _ :: _, _, _, _, h, _, _ => by simp [toArgs] at h
 | _ :: _, [], _, _, _, h, _, _ => by simp [toArgs] at h
 | _ :: _, _ :: _, [], _, _, _, _, hr => hr.elim
theorem takeF_rep {ob : Nat → Option Ob} (hob : ∀ κ o, ob κ = some o → RepOb w R Pr κ o) (hp : ∀ b, Pr b → Pr' b) : ∀ {ks : List Nat} {fs : List LF} {cs : List C} {us : List Value} {acc : List Nat} {x : LFD fs}, takeF ob ks fs cs = some (acc, x) → (∀ κ ∈ acc, ∀ e l, ob κ = some (.vec e l) → real R κ (.vec e l) → Pr' (R κ).blk) → All2 (RepC w R Pr) cs us → All2 (RepC w R Pr') (cellsF ks fs x) us
 | ks, [], [], us, acc, x, h, hk, hr => by
   cases us with
   | nil => simp only [cellsF]; trivial
   | cons _ _ => exact hr.elim
 | ks, [], _ :: _, us, acc, x, h, hk, hr => by simp [takeF] at h
 | ks, .d τ :: r, cs, us, acc, x, h, hk, hr => by
   simp only [takeF] at h
   split at h
   · rename_i x1 a1 y1 h1 h2
     cases h
     have h4 := unowns_rep hob hp (fun κ hκ => hk κ (List.mem_append_left _ hκ)) (hr.take τ.n)
     obtain ⟨u1, u2, hu12, k1, k2⟩ := of_rep h1 h4
     have hu2 : u2 = [] := by
      cases u2 with
      | nil => rfl
      | cons _ _ => exact k2.elim
     subst hu2
     simp only [List.append_nil] at hu12
     have h5 := takeF_rep hob hp h2 (fun κ hκ => hk κ (List.mem_append_right _ hκ)) (hr.drop τ.n)
     have h6 : All2 (RepC w R Pr') (τ.cells x1) (us.take τ.n) := by rw [hu12]; exact cells_rep k1
     have h7 := h6.append h5
     rw [List.take_append_drop] at h7
     exact h7
   · cases h
 | k :: ks, .o :: r, c :: cs, us, acc, x, h, hk, hr => by
   cases c with
   | own κ =>
     simp only [takeF] at h
     split at h
     · rename_i e
       have e := Nat.eq_of_beq_eq_true e
       subst e
       cases us with
       | nil => exact hr.elim
       | cons u us => exact ⟨hr.1, takeF_rep hob hp h hk hr.2⟩
     · cases h
   | _ => simp [takeF] at h
 | [], .o :: r, _, us, acc, x, h, hk, hr => by simp [takeF] at h
 | _ :: _, .o :: r, [], us, acc, x, h, hk, hr => by simp [takeF] at h
def SameB (o o' : Ob) : Prop := (∀ (R : Nat → RL) κ, real R κ o ↔ real R κ o') ∧ ∀ w (R : Nat → RL) κ b, Inn w R κ o b ↔ Inn w R κ o' b
theorem SameB.rfl' (o : Ob) : SameB o o := ⟨fun _ _ => Iff.rfl, fun _ _ _ _ => Iff.rfl⟩
theorem SameB.box (cs ds : List C) : SameB (.box cs) (.box ds) := ⟨fun _ _ => Iff.rfl, fun _ _ _ _ => Iff.rfl⟩
theorem SameB.trans {o1 o2 o3 : Ob} (h : SameB o1 o2) (k : SameB o2 o3) : SameB o1 o3 := ⟨fun R κ => (h.1 R κ).trans (k.1 R κ), fun w R κ b => (h.2 w R κ b).trans (k.2 w R κ b)⟩
theorem SameB.symm {o1 o2 : Ob} (h : SameB o1 o2) : SameB o2 o1 := ⟨fun R κ => (h.1 R κ).symm, fun w R κ b => (h.2 w R κ b).symm⟩
theorem SameB.occ {o o' : Ob} (h : SameB o o') {w : World} {R : Nat → RL} {κ b : Nat} : Occ w R κ o b ↔ Occ w R κ o' b := by
 unfold Occ; rw [h.1 R κ, h.2 w R κ b]
theorem takeO_rep {ob : Nat → Option Ob} (hob : ∀ κ o, ob κ = some o → RepOb w R Pr κ o) (hp : ∀ b, Pr b → Pr' b) {ks : List Nat} {κ : Nat} {o : LO} {acc : List Nat} {x : o.D} (h : takeO ob ks κ o = some (acc, x)) (hk : ∀ κ ∈ acc, ∀ e l, ob κ = some (.vec e l) → real R κ (.vec e l) → Pr' (R κ).blk) :
 RepOb w R Pr' κ (o.ob ks x) ∧ ∃ o1, ob κ = some o1 ∧ SameB (o.ob ks x) o1 := by
 cases o with
 | box fs =>
   cases ho : ob κ with
   | none => simp only [takeO, ho] at h; exact absurd h (by simp)
   | some o1 =>
     cases o1 with
     | box cs =>
       simp only [takeO, ho] at h
       obtain ⟨el, vs, h1, h2⟩ := hob κ _ ho
       exact ⟨⟨el, vs, h1, takeF_rep hob hp h hk h2⟩, _, rfl, SameB.box _ _⟩
     | _ => simp only [takeO, ho] at h; exact absurd h (by simp)
 | row e =>
   simp only [takeO] at h
   split at h
   · rename_i e' l ho
     revert h
     generalize Ty.dec e' e = d
     intro h
     cases d with
     | isFalse _ => cases h
     | isTrue he =>
       subst he; cases h
       exact ⟨RepOb.move (fun _ _ => rfl) hp (fun _ => rfl) rfl (fun _ _ => rfl) (hob κ _ ho), _, ho, SameB.rfl' _⟩
   · cases h
 | rows e =>
   simp only [takeO] at h
   split at h
   · rename_i e' l ho
     revert h
     generalize Ty.dec e' e = d
     intro h
     cases d with
     | isFalse _ => cases h
     | isTrue he =>
       subst he; cases h
       exact ⟨RepOb.move (fun _ _ => rfl) hp (fun _ => rfl) rfl (fun _ _ => rfl) (hob κ _ ho), _, ho, SameB.rfl' _⟩
   · cases h
 | map K V =>
   simp only [takeO] at h
   split at h
   · rename_i K' V' l ho
     revert h
     generalize Ty.dec (.map K' V') (.map K V) = d
     intro h
     cases d with
     | isFalse _ => cases h
     | isTrue he =>
       injection he with e1 e2
       subst e1 e2
       cases h
       exact ⟨RepOb.move (fun _ _ => rfl) hp (fun _ => rfl) rfl (fun _ _ => rfl) (hob κ _ ho) (fun _ z => by obtain ⟨_, _, z, _⟩ := z; cases z), _, ho, SameB.rfl' _⟩
   · cases h
theorem takeL_len {ob : Nat → Option Ob} {ks : List Nat} : ∀ {κs : List Nat} {ls : List LO} {acc : List Nat} {x : LOD ls}, takeL ob ks κs ls = some (acc, x) → κs.length = ls.length
 | [], [], _, _, _ => rfl
 | κ :: κs, o :: ls, acc, x, h => by
   simp only [takeL] at h
   split at h
   · rename_i a x1 b y1 h1 h2
     simp [takeL_len h2]
   · cases h
 | [], _ :: _, _, _, h => by simp [takeL] at h
 | _ :: _, [], _, _, h => by simp [takeL] at h
theorem cellsF_refs : ∀ (ks : List Nat) (fs : List LF) (x : LFD fs) (c : C), c ∈ cellsF ks fs x → ∀ κ ∈ c.refs, κ ∈ ks
 | ks, [], x, c, hc, κ, hκ => by simp [cellsF] at hc
 | ks, .d τ :: r, x, c, hc, κ, hκ => by
   simp only [cellsF, List.mem_append] at hc
   rcases hc with hc | hc
   · rw [cells_refs _ _ c hc] at hκ; cases hκ
   · exact cellsF_refs ks r x.2 c hc κ hκ
 | k :: ks, .o :: r, x, c, hc, κ, hκ => by
   simp only [cellsF, List.mem_cons] at hc
   rcases hc with rfl | hc
   · simp only [C.refs, List.mem_singleton] at hκ; subst hκ; exact List.mem_cons_self ..
   · exact List.mem_cons_of_mem _ (cellsF_refs ks r x c hc κ hκ)
 | [], .o :: r, x, c, hc, κ, hκ => by
   simp only [cellsF, List.mem_cons] at hc
   rcases hc with rfl | hc
   · simp [C.refs] at hκ
   · exact cellsF_refs [] r x c hc κ hκ
theorem ob_refs {ks : List Nat} {o : LO} {x : o.D} {κ : Nat} (h : κ ∈ (o.ob ks x).refs) : κ ∈ ks := by
 cases o with
 | box fs =>
   obtain ⟨c, hc, hk⟩ := List.mem_flatMap.1 h
   exact cellsF_refs ks fs x c hc κ hk
 | row e => simp [LO.ob, Ob.refs] at h
 | rows e => simp [LO.ob, Ob.refs] at h
 | map K V => simp [LO.ob, Ob.refs] at h
theorem obsL_keys {ks : List Nat} : ∀ {κs : List Nat} {ls : List LO} (x : LOD ls), κs.length = ls.length → (obsL ks κs ls x).map (·.1) = κs
 | [], [], _, _ => rfl
 | κ :: κs, o :: ls, x, h => by simp only [obsL, List.map_cons]; rw [obsL_keys x.2 (by simpa using h)]
 | [], _ :: _, _, h => by simp at h
 | _ :: _, [], _, h => by simp at h
theorem obsL_at {ks : List Nat} : ∀ {κs : List Nat} {ls : List LO} {x : LOD ls} {i κ : Nat} {o : Ob}, (obsL ks κs ls x)[i]? = some (κ, o) → κs[i]? = some κ ∧ i < ls.length ∧ ∀ κ' ∈ o.refs, κ' ∈ ks
 | κ0 :: κs, o0 :: ls, x, i, κ, o, h => by
   cases i with
   | zero =>
     simp only [obsL, List.getElem?_cons_zero, Option.some.injEq, Prod.mk.injEq] at h
     obtain ⟨rfl, rfl⟩ := h
     exact ⟨rfl, by simp, fun κ' hκ => ob_refs hκ⟩
   | succ i =>
     simp only [obsL, List.getElem?_cons_succ] at h
     obtain ⟨h1, h2, h3⟩ := obsL_at h
     exact ⟨by simpa using h1, by simpa using h2, h3⟩
 | _, [], _, _, _, _, h => by cases ‹List Nat› <;> simp [obsL] at h
 | [], _ :: _, _, _, _, _, h => by simp [obsL] at h
theorem takeL_at {ob : Nat → Option Ob} (hob : ∀ κ o, ob κ = some o → RepOb w R Pr κ o) (hp : ∀ b, Pr b → Pr' b) {ks : List Nat} : ∀ {κs : List Nat} {ls : List LO} {acc : List Nat} {x : LOD ls}, takeL ob ks κs ls = some (acc, x) → (∀ κ ∈ acc, ∀ e l, ob κ = some (.vec e l) → real R κ (.vec e l) → Pr' (R κ).blk) →
 ∀ {i κ : Nat} {o : Ob}, (obsL ks κs ls x)[i]? = some (κ, o) → RepOb w R Pr' κ o ∧ ∃ o1, ob κ = some o1 ∧ SameB o o1
 | κ0 :: κs, o0 :: ls, acc, x, h, hk, i, κ, o, hi => by
   simp only [takeL] at h
   split at h
   · rename_i a x1 b y1 h1 h2
     cases h
     cases i with
     | zero =>
       simp only [obsL, List.getElem?_cons_zero, Option.some.injEq, Prod.mk.injEq] at hi
       obtain ⟨rfl, rfl⟩ := hi
       exact takeO_rep hob hp h1 (fun κ hκ => hk κ (List.mem_append_left _ hκ))
     | succ i =>
       simp only [obsL, List.getElem?_cons_succ] at hi
       exact takeL_at hob hp h2 (fun κ hκ => hk κ (List.mem_append_right _ hκ)) hi
   · cases h
 | [], [], _, x, _, _, i, κ, o, hi => by simp [obsL] at hi
 | [], _ :: _, _, _, h, _, _, _, _, _ => by simp [takeL] at h
 | _ :: _, [], _, _, h, _, _, _, _, _ => by simp [takeL] at h
theorem cellsF_relabel {R R' : Nat → RL} : ∀ {ks ks' : List Nat} {fs : List LF} {x : LFD fs} {us : List Value}, All2 (fun k k' => R' k' = R k) ks ks' → All2 (RepC w R Pr) (cellsF ks fs x) us → All2 (RepC w R' Pr) (cellsF ks' fs x) us
 | ks, ks', [], x, us, hk, h => by simpa only [cellsF] using h.mono (fun a ha b hb => by simp [cellsF] at ha)
 | ks, ks', .d τ :: r, x, us, hk, h => by
   simp only [cellsF] at h ⊢
   have h1 := h.take (τ.cells x.1).length
   have h2 := h.drop (τ.cells x.1).length
   rw [List.take_left] at h1
   rw [List.drop_left] at h2
   have h3 := (h1.mono (s := RepC w R' Pr) (fun c hc u hu => RepC.move (fun _ _ => rfl) (fun _ h => h) (fun κ hκ => by rw [cells_refs _ _ c hc] at hκ; cases hκ) hu)).append (cellsF_relabel hk h2)
   rw [List.take_append_drop] at h3
   exact h3
 | k :: ks, k' :: ks', .o :: r, x, us, hk, h => by
   cases us with
   | nil => exact h.elim
   | cons u us =>
     refine ⟨?_, cellsF_relabel hk.2 h.2⟩
     have : u = (R k).hdr := h.1
     show u = (R' k').hdr
     rw [this, hk.1]
 | [], [], .o :: r, x, us, hk, h => by
   cases us with
   | nil => exact h.elim
   | cons u us => exact ⟨trivial, cellsF_relabel (ks := []) (ks' := []) trivial h.2⟩
 | [], _ :: _, .o :: r, x, us, hk, h => hk.elim
 | _ :: _, [], .o :: r, x, us, hk, h => hk.elim
theorem RepOb.relabel {R R' : Nat → RL} {κ κ' : Nat} {ks ks' : List Nat} {o : LO} {x : o.D} (hκ : R' κ' = R κ) (hk : All2 (fun k k' => R' k' = R k) ks ks') (h : RepOb w R Pr κ (o.ob ks x)) : RepOb w R' Pr κ' (o.ob ks' x) := by
 cases o with
 | box fs =>
   obtain ⟨el, vs, h1, h2⟩ := h
   exact ⟨el, vs, by rw [hκ]; exact h1, cellsF_relabel hk h2⟩
 | row e =>
   simp only [LO.ob, RepOb] at h ⊢
   rw [hκ]; exact h
 | rows e =>
   simp only [LO.ob, RepOb] at h ⊢
   rw [hκ]; exact h
 | map K V =>
   obtain ⟨es, clock, h1, h2, h3, h4, _⟩ := h
   exact ⟨es, clock, by rw [hκ]; exact h1, h2, h3, h4, fun _ _ _ z => by cases z⟩
theorem same_relabel {R R' : Nat → RL} {κ κ' : Nat} {ks ks' : List Nat} {o : LO} {x : o.D} (hκ : R' κ' = R κ) : (real R' κ' (o.ob ks' x) ↔ real R κ (o.ob ks x)) ∧ ∀ w b, Inn w R' κ' (o.ob ks' x) b ↔ Inn w R κ (o.ob ks x) b := by
 cases o with
 | box fs => exact ⟨Iff.rfl, fun _ _ => Iff.rfl⟩
 | row e => simp only [LO.ob, real, Inn, hκ, implies_true, and_self]
 | rows e => simp only [LO.ob, real, Inn, hκ, implies_true, and_self]
 | map K V => exact ⟨Iff.rfl, fun _ _ => ⟨fun ⟨_, _, z, _⟩ => (by cases z), fun ⟨_, _, z, _⟩ => (by cases z)⟩⟩
theorem obsL_relabel {R R' : Nat → RL} {ks ks' : List Nat} (hk : All2 (fun k k' => R' k' = R k) ks ks') : ∀ {κs κs' : List Nat} {ls : List LO} {x : LOD ls}, All2 (fun k k' => R' k' = R k) κs κs' → ∀ {i κ' : Nat} {o' : Ob}, (obsL ks' κs' ls x)[i]? = some (κ', o') →
 ∃ κ o, (obsL ks κs ls x)[i]? = some (κ, o) ∧ R' κ' = R κ ∧ (∀ w Pr, RepOb w R Pr κ o → RepOb w R' Pr κ' o') ∧ (real R' κ' o' ↔ real R κ o) ∧ ∀ w b, Inn w R' κ' o' b ↔ Inn w R κ o b
 | κ0 :: κs, κ0' :: κs', o0 :: ls, x, hκ, i, κ', o', h => by
   cases i with
   | zero =>
     simp only [obsL, List.getElem?_cons_zero, Option.some.injEq, Prod.mk.injEq] at h
     obtain ⟨rfl, rfl⟩ := h
     exact ⟨κ0, _, rfl, hκ.1, fun _ _ g => RepOb.relabel hκ.1 hk g, same_relabel hκ.1⟩
   | succ i =>
     simp only [obsL, List.getElem?_cons_succ] at h ⊢
     exact obsL_relabel hk hκ.2 h
 | _, _, [], _, _, _, _, _, h => by rename_i κs _; cases κs <;> simp [obsL] at h
 | _, [], _ :: _, _, _, _, _, _, h => by simp [obsL] at h
 | [], _ :: _, _ :: _, _, hκ, _, _, _, _ => hκ.elim
theorem occ_of {R R' : Nat → RL} {κ κ' b : Nat} {o o' : Ob} (h1 : R' κ' = R κ) (h2 : real R' κ' o' ↔ real R κ o) (h3 : Inn w R' κ' o' b ↔ Inn w R κ o b) : Occ w R' κ' o' b ↔ Occ w R κ o b := by
 unfold Occ; rw [h1, h2, h3]
theorem Sep.relabel {R R' : Nat → RL} {ks ks' κs κs' : List Nat} {ls : List LO} {x : LOD ls} (hk : All2 (fun k k' => R' k' = R k) ks ks') (hκ : All2 (fun k k' => R' k' = R k) κs κs') (h : Sep w R Pr (obsL ks κs ls x)) : Sep w R' Pr (obsL ks' κs' ls x) where
 ob i κ' o' hi := by
  obtain ⟨κ, o, g1, g2, g3, _⟩ := obsL_relabel hk hκ hi
  exact g3 w Pr (h.ob i κ o g1)
 un i κ' o' b hi hoc := by
  obtain ⟨κ, o, g1, g2, _, g4, g5⟩ := obsL_relabel hk hκ hi
  exact h.un i κ o b g1 ((occ_of g2 g4 (g5 w b)).1 hoc)
 ds i j κ' o' κ2' o2' b hi hj hne hoc hoc2 := by
  obtain ⟨κ, o, g1, g2, _, g4, g5⟩ := obsL_relabel hk hκ hi
  obtain ⟨κ2, o2, k1, k2, _, k4, k5⟩ := obsL_relabel hk hκ hj
  exact h.ds i j κ o κ2 o2 b g1 k1 hne ((occ_of g2 g4 (g5 w b)).1 hoc) ((occ_of k2 k4 (k5 w b)).1 hoc2)
 own i κ' o' hi hre hin := by
  obtain ⟨κ, o, g1, g2, _, g4, g5⟩ := obsL_relabel hk hκ hi
  exact h.own i κ o g1 (g4.1 hre) (by rw [← g2]; exact (g5 w _).1 hin)
theorem Bl.relabel {R R' : Nat → RL} {ks ks' κs κs' : List Nat} {ls : List LO} {x : LOD ls} {b : Nat} (hk : All2 (fun k k' => R' k' = R k) ks ks') (hκ : All2 (fun k k' => R' k' = R k) κs κs') (h : Bl w R' (obsL ks' κs' ls x) b) : Bl w R (obsL ks κs ls x) b := by
 obtain ⟨i, κ', o', hi, hoc⟩ := h
 obtain ⟨κ, o, g1, g2, _, g4, g5⟩ := obsL_relabel hk hκ hi
 exact ⟨i, κ, o, g1, (occ_of g2 g4 (g5 w b)).1 hoc⟩
end
end Go.Rx
