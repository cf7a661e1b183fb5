/- Reflection, part N: contracts over plain data; a call of such a function. -/
import Derived.Test.YtoebjlimpnmaoaaRxM
namespace Go.Rx
set_option linter.unusedVariables false
set_option linter.unusedSimpArgs false
set_option linter.unusedSectionVars false

abbrev PT := Bool × Ty
def DL : List PT → Type
  | [] => Unit
  | p :: r => p.2.D × DL r
inductive RT where
  | d (agg : Bool) (τ : Ty)
  | new (e : Ty)
def RT.D : RT → Type
  | .d _ τ => τ.D
  | .new e => List e.D
def RDL : List RT → Type
  | [] => Unit
  | p :: r => p.D × RDL r

def RepV (w : World) (Pr : Nat → Prop) (p : PT) (x : p.2.D) (v : Value) : Prop :=
  match p.1 with
  | true => ∃ us, v = .agg us ∧ RepTy w Pr p.2 x us.toList
  | false => RepTy w Pr p.2 x [v]
def RepArgs (w : World) (Pr : Nat → Prop) : (sig : List PT) → DL sig → List Value → Prop
  | [], _, vs => vs = []
  | p :: r, xs, vs => ∃ v us, vs = v :: us ∧ RepV w Pr p xs.1 v ∧ RepArgs w Pr r xs.2 us
/-- A fresh row of data, which nobody else refers to. -/
def RepNew (w : World) (n : Nat) (Pr : Nat → Prop) (e : Ty) (l : List e.D) (v : Value) (blk : Nat) : Prop :=
  (v = .slice none 0 0 ∧ l = []) ∨ ∃ off cap cells el, v = .slice (some ⟨blk, off, none⟩) l.length cap ∧ l.length ≤ cap ∧ w.heap[blk]? = some (.cells cells el (0, 0)) ∧ off + cap * e.n ≤ cells.size ∧ n ≤ blk ∧ ¬ Pr blk ∧
    ∀ i y, l[i]? = some y → ∃ us, At cells (off + i * e.n) us ∧ RepTy w Pr e y us
def RepRets (w : World) (n : Nat) (Pr : Nat → Prop) : (rs : List RT) → RDL rs → List Value → List Nat → Prop
  | [], _, vs, _ => vs = []
  | .d agg τ :: r, xs, vs, bs => ∃ v us, vs = v :: us ∧ RepV w Pr (agg, τ) xs.1 v ∧ RepRets w n Pr r xs.2 us bs
  | .new e :: r, xs, vs, bs => ∃ v us blk, vs = v :: us ∧ RepNew w n Pr e xs.1 v blk ∧ (v ≠ .slice none 0 0 → blk ∉ bs) ∧ RepRets w n Pr r xs.2 us (blk :: bs)
def packV : List Value → Value
  | [v] => v
  | vs => .tuple vs.toArray

def PureOK (P : Program) (f : FuncId) (sig : List PT) (rs : List RT) (fn : DL sig → Option (RDL rs)) : Prop :=
  ∀ xs r, fn xs = some r → ∀ (w : World) (Pr : Nat → Prop) (vs : List Value), (∀ b, Pr b → b < w.heap.size) → RepArgs w Pr sig xs vs →
    Calls P f vs.toArray w fun e w' => ∃ Pr' us, e = .returned (packV us) ∧ (∀ b, b < w.heap.size → w'.heap[b]? = w.heap[b]?) ∧ Grow w w' ∧ (∀ b, Pr b → Pr' b) ∧
      (∀ b, Pr' b → b < w.heap.size → Pr b) ∧ (∀ b, Pr' b → b < w'.heap.size) ∧ RepRets w' w.heap.size Pr' rs r us []
structure Con where
  sig : List PT
  rs : List RT
  fn : DL sig → Option (RDL rs)
/-! ### What a function is lent -/
/-- A field of a struct that is lent: data, or a row that is lent as well. -/
inductive LF where
  | d (τ : Ty)
  | o
/-- What is lent: a variable, or a row. -/
inductive LO where
  | box (fs : List LF)
  | row (e : Ty)
def LFD : List LF → Type
  | [] => Unit
  | .d τ :: r => τ.D × LFD r
  | .o :: r => LFD r
def LO.D : LO → Type
  | .box fs => LFD fs
  | .row e => List e.D
def LOD : List LO → Type
  | [] => Unit
  | o :: r => o.D × LOD r
def cellsF : List Nat → (fs : List LF) → LFD fs → List C
  | _, [], _ => []
  | ks, .d τ :: r, x => τ.cells x.1 ++ cellsF ks r x.2
  | k :: ks, .o :: r, x => .own k :: cellsF ks r x
  | [], .o :: r, x => .any :: cellsF [] r x
def LO.ob (ks : List Nat) : (o : LO) → o.D → Ob
  | .box fs, x => .box (cellsF ks fs x)
  | .row e, l => .vec e l
def obsL (ks : List Nat) : List Nat → (ls : List LO) → LOD ls → List (Nat × Ob)
  | κ :: κs, o :: r, x => (κ, o.ob ks x.1) :: obsL ks κs r x.2
  | _, [], _ => []
  | [], _ :: _, _ => []
def RepLs (w : World) (R : Nat → RL) (Pr : Nat → Prop) (ks : List Nat) : List Nat → (ls : List LO) → LOD ls → Prop
  | κ :: κs, o :: r, x => RepOb w R Pr κ (o.ob ks x.1) ∧ RepLs w R Pr ks κs r x.2
  | [], [], _ => True
  | _ :: _, [], _ => False
  | [], _ :: _, _ => False
def realO (R : Nat → RL) (κ : Nat) : LO → Prop
  | .box _ => True
  | .row _ => (R κ).hdr ≠ .slice none 0 0
theorem real_ob {R : Nat → RL} {κ : Nat} {ks : List Nat} {o : LO} {x : o.D} : real R κ (o.ob ks x) ↔ realO R κ o := by cases o <;> exact Iff.rfl
/-- A block is not one of those that are lent. -/
def OffL (R : Nat → RL) (b : Nat) : List Nat → List LO → Prop
  | κ :: κs, o :: r => (realO R κ o → b ≠ (R κ).blk) ∧ OffL R b κs r
  | _, _ => True
def ApartL (R : Nat → RL) (Pr : Nat → Prop) : List Nat → List LO → Prop
  | κ :: κs, o :: r => (realO R κ o → ¬ Pr (R κ).blk ∧ OffL R (R κ).blk κs r) ∧ ApartL R Pr κs r
  | _, _ => True
def rg (ls : List LO) : List Nat := List.range' 0 ls.length
def headV (R : Nat → RL) (κ : Nat) : List LO → Value
  | .box _ :: _ => .pointer (some ⟨(R κ).blk, 0, none⟩)
  | .row _ :: _ => (R κ).hdr
  | [] => undef
/-- A function that is lent a variable or a row of the caller's (with rows that it refers to), which it may write: its argument number pos. -/
def BoxOK (P : Program) (f : FuncId) (pos : Nat) (ls : List LO) (sig : List PT) (rs : List RT) (fn : LOD ls → DL sig → Option (LOD ls × RDL rs)) : Prop :=
  ∀ x xs y r, fn x xs = some (y, r) → ∀ (w : World) (Pr : Nat → Prop) (vs : List Value) (Lo : Nat → RL), (∀ b, Pr b → b < w.heap.size) → RepLs w Lo Pr (rg ls).tail (rg ls) ls x → ApartL Lo Pr (rg ls) ls → RepArgs w Pr sig xs vs →
    Calls P f (vs.take pos ++ headV Lo 0 ls :: vs.drop pos).toArray w fun e w' => ∃ Pr' rv, e = .returned (packV rv) ∧ (∀ b, b < w.heap.size → OffL Lo b (rg ls) ls → w'.heap[b]? = w.heap[b]?) ∧ Grow w w' ∧ (∀ b, Pr b → Pr' b) ∧
      (∀ b, Pr' b → b < w.heap.size → Pr b) ∧ (∀ b, Pr' b → b < w'.heap.size) ∧ RepLs w' Lo Pr' (rg ls).tail (rg ls) ls y ∧ RepRets w' w.heap.size Pr' rs r rv []
structure BCon where
  pos : Nat
  ls : List LO
  sig : List PT
  rs : List RT
  fn : LOD ls → DL sig → Option (LOD ls × RDL rs)
inductive ECon where
  | c (c : Con)
  | b (c : BCon)
abbrev Env := List (FuncId × ECon)
def Env.get : Env → FuncId → Option Con
  | [], _ => none
  | (g, .c c) :: r, f => if f = g then some c else Env.get r f
  | (_, .b _) :: r, f => Env.get r f
def Env.getB : Env → FuncId → Option BCon
  | [], _ => none
  | (g, .b c) :: r, f => if f = g then some c else Env.getB r f
  | (_, .c _) :: r, f => Env.getB r f
def EnvOK (P : Program) : Env → Prop
  | [] => True
  | (f, .c c) :: r => PureOK P f c.sig c.rs c.fn ∧ EnvOK P r
  | (f, .b c) :: r => BoxOK P f c.pos c.ls c.sig c.rs c.fn ∧ EnvOK P r
theorem EnvOK.get {P : Program} : ∀ {E : Env} {f : FuncId} {c : Con}, EnvOK P E → E.get f = some c → PureOK P f c.sig c.rs c.fn
  | [], _, _, _, h => by cases h
  | (g, .c d) :: r, f, c, h, hg => by
    simp only [Env.get] at hg
    split at hg
    · rename_i e; subst e; cases hg; exact h.1
    · exact EnvOK.get h.2 hg
  | (g, .b d) :: r, f, c, h, hg => EnvOK.get (E := r) h.2 hg
theorem EnvOK.getB {P : Program} : ∀ {E : Env} {f : FuncId} {c : BCon}, EnvOK P E → E.getB f = some c → BoxOK P f c.pos c.ls c.sig c.rs c.fn
  | [], _, _, _, h => by cases h
  | (g, .b d) :: r, f, c, h, hg => by
    simp only [Env.getB] at hg
    split at hg
    · rename_i e; subst e; cases hg; exact h.1
    · exact EnvOK.getB h.2 hg
  | (g, .c d) :: r, f, c, h, hg => EnvOK.getB (E := r) h.2 hg

def unown (ob : Nat → Option Ob) : C → List Nat × C
  | .own κ => match ob κ with
    | some (.vec e l) => ([κ], .val false e l)
    | _ => ([κ], .own κ)
  | c => ([], c)
def unowns (ob : Nat → Option Ob) : List C → List Nat × List C
  | [] => ([], [])
  | c :: cs => ((unown ob c).1 ++ (unowns ob cs).1, (unown ob c).2 :: (unowns ob cs).2)
def isAggCp : Cp → Bool
  | .one _ => false
  | .agg _ => true
def toArg (ob : Nat → Option Ob) (p : PT) : AV → Option (List Nat × p.2.D)
  | .cp x => match isAggCp x, p.1, cpCells x with
    | true, true, some cs => match p.2.of (unowns ob cs).2 with
      | some (y, []) => some ((unowns ob cs).1, y)
      | _ => none
    | false, false, some cs => match p.2.of (unowns ob cs).2 with
      | some (y, []) => some ((unowns ob cs).1, y)
      | _ => none
    | _, _, _ => none
  | .tup _ => none
def toArgs (ob : Nat → Option Ob) : (sig : List PT) → List AV → Option (List Nat × DL sig)
  | [], [] => some ([], ())
  | p :: r, v :: vs => match toArg ob p v, toArgs ob r vs with
    | some (k1, x), some (k2, xs) => some (k1 ++ k2, (x, xs))
    | _, _ => none
  | _, _ => none
def Ty.solid : Ty → Bool
  | .pair a b => a.solid && b.solid
  | .sl _ _ => false
  | _ => true
def RT.solid : RT → Bool
  | .d _ τ => τ.solid
  | .new e => e.solid
def frzs : List Nat → St → St
  | [], σ => σ
  | κ :: r, σ => frzs r (σ.frz κ)
def rets (N d : Nat) : Nat → (rs : List RT) → RDL rs → Option (List Cp × List (Nat × Ob))
  | _, [], _ => some ([], [])
  | i, .d true τ :: r, xs => match rets N d i r xs.2 with
    | some (cs, ns) => some (.agg (τ.cells xs.1) :: cs, ns)
    | none => none
  | i, .d false τ :: r, xs => match τ.cells xs.1, rets N d i r xs.2 with
    | [c], some (cs, ns) => some (.one c :: cs, ns)
    | _, _ => none
  | i, .new e :: r, xs => match rets N d (i + 1) r xs.2 with
    | some (cs, ns) => some (.one (.own (d + i * N)) :: cs, (d + i * N, .vec e xs.1) :: ns)
    | none => none
/-- New objects, where nothing is as yet. -/
def St.adds (σ : St) : List (Nat × Ob) → Option St
  | [] => some σ
  | (κ, o) :: r => match okK κ σ.objs.length, σ.ob κ with
    | true, none => St.adds (σ.setOb κ (some o)) r
    | _, _ => none
def packA : List Cp → AV
  | [c] => .cp c
  | cs => .tup cs
def frzIf (rs : List RT) (acc : List Nat) (σ : St) : St :=
  match acc with
  | [] => σ
  | _ :: _ => match rs.all RT.solid with
    | true => σ
    | false => frzs acc σ
def callPre (σ : St) (c : Con) (args : List AV) : Option (List Nat × St × DL c.sig) :=
  match toArgs σ.ob c.sig args with
  | some (acc, xs) => some (acc, frzIf c.rs acc σ, xs)
  | none => none
def callPost (σ : St) (dst : Option Nat) (rs : List RT) (r : RDL rs) : Option (St × AV × List (Nat × Ob)) :=
  match rets σ.tmps.length (dst.getD 0) 0 rs r with
  | some (cs, ns) => match σ.adds ns with
    | some σ' => some (σ', packA cs, ns)
    | none => none
  | none => none
def okR : List Nat → List Nat → Bool
  | _, [] => true
  | vs, κ :: ns => !vs.contains κ && !ns.contains κ && okR vs ns
theorem okR_spec : ∀ {vs ns : List Nat}, okR vs ns = true → ns.Nodup ∧ ∀ κ ∈ ns, κ ∉ vs
  | vs, [], _ => ⟨List.nodup_nil, fun κ hκ => by cases hκ⟩
  | vs, κ :: ns, h => by
    simp only [okR, Bool.and_eq_true, Bool.not_eq_true', List.contains_eq_mem, decide_eq_false_iff_not] at h
    obtain ⟨k1, k2⟩ := okR_spec h.2
    refine ⟨List.nodup_cons.2 ⟨h.1.2, k1⟩, fun κ' hκ => ?_⟩
    rcases List.mem_cons.1 hκ with rfl | hκ
    · exact h.1.1
    · exact k2 κ' hκ
/-- The cells of a struct, read as its fields. -/
def takeF (ob : Nat → Option Ob) : List Nat → (fs : List LF) → List C → Option (List Nat × LFD fs)
  | _, [], [] => some ([], ())
  | ks, .d τ :: r, cs => match τ.of (unowns ob (cs.take τ.n)).2, takeF ob ks r (cs.drop τ.n) with
    | some (x, []), some (a, y) => some ((unowns ob (cs.take τ.n)).1 ++ a, (x, y))
    | _, _ => none
  | k :: ks, .o :: r, .own κ :: cs => match κ.beq k with
    | true => takeF ob ks r cs
    | false => none
  | _, _, _ => none
/-- The rows that a struct's fields refer to. -/
def keysF : List LF → List C → List Nat
  | .d τ :: r, cs => keysF r (cs.drop τ.n)
  | .o :: r, .own κ :: cs => κ :: keysF r cs
  | _, _ => []
def takeO (ob : Nat → Option Ob) (ks : List Nat) (κ : Nat) : (o : LO) → Option (List Nat × o.D)
  | .box fs => match ob κ with
    | some (.box cs) => takeF ob ks fs cs
    | _ => none
  | .row e => match ob κ with
    | some (.vec e' l) => match Ty.dec e' e with
      | isTrue h => some ([], (h ▸ l : List e.D))
      | isFalse _ => none
    | _ => none
def takeL (ob : Nat → Option Ob) (ks : List Nat) : List Nat → (ls : List LO) → Option (List Nat × LOD ls)
  | κ :: κs, o :: r => match takeO ob ks κ o, takeL ob ks κs r with
    | some (a, x), some (b, y) => some (a ++ b, (x, y))
    | _, _ => none
  | [], [] => some ([], ())
  | _, _ => none
/-- The keys of what is lent, out of the first one. -/
def rowKeys (ob : Nat → Option Ob) (κ : Nat) : List LO → List Nat
  | .box fs :: _ => match ob κ with
    | some (.box cs) => keysF fs cs
    | _ => []
  | _ => []
/-- What is lent, and the other arguments. -/
def callPreB (σ : St) (c : BCon) (κ : Nat) (args : List AV) : Option (List Nat × List Nat × LOD c.ls × DL c.sig) :=
  match takeL σ.ob (rowKeys σ.ob κ c.ls) (κ :: rowKeys σ.ob κ c.ls) c.ls, toArgs σ.ob c.sig args with
  | some (k1, x), some (k2, xs) => match okR (k1 ++ k2) (κ :: rowKeys σ.ob κ c.ls) with
    | true => some (k1 ++ k2, rowKeys σ.ob κ c.ls, x, xs)
    | false => none
  | _, _ => none
def callPostB (σ : St) (dst : Option Nat) (κ : Nat) (ks : List Nat) (ls : List LO) (rs : List RT) (y : LOD ls) (r : RDL rs) : Option (St × AV × List (Nat × Ob)) :=
  match rets σ.tmps.length (dst.getD 0) 0 rs r with
  | some (cs, ns) => match (σ.setObs (obsL ks (κ :: ks) ls y)).adds ns with
    | some σ' => some (σ', packA cs, ns)
    | none => none
  | none => none

section
variable {w w' : World} {R : Nat → RL} {Pr Pr' : Nat → Prop}
theorem RepTy.solid : ∀ {e : Ty} {x : e.D} {us : List Value}, e.solid = true → RepTy w Pr e x us → RepTy w' Pr' e x us
  | .int _, _, _, _, h => h
  | .bool, _, _, _, h => h
  | .str, _, _, _, h => h
  | .pair a b, x, us, hs, h => by
    simp only [Ty.solid, Bool.and_eq_true] at hs
    obtain ⟨u1, u2, rfl, h1, h2⟩ := h
    exact ⟨u1, u2, rfl, RepTy.solid hs.1 h1, RepTy.solid hs.2 h2⟩
  | .sl _ _, _, _, hs, _ => by simp [Ty.solid] at hs
  | .fn _, _, _, _, h => h

/-- What is read through its object, as data. -/
theorem unown_rep {ob : Nat → Option Ob} (hob : ∀ κ o, ob κ = some o → RepOb w R Pr κ o) (hp : ∀ b, Pr b → Pr' b) {c : C} {v : Value} (hk : ∀ κ ∈ (unown ob c).1, ∀ e l, ob κ = some (.vec e l) → real R κ (.vec e l) → Pr' (R κ).blk) (h : RepC w R Pr c v) : RepC w R Pr' (unown ob c).2 v := by
  unfold unown at *
  split
  · rename_i κ
    split
    · rename_i e l ho
      have h1 : v = (R κ).hdr := h
      rw [h1]
      refine view_vec (hob κ _ ho) hp (fun hre => hk κ ?_ _ _ ho hre)
      simp only [ho]
      exact List.mem_singleton.2 rfl
    · exact RepC.move (fun _ _ => rfl) hp (fun _ _ => rfl) h
  · exact RepC.move (fun _ _ => rfl) hp (fun _ _ => rfl) h
theorem unowns_rep {ob : Nat → Option Ob} (hob : ∀ κ o, ob κ = some o → RepOb w R Pr κ o) (hp : ∀ b, Pr b → Pr' b) : ∀ {cs : List C} {vs : List Value}, (∀ κ ∈ (unowns ob cs).1, ∀ e l, ob κ = some (.vec e l) → real R κ (.vec e l) → Pr' (R κ).blk) → All2 (RepC w R Pr) cs vs → All2 (RepC w R Pr') (unowns ob cs).2 vs
  | [], [], _, _ => trivial
  | c :: cs, v :: vs, hk, h => ⟨unown_rep hob hp (fun κ hκ => hk κ (List.mem_append_left _ hκ)) h.1, unowns_rep hob hp (fun κ hκ => hk κ (List.mem_append_right _ hκ)) h.2⟩
  | [], _ :: _, _, h => h.elim
  | _ :: _, [], _, h => h.elim

theorem toArg_rep {ob : Nat → Option Ob} (hob : ∀ κ o, ob κ = some o → RepOb w R Pr κ o) (hp : ∀ b, Pr b → Pr' b) {p : PT} {v : AV} {u : Value} {acc : List Nat} {x : p.2.D} (h : toArg ob p v = some (acc, x)) (hk : ∀ κ ∈ acc, ∀ e l, ob κ = some (.vec e l) → real R κ (.vec e l) → Pr' (R κ).blk) (hr : RepA w R Pr v u) : RepV w Pr' p x u := by
  cases v with
  | tup _ => simp [toArg] at h
  | cp c =>
    have hr : RepCp w R Pr c u := hr
    simp only [toArg] at h
    split at h
    · rename_i cs h1 h2 h3
      split at h
      · rename_i y hy
        cases h
        have h4 := unowns_rep hob hp hk (cpCells_rep hr h3).1
        obtain ⟨u1, u2, hu12, k1, k2⟩ := of_rep hy h4
        have hu2 : u2 = [] := by
          cases u2 with
          | nil => rfl
          | cons _ _ => exact k2.elim
        subst hu2
        simp only [List.append_nil] at hu12
        cases c with
        | one c => simp [isAggCp] at h1
        | agg l =>
          obtain ⟨us, rfl, _⟩ := hr
          unfold RepV
          rw [h2]
          exact ⟨us, rfl, by rw [show us.toList = u1 from hu12]; exact k1⟩
      · cases h
    · rename_i cs h1 h2 h3
      split at h
      · rename_i y hy
        cases h
        have h4 := unowns_rep hob hp hk (cpCells_rep hr h3).1
        obtain ⟨u1, u2, hu12, k1, k2⟩ := of_rep hy h4
        have hu2 : u2 = [] := by
          cases u2 with
          | nil => rfl
          | cons _ _ => exact k2.elim
        subst hu2
        simp only [List.append_nil] at hu12
        cases c with
        | agg l => simp [isAggCp] at h1
        | one c =>
          have hu : u.cells = #[u] := by
            unfold cpCells at h3
            split at h3
            · cases h3
            · rename_i c' hne e
              cases e
              have := (RepC.one hr (fun e => hne (by rw [e]))).1
              cases u <;> first | rfl | exact absurd rfl (this _)
            · rename_i e; cases e
          unfold RepV
          rw [h2]
          show RepTy w Pr' p.2 _ [u]
          rw [hu] at hu12
          rw [show [u] = u1 from hu12]; exact k1
      · cases h
    · cases h

theorem toArgs_rep {ob : Nat → Option Ob} (hob : ∀ κ o, ob κ = some o → RepOb w R Pr κ o) (hp : ∀ b, Pr b → Pr' b) : ∀ {sig : List PT} {vs : List AV} {us : List Value} {acc : List Nat} {xs : DL sig}, toArgs ob sig vs = some (acc, xs) → (∀ κ ∈ acc, ∀ e l, ob κ = some (.vec e l) → real R κ (.vec e l) → Pr' (R κ).blk) → All2 (RepA w R Pr) vs us → RepArgs w Pr' sig xs us
  | [], [], [], _, _, _, _, _ => rfl
  | p :: sig, v :: vs, u :: us, acc, xs, h, hk, hr => by
    simp only [toArgs] at h
    split at h
    · rename_i k1 x k2 ys h1 h2
      cases h
      exact ⟨u, us, rfl, toArg_rep hob hp h1 (fun κ hκ => hk κ (List.mem_append_left _ hκ)) hr.1, toArgs_rep hob hp h2 (fun κ hκ => hk κ (List.mem_append_right _ hκ)) hr.2⟩
    · cases h
  | [], [], _ :: _, _, _, _, _, hr => hr.elim
  | [], _ :: _, _, _, _, h, _, _ => by simp [toArgs] at h
  | _ :: _, [], _, _, _, h, _, _ => by simp [toArgs] at h
  | _ :: _, _ :: _, [], _, _, _, _, hr => hr.elim

theorem takeF_rep {ob : Nat → Option Ob} (hob : ∀ κ o, ob κ = some o → RepOb w R Pr κ o) (hp : ∀ b, Pr b → Pr' b) : ∀ {ks : List Nat} {fs : List LF} {cs : List C} {us : List Value} {acc : List Nat} {x : LFD fs}, takeF ob ks fs cs = some (acc, x) → (∀ κ ∈ acc, ∀ e l, ob κ = some (.vec e l) → real R κ (.vec e l) → Pr' (R κ).blk) → All2 (RepC w R Pr) cs us → All2 (RepC w R Pr') (cellsF ks fs x) us
  | ks, [], [], us, acc, x, h, hk, hr => by
    cases us with
    | nil => simp only [cellsF]; trivial
    | cons _ _ => exact hr.elim
  | ks, [], _ :: _, us, acc, x, h, hk, hr => by simp [takeF] at h
  | ks, .d τ :: r, cs, us, acc, x, h, hk, hr => by
    simp only [takeF] at h
    split at h
    · rename_i x1 a1 y1 h1 h2
      cases h
      have h4 := unowns_rep hob hp (fun κ hκ => hk κ (List.mem_append_left _ hκ)) (hr.take τ.n)
      obtain ⟨u1, u2, hu12, k1, k2⟩ := of_rep h1 h4
      have hu2 : u2 = [] := by
        cases u2 with
        | nil => rfl
        | cons _ _ => exact k2.elim
      subst hu2
      simp only [List.append_nil] at hu12
      have h5 := takeF_rep hob hp h2 (fun κ hκ => hk κ (List.mem_append_right _ hκ)) (hr.drop τ.n)
      have h6 : All2 (RepC w R Pr') (τ.cells x1) (us.take τ.n) := by rw [hu12]; exact cells_rep k1
      have h7 := h6.append h5
      rw [List.take_append_drop] at h7
      exact h7
    · cases h
  | k :: ks, .o :: r, c :: cs, us, acc, x, h, hk, hr => by
    cases c with
    | own κ =>
      simp only [takeF] at h
      split at h
      · rename_i e
        have e := Nat.eq_of_beq_eq_true e
        subst e
        cases us with
        | nil => exact hr.elim
        | cons u us => exact ⟨hr.1, takeF_rep hob hp h hk hr.2⟩
      · cases h
    | _ => simp [takeF] at h
  | [], .o :: r, _, us, acc, x, h, hk, hr => by simp [takeF] at h
  | _ :: _, .o :: r, [], us, acc, x, h, hk, hr => by simp [takeF] at h
theorem takeO_rep {ob : Nat → Option Ob} (hob : ∀ κ o, ob κ = some o → RepOb w R Pr κ o) (hp : ∀ b, Pr b → Pr' b) {ks : List Nat} {κ : Nat} {o : LO} {acc : List Nat} {x : o.D} (h : takeO ob ks κ o = some (acc, x)) (hk : ∀ κ ∈ acc, ∀ e l, ob κ = some (.vec e l) → real R κ (.vec e l) → Pr' (R κ).blk) :
    RepOb w R Pr' κ (o.ob ks x) ∧ ∃ o1, ob κ = some o1 ∧ ((∃ cs, o1 = .box cs) ∨ ∃ e l, o1 = .vec e l) ∧ ∀ R' : Nat → RL, real R' κ o1 ↔ realO R' κ o := by
  cases o with
  | box fs =>
    cases ho : ob κ with
    | none => simp only [takeO, ho] at h; exact absurd h (by simp)
    | some o1 =>
      cases o1 with
      | box cs =>
        simp only [takeO, ho] at h
        obtain ⟨el, vs, h1, h2⟩ := hob κ _ ho
        exact ⟨⟨el, vs, h1, takeF_rep hob hp h hk h2⟩, _, rfl, .inl ⟨cs, rfl⟩, fun _ => Iff.rfl⟩
      | _ => simp only [takeO, ho] at h; exact absurd h (by simp)
  | row e =>
    simp only [takeO] at h
    split at h
    · rename_i e' l ho
      revert h
      generalize Ty.dec e' e = d
      intro h
      cases d with
      | isFalse _ => cases h
      | isTrue he =>
        subst he; cases h
        exact ⟨RepOb.move (fun _ _ => rfl) hp (fun _ => rfl) rfl (fun _ _ => rfl) (hob κ _ ho), _, ho, .inr ⟨_, _, rfl⟩, fun _ => Iff.rfl⟩
    · cases h
theorem takeL_rep {ob : Nat → Option Ob} (hob : ∀ κ o, ob κ = some o → RepOb w R Pr κ o) (hp : ∀ b, Pr b → Pr' b) {ks : List Nat} : ∀ {κs : List Nat} {ls : List LO} {acc : List Nat} {x : LOD ls}, takeL ob ks κs ls = some (acc, x) → (∀ κ ∈ acc, ∀ e l, ob κ = some (.vec e l) → real R κ (.vec e l) → Pr' (R κ).blk) → RepLs w R Pr' ks κs ls x
  | [], [], _, _, _, _ => trivial
  | κ :: κs, o :: ls, acc, x, h, hk => by
    simp only [takeL] at h
    split at h
    · rename_i a x1 b y1 h1 h2
      cases h
      exact ⟨(takeO_rep hob hp h1 (fun κ hκ => hk κ (List.mem_append_left _ hκ))).1, takeL_rep hob hp h2 (fun κ hκ => hk κ (List.mem_append_right _ hκ))⟩
    · cases h
  | [], _ :: _, _, _, h, _ => by simp [takeL] at h
  | _ :: _, [], _, _, h, _ => by simp [takeL] at h
theorem takeL_len {ob : Nat → Option Ob} {ks : List Nat} : ∀ {κs : List Nat} {ls : List LO} {acc : List Nat} {x : LOD ls}, takeL ob ks κs ls = some (acc, x) → κs.length = ls.length
  | [], [], _, _, _ => rfl
  | κ :: κs, o :: ls, acc, x, h => by
    simp only [takeL] at h
    split at h
    · rename_i a x1 b y1 h1 h2
      simp [takeL_len h2]
    · cases h
  | [], _ :: _, _, _, h => by simp [takeL] at h
  | _ :: _, [], _, _, h => by simp [takeL] at h
/-- What is lent is there. -/
theorem takeL_ob {ob : Nat → Option Ob} (hob : ∀ κ o, ob κ = some o → RepOb w R Pr κ o) {ks : List Nat} : ∀ {κs : List Nat} {ls : List LO} {acc : List Nat} {x : LOD ls}, takeL ob ks κs ls = some (acc, x) → ∀ (i κ : Nat) (o : LO), κs[i]? = some κ → ls[i]? = some o → ∃ o1, ob κ = some o1 ∧ ((∃ cs, o1 = .box cs) ∨ ∃ e l, o1 = .vec e l) ∧ ∀ R' : Nat → RL, real R' κ o1 ↔ realO R' κ o
  | [], [], _, _, _, i, κ, o, h1, _ => by simp at h1
  | κ0 :: κs, o0 :: ls, acc, x, h, i, κ, o, g1, g2 => by
    simp only [takeL] at h
    split at h
    · rename_i a x1 b y1 h1 h2
      cases i with
      | zero =>
        simp only [List.getElem?_cons_zero, Option.some.injEq] at g1 g2
        subst g1 g2
        exact (takeO_rep (Pr' := fun _ => True) hob (fun _ _ => trivial) h1 (fun _ _ _ _ _ _ => trivial)).2
      | succ i => exact takeL_ob hob h2 i κ o (by simpa using g1) (by simpa using g2)
    · cases h
  | [], _ :: _, _, _, h, _, _, _, _, _ => by simp [takeL] at h
  | _ :: _, [], _, _, h, _, _, _, _, _ => by simp [takeL] at h
theorem cellsF_refs : ∀ (ks : List Nat) (fs : List LF) (x : LFD fs) (c : C), c ∈ cellsF ks fs x → ∀ κ ∈ c.refs, κ ∈ ks
  | ks, [], x, c, hc, κ, hκ => by simp [cellsF] at hc
  | ks, .d τ :: r, x, c, hc, κ, hκ => by
    simp only [cellsF, List.mem_append] at hc
    rcases hc with hc | hc
    · rw [cells_refs _ _ c hc] at hκ; cases hκ
    · exact cellsF_refs ks r x.2 c hc κ hκ
  | k :: ks, .o :: r, x, c, hc, κ, hκ => by
    simp only [cellsF, List.mem_cons] at hc
    rcases hc with rfl | hc
    · simp only [C.refs, List.mem_singleton] at hκ; subst hκ; exact List.mem_cons_self ..
    · exact List.mem_cons_of_mem _ (cellsF_refs ks r x c hc κ hκ)
  | [], .o :: r, x, c, hc, κ, hκ => by
    simp only [cellsF, List.mem_cons] at hc
    rcases hc with rfl | hc
    · simp [C.refs] at hκ
    · exact cellsF_refs [] r x c hc κ hκ
theorem ob_refs {ks : List Nat} {o : LO} {x : o.D} {κ : Nat} (h : κ ∈ (o.ob ks x).refs) : κ ∈ ks := by
  cases o with
  | box fs =>
    obtain ⟨c, hc, hk⟩ := List.mem_flatMap.1 h
    exact cellsF_refs ks fs x c hc κ hk
  | row e => simp [LO.ob, Ob.refs] at h
theorem obsL_keys {ks : List Nat} : ∀ {κs : List Nat} {ls : List LO} (x : LOD ls), κs.length = ls.length → (obsL ks κs ls x).map (·.1) = κs
  | [], [], _, _ => rfl
  | κ :: κs, o :: ls, x, h => by simp only [obsL, List.map_cons]; rw [obsL_keys x.2 (by simpa using h)]
  | [], _ :: _, _, h => by simp at h
  | _ :: _, [], _, h => by simp at h
theorem obsL_mem {ks : List Nat} {κ : Nat} {o' : Ob} : ∀ {κs : List Nat} {ls : List LO} {x : LOD ls}, (κ, o') ∈ obsL ks κs ls x → RepLs w R Pr ks κs ls x → ∃ (i : Nat) (o : LO), κs[i]? = some κ ∧ ls[i]? = some o ∧ (∀ R' : Nat → RL, real R' κ o' ↔ realO R' κ o) ∧ RepOb w R Pr κ o' ∧ ∀ κ' ∈ o'.refs, κ' ∈ ks
  | κ0 :: κs, o0 :: ls, x, h, hr => by
    simp only [obsL, List.mem_cons] at h
    rcases h with h | h
    · obtain ⟨rfl, rfl⟩ : κ = κ0 ∧ o' = o0.ob ks x.1 := by simpa using h
      exact ⟨0, o0, rfl, rfl, fun _ => real_ob, hr.1, fun κ' hκ => ob_refs hκ⟩
    · obtain ⟨i, o, h1, h2, h3⟩ := obsL_mem h hr.2
      exact ⟨i + 1, o, by simpa using h1, by simpa using h2, h3⟩
  | _, [], _, h, _ => by simp [obsL] at h
  | [], _ :: _, _, h, _ => by simp [obsL] at h
theorem OffL.at {b : Nat} : ∀ {κs : List Nat} {ls : List LO}, OffL R b κs ls → ∀ (i κ : Nat) (o : LO), κs[i]? = some κ → ls[i]? = some o → realO R κ o → b ≠ (R κ).blk
  | κ0 :: κs, o0 :: ls, h, i, κ, o, g1, g2, g3 => by
    cases i with
    | zero =>
      simp only [List.getElem?_cons_zero, Option.some.injEq] at g1 g2
      subst g1 g2; exact h.1 g3
    | succ i => exact OffL.at h.2 i κ o (by simpa using g1) (by simpa using g2) g3
  | [], _, _, i, κ, o, g1, _, _ => by simp at g1
  | _ :: _, [], _, i, κ, o, _, g2, _ => by simp at g2
theorem OffL.of {b : Nat} : ∀ {κs : List Nat} {ls : List LO}, (∀ (i κ : Nat) (o : LO), κs[i]? = some κ → ls[i]? = some o → realO R κ o → b ≠ (R κ).blk) → OffL R b κs ls
  | κ0 :: κs, o0 :: ls, h => ⟨h 0 κ0 o0 rfl rfl, OffL.of fun i κ o g1 g2 => h (i + 1) κ o (by simpa using g1) (by simpa using g2)⟩
  | [], _, _ => trivial
  | _ :: _, [], _ => trivial
theorem ApartL.at : ∀ {κs : List Nat} {ls : List LO}, ApartL R Pr κs ls → ∀ (i κ : Nat) (o : LO), κs[i]? = some κ → ls[i]? = some o → realO R κ o → ¬ Pr (R κ).blk ∧ ∀ (j κ' : Nat) (o' : LO), i < j → κs[j]? = some κ' → ls[j]? = some o' → realO R κ' o' → (R κ).blk ≠ (R κ').blk
  | κ0 :: κs, o0 :: ls, h, i, κ, o, g1, g2, g3 => by
    cases i with
    | zero =>
      simp only [List.getElem?_cons_zero, Option.some.injEq] at g1 g2
      subst g1 g2
      refine ⟨(h.1 g3).1, fun j κ' o' hj k1 k2 k3 => ?_⟩
      cases j with
      | zero => omega
      | succ j => exact OffL.at (h.1 g3).2 j κ' o' (by simpa using k1) (by simpa using k2) k3
    | succ i =>
      obtain ⟨m1, m2⟩ := ApartL.at h.2 i κ o (by simpa using g1) (by simpa using g2) g3
      refine ⟨m1, fun j κ' o' hj k1 k2 k3 => ?_⟩
      cases j with
      | zero => omega
      | succ j => exact m2 j κ' o' (by omega) (by simpa using k1) (by simpa using k2) k3
  | [], _, _, i, κ, o, g1, _, _ => by simp at g1
  | _ :: _, [], _, i, κ, o, _, g2, _ => by simp at g2
theorem ApartL.of : ∀ {κs : List Nat} {ls : List LO}, (∀ (i κ : Nat) (o : LO), κs[i]? = some κ → ls[i]? = some o → realO R κ o → ¬ Pr (R κ).blk ∧ ∀ (j κ' : Nat) (o' : LO), i < j → κs[j]? = some κ' → ls[j]? = some o' → realO R κ' o' → (R κ).blk ≠ (R κ').blk) → ApartL R Pr κs ls
  | κ0 :: κs, o0 :: ls, h => ⟨fun g => ⟨(h 0 κ0 o0 rfl rfl g).1, OffL.of fun j κ' o' k1 k2 k3 => (h 0 κ0 o0 rfl rfl g).2 (j + 1) κ' o' (by omega) (by simpa using k1) (by simpa using k2) k3⟩,
    ApartL.of fun i κ o g1 g2 g3 => ⟨(h (i + 1) κ o (by simpa using g1) (by simpa using g2) g3).1, fun j κ' o' hj k1 k2 k3 => (h (i + 1) κ o (by simpa using g1) (by simpa using g2) g3).2 (j + 1) κ' o' (by omega) (by simpa using k1) (by simpa using k2) k3⟩⟩
  | [], _, _ => trivial
  | _ :: _, [], _ => trivial
/-! ### The same under other keys -/
theorem cellsF_relabel {R R' : Nat → RL} : ∀ {ks ks' : List Nat} {fs : List LF} {x : LFD fs} {us : List Value}, All2 (fun k k' => R' k' = R k) ks ks' → All2 (RepC w R Pr) (cellsF ks fs x) us → All2 (RepC w R' Pr) (cellsF ks' fs x) us
  | ks, ks', [], x, us, hk, h => by simpa only [cellsF] using h.mono (fun a ha b hb => by simp [cellsF] at ha)
  | ks, ks', .d τ :: r, x, us, hk, h => by
    simp only [cellsF] at h ⊢
    have h1 := h.take (τ.cells x.1).length
    have h2 := h.drop (τ.cells x.1).length
    rw [List.take_left] at h1
    rw [List.drop_left] at h2
    have h3 := (h1.mono (s := RepC w R' Pr) (fun c hc u hu => RepC.move (fun _ _ => rfl) (fun _ h => h) (fun κ hκ => by rw [cells_refs _ _ c hc] at hκ; cases hκ) hu)).append (cellsF_relabel hk h2)
    rw [List.take_append_drop] at h3
    exact h3
  | k :: ks, k' :: ks', .o :: r, x, us, hk, h => by
    cases us with
    | nil => exact h.elim
    | cons u us =>
      refine ⟨?_, cellsF_relabel hk.2 h.2⟩
      have : u = (R k).hdr := h.1
      show u = (R' k').hdr
      rw [this, hk.1]
  | [], [], .o :: r, x, us, hk, h => by
    cases us with
    | nil => exact h.elim
    | cons u us => exact ⟨trivial, cellsF_relabel (ks := []) (ks' := []) trivial h.2⟩
  | [], _ :: _, .o :: r, x, us, hk, h => hk.elim
  | _ :: _, [], .o :: r, x, us, hk, h => hk.elim
theorem RepOb.relabel {R R' : Nat → RL} {κ κ' : Nat} {ks ks' : List Nat} {o : LO} {x : o.D} (hκ : R' κ' = R κ) (hk : All2 (fun k k' => R' k' = R k) ks ks') (h : RepOb w R Pr κ (o.ob ks x)) : RepOb w R' Pr κ' (o.ob ks' x) := by
  cases o with
  | box fs =>
    obtain ⟨el, vs, h1, h2⟩ := h
    exact ⟨el, vs, by rw [hκ]; exact h1, cellsF_relabel hk h2⟩
  | row e =>
    simp only [LO.ob, RepOb] at h ⊢
    rw [hκ]; exact h
theorem RepLs.relabel {R R' : Nat → RL} {ks ks' : List Nat} (hk : All2 (fun k k' => R' k' = R k) ks ks') : ∀ {κs κs' : List Nat} {ls : List LO} {x : LOD ls}, All2 (fun k k' => R' k' = R k) κs κs' → RepLs w R Pr ks κs ls x → RepLs w R' Pr ks' κs' ls x
  | [], [], [], _, _, _ => trivial
  | κ :: κs, κ' :: κs', o :: ls, x, hκ, h => ⟨RepOb.relabel hκ.1 hk h.1, RepLs.relabel hk hκ.2 h.2⟩
  | [], _ :: _, _, _, hκ, _ => hκ.elim
  | _ :: _, [], _, _, hκ, _ => hκ.elim
  | [], [], _ :: _, _, _, h => h.elim
  | _ :: _, _ :: _, [], _, _, h => h.elim
theorem realO_relabel {R R' : Nat → RL} {κ κ' : Nat} (hκ : R' κ' = R κ) {o : LO} : realO R' κ' o ↔ realO R κ o := by
  cases o with
  | box _ => exact Iff.rfl
  | row _ => simp only [realO, hκ]
theorem OffL.relabel {R R' : Nat → RL} {b : Nat} : ∀ {κs κs' : List Nat} {ls : List LO}, All2 (fun k k' => R' k' = R k) κs κs' → OffL R b κs ls → OffL R' b κs' ls
  | κ :: κs, κ' :: κs', o :: ls, hκ, h => ⟨fun g => by rw [hκ.1]; exact h.1 ((realO_relabel hκ.1).1 g), OffL.relabel hκ.2 h.2⟩
  | [], [], _, _, _ => trivial
  | _ :: _, _ :: _, [], _, _ => trivial
  | [], _ :: _, _, hκ, _ => hκ.elim
  | _ :: _, [], _, hκ, _ => hκ.elim
theorem ApartL.relabel {R R' : Nat → RL} : ∀ {κs κs' : List Nat} {ls : List LO}, All2 (fun k k' => R' k' = R k) κs κs' → ApartL R Pr κs ls → ApartL R' Pr κs' ls
  | κ :: κs, κ' :: κs', o :: ls, hκ, h => ⟨fun g => by rw [hκ.1]; exact ⟨(h.1 ((realO_relabel hκ.1).1 g)).1, OffL.relabel hκ.2 (h.1 ((realO_relabel hκ.1).1 g)).2⟩, ApartL.relabel hκ.2 h.2⟩
  | [], [], _, _, _ => trivial
  | _ :: _, _ :: _, [], _, _ => trivial
  | [], _ :: _, _, hκ, _ => hκ.elim
  | _ :: _, [], _, hκ, _ => hκ.elim
end
end Go.Rx
