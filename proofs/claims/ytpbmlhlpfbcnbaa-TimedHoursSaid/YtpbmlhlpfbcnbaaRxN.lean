/- Reflection, part N: contracts over plain data; a call of such a function. -/
import Derived.Test.YtpbmlhlpfbcnbaaRxM
namespace Go.Rx
set_option linter.unusedVariables false
set_option linter.unusedSimpArgs false
set_option linter.unusedSectionVars false

abbrev PT := Bool × Ty
def DL : List PT → Type
  | [] => Unit
  | p :: r => p.2.D × DL r
inductive RT where
  | d (agg : Bool) (τ : Ty)
  | new (e : Ty)
def RT.D : RT → Type
  | .d _ τ => τ.D
  | .new e => List e.D
def RDL : List RT → Type
  | [] => Unit
  | p :: r => p.D × RDL r

def RepV (w : World) (Pr : Nat → Prop) (p : PT) (x : p.2.D) (v : Value) : Prop :=
  match p.1 with
  | true => ∃ us, v = .agg us ∧ RepTy w Pr p.2 x us.toList
  | false => RepTy w Pr p.2 x [v]
def RepArgs (w : World) (Pr : Nat → Prop) : (sig : List PT) → DL sig → List Value → Prop
  | [], _, vs => vs = []
  | p :: r, xs, vs => ∃ v us, vs = v :: us ∧ RepV w Pr p xs.1 v ∧ RepArgs w Pr r xs.2 us
/-- A fresh row of data, which nobody else refers to. -/
def RepNew (w : World) (n : Nat) (Pr : Nat → Prop) (e : Ty) (l : List e.D) (v : Value) (blk : Nat) : Prop :=
  (v = .slice none 0 0 ∧ l = []) ∨ ∃ off cap cells el, v = .slice (some ⟨blk, off, none⟩) l.length cap ∧ l.length ≤ cap ∧ w.heap[blk]? = some (.cells cells el (0, 0)) ∧ off + cap * e.n ≤ cells.size ∧ n ≤ blk ∧ ¬ Pr blk ∧
    ∀ i y, l[i]? = some y → ∃ us, At cells (off + i * e.n) us ∧ RepTy w Pr e y us
def RepRets (w : World) (n : Nat) (Pr : Nat → Prop) : (rs : List RT) → RDL rs → List Value → List Nat → Prop
  | [], _, vs, _ => vs = []
  | .d agg τ :: r, xs, vs, bs => ∃ v us, vs = v :: us ∧ RepV w Pr (agg, τ) xs.1 v ∧ RepRets w n Pr r xs.2 us bs
  | .new e :: r, xs, vs, bs => ∃ v us blk, vs = v :: us ∧ RepNew w n Pr e xs.1 v blk ∧ (v ≠ .slice none 0 0 → blk ∉ bs) ∧ RepRets w n Pr r xs.2 us (blk :: bs)
def packV : List Value → Value
  | [v] => v
  | vs => .tuple vs.toArray

def PureOK (P : Program) (f : FuncId) (sig : List PT) (rs : List RT) (fn : DL sig → Option (RDL rs)) : Prop :=
  ∀ xs r, fn xs = some r → ∀ (w : World) (Pr : Nat → Prop) (vs : List Value), (∀ b, Pr b → b < w.heap.size) → RepArgs w Pr sig xs vs →
    Calls P f vs.toArray w fun e w' => ∃ Pr' us, e = .returned (packV us) ∧ (∀ b, b < w.heap.size → w'.heap[b]? = w.heap[b]?) ∧ Grow w w' ∧ (∀ b, Pr b → Pr' b) ∧
      (∀ b, Pr' b → b < w.heap.size → Pr b) ∧ (∀ b, Pr' b → b < w'.heap.size) ∧ RepRets w' w.heap.size Pr' rs r us []
structure Con where
  sig : List PT
  rs : List RT
  fn : DL sig → Option (RDL rs)
/-- A function whose first argument points to a variable of the caller's, which it may write. -/
def BoxOK (P : Program) (f : FuncId) (τ : Ty) (sig : List PT) (rs : List RT) (fn : τ.D → DL sig → Option (τ.D × RDL rs)) : Prop :=
  ∀ x xs y r, fn x xs = some (y, r) → ∀ (w : World) (Pr : Nat → Prop) (vs : List Value) (blk : Nat) (us : Array Value) (el : TypeId), (∀ b, Pr b → b < w.heap.size) → ¬ Pr blk → w.heap[blk]? = some (.cells us el (0, 0)) → RepTy w Pr τ x us.toList → RepArgs w Pr sig xs vs →
    Calls P f (.pointer (some ⟨blk, 0, none⟩) :: vs).toArray w fun e w' => ∃ Pr' rv el' us', e = .returned (packV rv) ∧ (∀ b, b < w.heap.size → b ≠ blk → w'.heap[b]? = w.heap[b]?) ∧ Grow w w' ∧ (∀ b, Pr b → Pr' b) ∧
      (∀ b, Pr' b → b < w.heap.size → Pr b) ∧ (∀ b, Pr' b → b < w'.heap.size) ∧ w'.heap[blk]? = some (.cells us' el' (0, 0)) ∧ RepTy w' Pr' τ y us'.toList ∧ RepRets w' w.heap.size Pr' rs r rv []
structure BCon where
  τ : Ty
  sig : List PT
  rs : List RT
  fn : τ.D → DL sig → Option (τ.D × RDL rs)
inductive ECon where
  | c (c : Con)
  | b (c : BCon)
abbrev Env := List (FuncId × ECon)
def Env.get : Env → FuncId → Option Con
  | [], _ => none
  | (g, .c c) :: r, f => if f = g then some c else Env.get r f
  | (_, .b _) :: r, f => Env.get r f
def Env.getB : Env → FuncId → Option BCon
  | [], _ => none
  | (g, .b c) :: r, f => if f = g then some c else Env.getB r f
  | (_, .c _) :: r, f => Env.getB r f
def EnvOK (P : Program) : Env → Prop
  | [] => True
  | (f, .c c) :: r => PureOK P f c.sig c.rs c.fn ∧ EnvOK P r
  | (f, .b c) :: r => BoxOK P f c.τ c.sig c.rs c.fn ∧ EnvOK P r
theorem EnvOK.get {P : Program} : ∀ {E : Env} {f : FuncId} {c : Con}, EnvOK P E → E.get f = some c → PureOK P f c.sig c.rs c.fn
  | [], _, _, _, h => by cases h
  | (g, .c d) :: r, f, c, h, hg => by
    simp only [Env.get] at hg
    split at hg
    · rename_i e; subst e; cases hg; exact h.1
    · exact EnvOK.get h.2 hg
  | (g, .b d) :: r, f, c, h, hg => EnvOK.get (E := r) h.2 hg
theorem EnvOK.getB {P : Program} : ∀ {E : Env} {f : FuncId} {c : BCon}, EnvOK P E → E.getB f = some c → BoxOK P f c.τ c.sig c.rs c.fn
  | [], _, _, _, h => by cases h
  | (g, .b d) :: r, f, c, h, hg => by
    simp only [Env.getB] at hg
    split at hg
    · rename_i e; subst e; cases hg; exact h.1
    · exact EnvOK.getB h.2 hg
  | (g, .c d) :: r, f, c, h, hg => EnvOK.getB (E := r) h.2 hg

def unown (ob : Nat → Option Ob) : C → List Nat × C
  | .own κ => match ob κ with
    | some (.vec e l) => ([κ], .val false e l)
    | _ => ([κ], .own κ)
  | c => ([], c)
def unowns (ob : Nat → Option Ob) : List C → List Nat × List C
  | [] => ([], [])
  | c :: cs => ((unown ob c).1 ++ (unowns ob cs).1, (unown ob c).2 :: (unowns ob cs).2)
def isAggCp : Cp → Bool
  | .one _ => false
  | .agg _ => true
def toArg (ob : Nat → Option Ob) (p : PT) : AV → Option (List Nat × p.2.D)
  | .cp x => match isAggCp x, p.1, cpCells x with
    | true, true, some cs => match p.2.of (unowns ob cs).2 with
      | some (y, []) => some ((unowns ob cs).1, y)
      | _ => none
    | false, false, some cs => match p.2.of (unowns ob cs).2 with
      | some (y, []) => some ((unowns ob cs).1, y)
      | _ => none
    | _, _, _ => none
  | .tup _ => none
def toArgs (ob : Nat → Option Ob) : (sig : List PT) → List AV → Option (List Nat × DL sig)
  | [], [] => some ([], ())
  | p :: r, v :: vs => match toArg ob p v, toArgs ob r vs with
    | some (k1, x), some (k2, xs) => some (k1 ++ k2, (x, xs))
    | _, _ => none
  | _, _ => none
def Ty.solid : Ty → Bool
  | .pair a b => a.solid && b.solid
  | .sl _ _ => false
  | _ => true
def RT.solid : RT → Bool
  | .d _ τ => τ.solid
  | .new e => e.solid
def frzs : List Nat → St → St
  | [], σ => σ
  | κ :: r, σ => frzs r (σ.frz κ)
def rets (N d : Nat) : Nat → (rs : List RT) → RDL rs → Option (List Cp × List (Nat × Ob))
  | _, [], _ => some ([], [])
  | i, .d true τ :: r, xs => match rets N d i r xs.2 with
    | some (cs, ns) => some (.agg (τ.cells xs.1) :: cs, ns)
    | none => none
  | i, .d false τ :: r, xs => match τ.cells xs.1, rets N d i r xs.2 with
    | [c], some (cs, ns) => some (.one c :: cs, ns)
    | _, _ => none
  | i, .new e :: r, xs => match rets N d (i + 1) r xs.2 with
    | some (cs, ns) => some (.one (.own (d + i * N)) :: cs, (d + i * N, .vec e xs.1) :: ns)
    | none => none
/-- New objects, where nothing is as yet. -/
def St.adds (σ : St) : List (Nat × Ob) → Option St
  | [] => some σ
  | (κ, o) :: r => match okK κ σ.objs.length, σ.ob κ with
    | true, none => St.adds (σ.setOb κ (some o)) r
    | _, _ => none
def packA : List Cp → AV
  | [c] => .cp c
  | cs => .tup cs
def frzIf (rs : List RT) (acc : List Nat) (σ : St) : St :=
  match acc with
  | [] => σ
  | _ :: _ => match rs.all RT.solid with
    | true => σ
    | false => frzs acc σ
def callPre (σ : St) (c : Con) (args : List AV) : Option (List Nat × St × DL c.sig) :=
  match toArgs σ.ob c.sig args with
  | some (acc, xs) => some (acc, frzIf c.rs acc σ, xs)
  | none => none
def callPost (σ : St) (dst : Option Nat) (rs : List RT) (r : RDL rs) : Option (St × AV × List (Nat × Ob)) :=
  match rets σ.tmps.length (dst.getD 0) 0 rs r with
  | some (cs, ns) => match σ.adds ns with
    | some σ' => some (σ', packA cs, ns)
    | none => none
  | none => none
/-- The variable that is pointed to, and the other arguments. -/
def callPreB (σ : St) (c : BCon) (κ : Nat) (args : List AV) : Option (List Nat × c.τ.D × DL c.sig) :=
  match σ.ob κ with
  | some (.box cs) => match toArg σ.ob (true, c.τ) (.cp (.agg cs)), toArgs σ.ob c.sig args with
    | some (k1, x), some (k2, xs) => some (k1 ++ k2, x, xs)
    | _, _ => none
  | _ => none
def callPostB (σ : St) (dst : Option Nat) (κ : Nat) (τ : Ty) (rs : List RT) (y : τ.D) (r : RDL rs) : Option (St × AV × List (Nat × Ob)) :=
  match rets σ.tmps.length (dst.getD 0) 0 rs r with
  | some (cs, ns) => match (σ.setOb κ (some (.box (τ.cells y)))).adds ns with
    | some σ' => some (σ', packA cs, ns)
    | none => none
  | none => none

section
variable {w w' : World} {R : Nat → RL} {Pr Pr' : Nat → Prop}
theorem RepTy.solid : ∀ {e : Ty} {x : e.D} {us : List Value}, e.solid = true → RepTy w Pr e x us → RepTy w' Pr' e x us
  | .int _, _, _, _, h => h
  | .bool, _, _, _, h => h
  | .str, _, _, _, h => h
  | .pair a b, x, us, hs, h => by
    simp only [Ty.solid, Bool.and_eq_true] at hs
    obtain ⟨u1, u2, rfl, h1, h2⟩ := h
    exact ⟨u1, u2, rfl, RepTy.solid hs.1 h1, RepTy.solid hs.2 h2⟩
  | .sl _ _, _, _, hs, _ => by simp [Ty.solid] at hs
  | .fn _, _, _, _, h => h

/-- What is read through its object, as data. -/
theorem unown_rep {ob : Nat → Option Ob} (hob : ∀ κ o, ob κ = some o → RepOb w R Pr κ o) (hp : ∀ b, Pr b → Pr' b) {c : C} {v : Value} (hk : ∀ κ ∈ (unown ob c).1, ∀ e l, ob κ = some (.vec e l) → real R κ (.vec e l) → Pr' (R κ).blk) (h : RepC w R Pr c v) : RepC w R Pr' (unown ob c).2 v := by
  unfold unown at *
  split
  · rename_i κ
    split
    · rename_i e l ho
      have h1 : v = (R κ).hdr := h
      rw [h1]
      refine view_vec (hob κ _ ho) hp (fun hre => hk κ ?_ _ _ ho hre)
      simp only [ho]
      exact List.mem_singleton.2 rfl
    · exact RepC.move (fun _ _ => rfl) hp (fun _ _ => rfl) h
  · exact RepC.move (fun _ _ => rfl) hp (fun _ _ => rfl) h
theorem unowns_rep {ob : Nat → Option Ob} (hob : ∀ κ o, ob κ = some o → RepOb w R Pr κ o) (hp : ∀ b, Pr b → Pr' b) : ∀ {cs : List C} {vs : List Value}, (∀ κ ∈ (unowns ob cs).1, ∀ e l, ob κ = some (.vec e l) → real R κ (.vec e l) → Pr' (R κ).blk) → All2 (RepC w R Pr) cs vs → All2 (RepC w R Pr') (unowns ob cs).2 vs
  | [], [], _, _ => trivial
  | c :: cs, v :: vs, hk, h => ⟨unown_rep hob hp (fun κ hκ => hk κ (List.mem_append_left _ hκ)) h.1, unowns_rep hob hp (fun κ hκ => hk κ (List.mem_append_right _ hκ)) h.2⟩
  | [], _ :: _, _, h => h.elim
  | _ :: _, [], _, h => h.elim

theorem toArg_rep {ob : Nat → Option Ob} (hob : ∀ κ o, ob κ = some o → RepOb w R Pr κ o) (hp : ∀ b, Pr b → Pr' b) {p : PT} {v : AV} {u : Value} {acc : List Nat} {x : p.2.D} (h : toArg ob p v = some (acc, x)) (hk : ∀ κ ∈ acc, ∀ e l, ob κ = some (.vec e l) → real R κ (.vec e l) → Pr' (R κ).blk) (hr : RepA w R Pr v u) : RepV w Pr' p x u := by
  cases v with
  | tup _ => simp [toArg] at h
  | cp c =>
    have hr : RepCp w R Pr c u := hr
    simp only [toArg] at h
    split at h
    · rename_i cs h1 h2 h3
      split at h
      · rename_i y hy
        cases h
        have h4 := unowns_rep hob hp hk (cpCells_rep hr h3).1
        obtain ⟨u1, u2, hu12, k1, k2⟩ := of_rep hy h4
        have hu2 : u2 = [] := by
          cases u2 with
          | nil => rfl
          | cons _ _ => exact k2.elim
        subst hu2
        simp only [List.append_nil] at hu12
        cases c with
        | one c => simp [isAggCp] at h1
        | agg l =>
          obtain ⟨us, rfl, _⟩ := hr
          unfold RepV
          rw [h2]
          exact ⟨us, rfl, by rw [show us.toList = u1 from hu12]; exact k1⟩
      · cases h
    · rename_i cs h1 h2 h3
      split at h
      · rename_i y hy
        cases h
        have h4 := unowns_rep hob hp hk (cpCells_rep hr h3).1
        obtain ⟨u1, u2, hu12, k1, k2⟩ := of_rep hy h4
        have hu2 : u2 = [] := by
          cases u2 with
          | nil => rfl
          | cons _ _ => exact k2.elim
        subst hu2
        simp only [List.append_nil] at hu12
        cases c with
        | agg l => simp [isAggCp] at h1
        | one c =>
          have hu : u.cells = #[u] := by
            unfold cpCells at h3
            split at h3
            · cases h3
            · rename_i c' hne e
              cases e
              have := (RepC.one hr (fun e => hne (by rw [e]))).1
              cases u <;> first | rfl | exact absurd rfl (this _)
            · rename_i e; cases e
          unfold RepV
          rw [h2]
          show RepTy w Pr' p.2 _ [u]
          rw [hu] at hu12
          rw [show [u] = u1 from hu12]; exact k1
      · cases h
    · cases h

theorem toArgs_rep {ob : Nat → Option Ob} (hob : ∀ κ o, ob κ = some o → RepOb w R Pr κ o) (hp : ∀ b, Pr b → Pr' b) : ∀ {sig : List PT} {vs : List AV} {us : List Value} {acc : List Nat} {xs : DL sig}, toArgs ob sig vs = some (acc, xs) → (∀ κ ∈ acc, ∀ e l, ob κ = some (.vec e l) → real R κ (.vec e l) → Pr' (R κ).blk) → All2 (RepA w R Pr) vs us → RepArgs w Pr' sig xs us
  | [], [], [], _, _, _, _, _ => rfl
  | p :: sig, v :: vs, u :: us, acc, xs, h, hk, hr => by
    simp only [toArgs] at h
    split at h
    · rename_i k1 x k2 ys h1 h2
      cases h
      exact ⟨u, us, rfl, toArg_rep hob hp h1 (fun κ hκ => hk κ (List.mem_append_left _ hκ)) hr.1, toArgs_rep hob hp h2 (fun κ hκ => hk κ (List.mem_append_right _ hκ)) hr.2⟩
    · cases h
  | [], [], _ :: _, _, _, _, _, hr => hr.elim
  | [], _ :: _, _, _, _, h, _, _ => by simp [toArgs] at h
  | _ :: _, [], _, _, _, h, _, _ => by simp [toArgs] at h
  | _ :: _, _ :: _, [], _, _, _, _, hr => hr.elim
end
end Go.Rx
