/- Reflection, part I: the operations that make or write objects. -/
import Derived.Test.YtollcjadobpfdaaRxH
namespace Go.Rx
set_option linter.unusedVariables false
set_option linter.unusedSimpArgs false
set_option linter.unusedSectionVars false
structure Eff where
 conds : List DP
 acc : List Nat
 v : AV
 kill : Option Nat
 upd : Option (Nat × Ob)
abbrev Tys := List (TypeId × Ty)
def Tys.get : Tys → TypeId → Option Ty
 | [], _ => none
 | (u, i) :: r, t => if t = u then some i else Tys.get r t
def sameOp : Operand → Operand → Bool
 | .tmp a, .tmp b => a.beq b
 | _, _ => false
def repl {α : Type} : Nat → List α → List α
 | 0, _ => []
 | n + 1, z => z ++ repl n z
def noAny : List C → Bool
 | [] => true
 | .any :: _ => false
 | _ :: r => noAny r
theorem noAny_spec : ∀ {l : List C}, noAny l = true → ∀ c ∈ l, c ≠ .any
 | c :: l, h, d, hd => by
   cases c with
   | any => simp [noAny] at h
   | _ =>
     simp only [noAny] at h
     rcases List.mem_cons.1 hd with rfl | hd
     · simp
     · exact noAny_spec h d hd
section
variable (T : Tab) (Y : Tys) (ρ : Operand → AV) (ob : Nat → Option Ob) (len : Nat)
def mkNew (d : Nat) (conds : List DP) (acc : List Nat) (v : C) (o : Ob) : Option Eff :=
 match okK d len, ob d with
 | true, none => some ⟨conds, d :: acc, oneA v, none, some (d, o)⟩
 | _, _ => none
def evStore (t : TypeId) : C → Cp → Option Eff
 | .ptr κ off, x => match T.get t, ob κ, cpCells x with
   | some i, some (.box cs), some xs => if noAny xs = true ∧ xs.length = i.size ∧ off + i.size ≤ cs.length then some ⟨[], [κ], anyA, none, some (κ, .box (cs.take off ++ xs ++ cs.drop (off + i.size)))⟩ else none
   | _, _, _ => none
 | .vptr κ sz j off, x => match T.get t, ob κ, cpCells x with
   | some i, some (.vec e l), some xs => if noAny xs = true ∧ e.n = sz ∧ xs.length = i.size ∧ off + i.size ≤ e.n then
      match e.of (((e.cells (l.getD j e.z)).take off) ++ xs ++ ((e.cells (l.getD j e.z)).drop (off + i.size))) with
      | some (y, []) => some ⟨[], [κ], anyA, none, some (κ, .vec e (l.set j y))⟩
      | _ => none
     else none
   | _, _, _ => none
 | _, _ => none
def srcL (e : Ty) : C → Option (List Nat × List e.D)
 | .part κ sz lo n => match ob κ with
   | some (.vec e' l) => match Ty.dec e' e, sz.beq e'.n with
     | isTrue h, true => some ([κ], h ▸ (l.drop lo).take n)
     | _, _ => none
   | _ => none
 | .own κ => match ob κ with
   | some (.vec e' l) => match Ty.dec e' e with
     | isTrue h => some ([κ], h ▸ l)
     | _ => none
   | _ => none
 | .val b e' x => match Ty.dec e' e with
   | isTrue h => some ([], h ▸ slL b x)
   | _ => none
 | .nil => some ([], [])
 | _ => none
def fitsB (bytes n : Nat) : DP := ⟨n * bytes ≤ 140737488355328, inferInstance⟩
def evAppend (d : Nat) (el : TypeId) (s x : C) : Option Eff :=
 match T.get el with
 | some i => match i.zero with
   | none => none
   | some (_, z) => match s with
     | .own κ => match ob κ with
       | some (.vec e l) => match srcL ob e x with
         | some (acc, m) => if 0 < i.bytes ∧ e.n = i.size ∧ z.length = i.size ∧ okK κ len = true ∧ ¬ acc.contains κ = true then some ⟨[fitsB i.bytes (l.length + m.length)], κ :: acc, oneA (.own κ), some κ, some (κ, .vec e (l ++ m))⟩ else none
         | none => none
       | _ => none
     | .nil => match Y.get el with
       | some e => match srcL ob e x with
         | some (acc, m) => if 0 < i.bytes ∧ e.n = i.size ∧ z.length = i.size then mkNew ob len d [fitsB i.bytes m.length] acc (.own d) (.vec e m) else none
         | none => none
       | none => none
     | _ => none
 | none => none
def partOf : C → Option (Nat × Nat × Nat)
 | .own κ => match ob κ with
   | some (.vec e l) => some (κ, 0, l.length)
   | _ => none
 | .part κ sz lo n => match sz.beq 1 with
   | true => some (κ, lo, n)
   | false => none
 | _ => none
def copyL {α : Type} (l m : List α) (lo n : Nat) : List α := l.take lo ++ m.take n ++ l.drop (lo + min n m.length)
def evCopy (el : TypeId) (d s : C) : Option Eff :=
 match T.get el, partOf ob d with
 | some i, some (κ, lo, n) => match ob κ with
   | some (.vec e l) => match srcL ob e s with
     | some (acc, m) => if e.n = 1 ∧ i.size = 1 then some ⟨[], κ :: acc, oneA (.int .i64 (min n m.length : Nat)), none, some (κ, .vec e (copyL l m lo n))⟩ else none
     | none => none
   | _ => none
 | _, _ => none
def evX0 (dst : Option Nat) : Op → Option Eff
 | .box _ x => match dst, ρ x with
   | some d, .cp x => match cpCells x with
     | some cs => mkNew ob len d [] [] (.ptr d 0) (.box cs)
     | none => none
   | _, _ => none
 | .alloc el => match dst, T.get el with
   | some d, some i => match i.zero with
     | some (_, z) => mkNew ob len d [] [] (.ptr d 0) (.box z)
     | none => none
   | _, _ => none
 | .buildSlice t n parts => match dst, T.get t with
   | some d, some it => match it.d with
     | .slice el => match T.get el, Y.get el with
       | some i, some e => match i.zero with
         | some (_, z) => if z.length = i.size ∧ e.n = i.size ∧ n * i.size ≤ 16777216 then
            match fillC (fun j => some (j * i.size, i.size)) (repl n z) (parts.toList.map fun p => (p.1, ρ p.2)) with
            | some cs => match e.ofs n cs with
              | some l => mkNew ob len d [] [] (.own d) (.vec e l)
              | none => none
            | none => none
           else none
         | none => none
       | _, _ => none
     | _ => none
   | _, _ => none
 | .makeSlice t l c => match dst, T.get t with
   | some d, some it => match it.d with
     | .slice el => match T.get el, Y.get el with
       | some i, some e => match i.zero with
         | some (_, z) => if z.length = i.size ∧ e.n = i.size ∧ i.bytes ≤ 1024 ∧ sameOp l c = true then
            match e.of z, ρ l with
            | some (y, []), .cp (.one (.int .i64 n)) => mkNew ob len d [⟨0 ≤ n, inferInstance⟩, ⟨n ≤ 1073741824, inferInstance⟩] [] (.own d) (.vec e (List.replicate n.toNat y))
            | _, _ => none
           else none
         | none => none
       | _, _ => none
     | _ => none
   | _, _ => none
 | .store t p x => match ρ p, ρ x with
   | .cp (.one c), .cp x => evStore T ob t c x
   | _, _ => none
 | .makeMap t none => match dst, setB T t with
   | some d, true => mkNew ob len d [] [] (.mp d) (.set [])
   | _, _ => none
 | .mapUpdate t m k x => match ρ m, ρ k, ρ x with
   | .cp (.one (.mp κ)), .cp (.agg [.int .i64 a, .int .i64 b]), .cp (.one (.lit true)) => match setB T t, ob κ with
     | true, some (.set l) => some ⟨[], [κ], anyA, none, some (κ, .set (l ++ [(a, b)]))⟩
     | _, _ => none
   | _, _, _ => none
 | .call c => match c.callee with
   | .builtin .append => match c.args.toList, c.argTypes.toList, dst with
     | [s, x], [t, t'], some d => match ρ s, ρ x, T.get t with
       | .cp (.one s), .cp (.one x), some it => match it.d with
         | .slice el => if t = t' then evAppend T Y ob len d el s x else none
         | _ => none
       | _, _, _ => none
     | _, _, _ => none
   | .builtin .copy => match c.args.toList, c.argTypes.toList with
     | [d, s], [t, _] => match ρ d, ρ s, T.get t with
       | .cp (.one d), .cp (.one s), some it => match it.d with
         | .slice el => evCopy T ob el d s
         | _ => none
       | _, _, _ => none
     | _, _ => none
   | _ => none
 | _ => none
def rowTy : Ty → Option Ty
 | .pair .bool (.sl false e) => some e
 | _ => none
def evR (dst : Option Nat) : Op → Option Eff
 | .makeSlice t l c => match dst, T.get t with
   | some d, some it => match it.d with
     | .slice el => match T.get el, (Y.get el).bind rowTy with
       | some i, some e => match i.zero with
         | some (_, [.nil]) => if i.size = 1 ∧ i.bytes ≤ 1024 ∧ sameOp l c = true then
            match ρ l with
            | .cp (.one (.int .i64 n)) => mkNew ob len d [⟨0 ≤ n, inferInstance⟩, ⟨n ≤ 1073741824, inferInstance⟩] [] (.own d) (.rows e (List.replicate n.toNat []) none)
            | _ => none
           else none
         | _ => none
       | _, _ => none
     | _ => none
   | _, _ => none
 | _ => none
def cutMark (d : Nat) : Nat := 1000000 + d
def evS (dst : Option Nat) : Op → Option Eff
 | .slice t x lo hi none => match dst with
   | some d => match Y.get (cutMark d) with
     | some _ => match ρ x, optI ρ lo, optI ρ hi with
       | .cp (.one (.own κ)), some lo, some hi => match ob κ, okK κ len with
         | some (.vec e l), true => match evSlice T ob t (.own κ) lo hi with
           | some out => some ⟨out.conds, [κ], oneA (.own κ), some κ, some (κ, .vec e (slDrop lo (slTake hi l)))⟩
           | none => none
         | _, _ => none
       | _, _, _ => none
     | none => none
   | none => none
 | _ => none
def clrL {α : Type} (l : List α) (y : α) (lo n : Nat) : List α := l.take lo ++ List.replicate n y ++ l.drop (lo + n)
def evClear (el : TypeId) : C → Option Eff
 | .part κ sz lo n => match T.get el, ob κ with
   | some i, some (.vec e l) => match i.zero with
     | some (_, z) => if e.n = i.size ∧ sz = i.size ∧ z.length = i.size then
        match e.of z with
        | some (y, []) => some ⟨[], [κ], anyA, none, some (κ, .vec e (clrL l y lo n))⟩
        | _ => none
       else none
     | none => none
   | _, _ => none
 | _ => none
def evC : Op → Option Eff
 | .call c => match c.callee with
   | .builtin .clear => match c.args.toList, c.argTypes.toList with
     | [x], [t] => match ρ x, T.get t with
       | .cp (.one x), some it => match it.d with
         | .slice el => evClear T ob el x
         | _ => none
       | _, _ => none
     | _, _ => none
   | _ => none
 | _ => none
def updI (k : IntKind) (i : Nat) (v : Int) : Nat → List Int → List C
 | _, [] => []
 | j, a :: r => .int k (if i = j then v else a) :: updI k i v (j + 1) r
def evX1 (dst : Option Nat) : Op → Option Eff
 | .store t p x => match ρ p, ρ x with
   | .cp (.one (.asel (.ptr κ off) n sz i)), .cp (.one (.int k v)) => match T.get t, ob κ with
     | some ti, some (.box cs) => match ti.size.beq 1 && sz.beq 1 && (off + n).ble cs.length, intsC k ((cs.drop off).take n) with
       | true, some l => some ⟨[], [κ], anyA, none, some (κ, .box (cs.take off ++ updI k i v 0 l ++ cs.drop (off + n)))⟩
       | _, _ => none
     | _, _ => none
   | _, _ => none
 | .slice t x none none none => match ρ x with
   | .cp (.one (.ptr κ 0)) => match ob κ, Y.get t with
     | some (.box cs), some e => match e.of cs with
       | some (y, []) => (arrL T t (e.cells y) 0).map fun c => ⟨[], [κ], oneA c, none, some (κ, .fbox e y)⟩
       | _ => none
     | _, _ => none
   | _ => none
 | .makeMap t none => match dst, setB T t, Y.get t with
   | some d, false, some (.map K V) => match mapB T t K V with
     | some _ => mkNew ob len d [] [] (.mp d) (.map K V [] none)
     | none => none
   | _, _, _ => none
 | .mapUpdate t m k x => match ρ m with
   | .cp (.one (.mp κ)) => match ob κ with
     | some (.map K V l _) => match mapB T t K V, datOf K (ρ k), datOf V (ρ x) with
       | some _, some kk, some xx => some ⟨[], [κ], anyA, none, some (κ, .map K V (msetB (kB K) l kk xx) none)⟩
       | _, _, _ => none
     | _ => none
   | _ => none
 | .call c => match c.callee with
   | .builtin .delete => match c.args.toList, c.argTypes.toList with
     | [m, k], [t, _] => match ρ m with
       | .cp (.one (.mp κ)) => match ob κ with
         | some (.map K V l _) => match mapB T t K V, datOf K (ρ k) with
           | some _, some kk => some ⟨[], [κ], anyA, none, some (κ, .map K V (mdelB (kB K) l kk) none)⟩
           | _, _ => none
         | _ => none
       | _ => none
     | _, _ => none
   | _ => none
 | _ => none
def evX (dst : Option Nat) (op : Op) : Option Eff :=
 match evX0 T Y ρ ob len dst op with
 | some e => some e
 | none => match evR T Y ρ ob len dst op with
   | some e => some e
   | none => match evS T Y ρ ob len dst op with
     | some e => some e
     | none => match evC T ρ ob op with
       | some e => some e
       | none => evX1 T Y ρ ob len dst op
end
def St.eff (σ : St) (dst : Option Nat) (e : Eff) : St :=
 let σ1 := match e.kill with
  | some κ => σ.kill κ
  | none => σ
 let σ2 := match e.upd with
  | some (κ, o) => σ1.setOb κ (some o)
  | none => σ1
 σ2.put dst e.v
theorem repl_get {α : Type} (z : List α) : ∀ (n j : Nat), j < n * z.length → (repl n z)[j]? = z[j % z.length]?
 | 0, j, h => by simp at h
 | n + 1, j, h => by
   have hz : 0 < z.length := by
    rcases Nat.eq_zero_or_pos z.length with h0 | h0
    · rw [h0] at h; simp at h
    · exact h0
   simp only [repl]
   rw [Nat.add_mul, Nat.one_mul] at h
   rcases Nat.lt_or_ge j z.length with g | g
   · rw [List.getElem?_append_left g, Nat.mod_eq_of_lt g]
   · rw [List.getElem?_append_right g, repl_get z n (j - z.length) (by omega), Nat.mod_eq_sub_mod g]
theorem repl_len {α : Type} (z : List α) : ∀ n, (repl n z).length = n * z.length
 | 0 => by simp [repl]
 | n + 1 => by simp only [repl, List.length_append, repl_len z n, Nat.add_mul, Nat.one_mul]; omega
theorem repl_rep {w : World} {R : Nat → RL} {Pr : Nat → Prop} {z : List C} {us : List Value} (h : All2 (RepC w R Pr) z us) : ∀ n, All2 (RepC w R Pr) (repl n z) (repl n us)
 | 0 => trivial
 | n + 1 => All2.append h (repl_rep h n)
theorem range_repl (vs : Array Value) (n : Nat) : (((Array.range (n * vs.size)).map (vs[· % vs.size]!)).toList) = repl n vs.toList := by
 apply List.ext_getElem?
 intro j
 rcases Nat.lt_or_ge j (n * vs.size) with h | h
 · have h2 := repl_get vs.toList n j (by simpa using h)
   have hz : 0 < vs.size := by
    rcases Nat.eq_zero_or_pos vs.size with h0 | h0
    · rw [h0] at h; simp at h
    · exact h0
   have hm : j % vs.size < vs.size := Nat.mod_lt _ hz
   rw [h2]
   simp [h, hm]
 · rw [List.getElem?_eq_none (by simpa using h), List.getElem?_eq_none (by rw [repl_len]; simpa using h)]
end Go.Rx
