/- Reflection, part C: the table of types, and the operations that yield a value and leave the world alone. -/
import Derived.Test.YtollcjadobpfdaaRxB
import Derived.Laws.Sem
import Derived.Laws.World
import Derived.Tactics
import Derived.Tactics2
namespace Go.Rx
set_option linter.unusedVariables false
set_option linter.unusedSimpArgs false
set_option linter.unusedSectionVars false
inductive TD where
 | int (k : IntKind) | bool | str | struct (fs : List (Nat × TypeId)) | slice (e : TypeId) | array (n : Nat) (e : TypeId) | map (k v : TypeId) | other
def TD.agg : TD → Bool
 | .struct _ => true
 | .array _ _ => true
 | _ => false
structure TI where
 d : TD
 size : Nat
 bytes : Nat
 zero : Option (Bool × List C)
 eq : Bool
abbrev Tab := List (TypeId × TI)
def Tab.get : Tab → TypeId → Option TI
 | [], _ => none
 | (u, i) :: r, t => if t = u then some i else Tab.get r t
def cOf : Value → C
 | .int k n => .int k n
 | .bool b => .lit b
 | .string s => .str s
 | .slice none 0 0 => .nil
 | _ => .any
theorem rep_cOf (w : World) (R : Nat → RL) (Pr : Nat → Prop) (v : Value) : RepC w R Pr (cOf v) v := by
 unfold cOf
 split <;> first | rfl | trivial
theorem refs_cOf (v : Value) : (cOf v).refs = [] := by
 unfold cOf
 split <;> rfl
def zeroOf : Value → Option (Bool × List C)
 | .agg cs => some (true, cs.toList.map cOf)
 | .tuple _ => none
 | v => some (false, [cOf v])
def tdOf : TypeDesc → TD
 | .int k => .int k
 | .bool => .bool
 | .string => .str
 | .struct fs => .struct (fs.toList.map fun f => (f.offset, f.type))
 | .slice e => .slice e
 | .array n e => .array n e
 | .map k v => .map k v
 | _ => .other
def eqOK (P : Program) (t : TypeId) : TypeDesc → Bool
 | .struct fs => !P.stoodInHeld t && !P.eqGuardType P.depth t && fs.toList.all fun f => !(f.name == "_")
 | .array _ _ => !P.eqGuardType P.depth t
 | _ => false
def mkTI (P : Program) (t : TypeId) : Option TI :=
 match P.info? t, P.underlying t with
 | some ti, some d => some ⟨tdOf d, ti.size, ti.bytes, ti.zero.bind zeroOf, eqOK P t d⟩
 | _, _ => none
def TabOK (P : Program) : Tab → Prop
 | [] => True
 | (t, i) :: r => mkTI P t = some i ∧ TabOK P r
theorem TabOK.get {P : Program} : ∀ {T : Tab} {t : TypeId} {i : TI}, TabOK P T → T.get t = some i → mkTI P t = some i
 | [], _, _, _, h => by cases h
 | (u, j) :: r, t, i, h, g => by
   unfold Tab.get at g
   split at g
   · rename_i e; subst e; cases g; exact h.1
   · exact TabOK.get h.2 g
theorem mkTI_spec {P : Program} {t : TypeId} {i : TI} (h : mkTI P t = some i) : ∃ ti d, P.info? t = some ti ∧ P.underlying t = some d ∧ i = ⟨tdOf d, ti.size, ti.bytes, ti.zero.bind zeroOf, eqOK P t d⟩ := by
 unfold mkTI at h
 split at h
 · rename_i ti d h1 h2; exact ⟨ti, d, h1, h2, (Option.some.inj h).symm⟩
 · cases h
structure DP where
 p : Prop
 d : Decidable p
def subC (i : TI) (cs : List C) (off : Nat) : Option Cp :=
 match i.d with
 | .struct _ | .array _ _ => if off + i.size ≤ cs.length then some (.agg ((cs.drop off).take i.size)) else none
 | .other => none
 | _ => match cs[off]? with
   | some c => some (.one c)
   | none => none
structure Out where
 conds : List DP
 acc : List Nat
 v : AV
abbrev oneA (c : C) : AV := .cp (.one c)
def eqC : TD → C → C → Option DP
 | .int _, .int k a, .int k' b => if k = k' then some ⟨a = b, inferInstance⟩ else none
 | .str, .str a, .str b => some ⟨a = b, inferInstance⟩
 | .bool, .prop p d, .prop q e => some ⟨@decide p d = @decide q e, inferInstance⟩
 | .bool, .lit p, .prop q e => some ⟨p = @decide q e, inferInstance⟩
 | .bool, .prop p d, .lit q => some ⟨@decide p d = q, inferInstance⟩
 | .bool, .lit p, .lit q => some ⟨p = q, inferInstance⟩
 | _, _, _ => none
def conj : List DP → DP
 | [] => ⟨True, inferInstance⟩
 | [x] => x
 | x :: r => ⟨x.p ∧ (conj r).p, @instDecidableAnd _ _ x.d (conj r).d⟩
def negP (x : DP) : C := .prop (¬ x.p) (@instDecidableNot x.p x.d)
def posP (x : DP) : C := .prop x.p x.d
def bitI (op : BinOp) (k : IntKind) (a b : Int) : Int :=
 match op with
 | .and => k.wrap (BitVec.ofInt k.bits a &&& BitVec.ofInt k.bits b).toNat
 | .or => k.wrap (BitVec.ofInt k.bits a ||| BitVec.ofInt k.bits b).toNat
 | _ => k.wrap (BitVec.ofInt k.bits a ^^^ BitVec.ofInt k.bits b).toNat
def evInt (op : BinOp) (k : IntKind) (a b : Int) : Option (List DP × C) :=
 match op with
 | .add => some ([], .int k (k.wrap (a + b)))
 | .sub => some ([], .int k (k.wrap (a - b)))
 | .mul => some ([], .int k (k.wrap (a * b)))
 | .quo => some ([⟨¬ b = 0, inferInstance⟩], .int k (k.wrap (a.tdiv b)))
 | .rem => some ([⟨¬ b = 0, inferInstance⟩], .int k (a.tmod b))
 | .eql => some ([], .prop (a = b) inferInstance)
 | .neq => some ([], .prop (¬ a = b) inferInstance)
 | .lss => some ([], .prop (a < b) inferInstance)
 | .leq => some ([], .prop (a ≤ b) inferInstance)
 | .gtr => some ([], .prop (b < a) inferInstance)
 | .geq => some ([], .prop (b ≤ a) inferInstance)
 | .and => some ([], .int k (bitI .and k a b))
 | .or => some ([], .int k (bitI .or k a b))
 | .xor => some ([], .int k (bitI .xor k a b))
 | .shr => some ([⟨0 ≤ b, inferInstance⟩], .int k (a.fdiv (2 ^ min b.toNat k.bits)))
 | .shl => some ([⟨0 ≤ b, inferInstance⟩], .int k (k.wrap (a * 2 ^ min b.toNat k.bits)))
 | _ => none
def evShift (op : BinOp) (k : IntKind) (a b : Int) : Option (List DP × C) :=
 match op with
 | .shr => some ([⟨0 ≤ b, inferInstance⟩], .int k (a.fdiv (2 ^ min b.toNat k.bits)))
 | .shl => some ([⟨0 ≤ b, inferInstance⟩], .int k (k.wrap (a * 2 ^ min b.toNat k.bits)))
 | _ => none
def field? (T : Tab) (s : TypeId) (f : Nat) : Option (Nat × TypeId) :=
 match T.get s with
 | some i => match i.d with
   | .struct fs => fs[f]?
   | _ => none
 | none => none
def shiftC (k : Nat) : C → Option C
 | .ptr κ off => some (.ptr κ (off + k))
 | .vptr κ sz j off => some (.vptr κ sz j (off + k))
 | .fptr e x off => some (.fptr e x (off + k))
 | .asel c n sz i => match shiftC k c with
   | some c' => some (.asel c' n sz i)
   | none => none
 | _ => none
def intsC (k : IntKind) : List C → Option (List Int)
 | [] => some []
 | .int k' n :: r => if k' = k then (intsC k r).map (n :: ·) else none
 | _ => none
def selC (i : Nat) : List C → Option C
 | .int k n :: r => (intsC k (.int k n :: r)).map fun l => .int k (l.getD i 0)
 | _ => none
def onesC : List Cp → Option (List C)
 | [] => some []
 | .one c :: r => (onesC r).map (c :: ·)
 | _ => none
def rowsC : List Cp → Option (List (List C))
 | [] => some []
 | .agg cs :: r => (rowsC r).map (cs :: ·)
 | _ => none
def selCols (i : Nat) (rows : List (List C)) : Nat → Option (List C)
 | 0 => some []
 | q + 1 => match selCols i rows q, selC i (rows.map fun r => r.getD q .any) with
   | some cs, some c => some (cs ++ [c])
   | _, _ => none
def selCp (i : Nat) : List Cp → Option Cp
 | .agg cs :: r => match rowsC (.agg cs :: r) with
   | some rows => match rows.all fun r => r.length.beq cs.length with
     | true => (selCols i rows cs.length).map .agg
     | false => none
   | none => none
 | xs => match onesC xs with
   | some cs => (selC i cs).map .one
   | none => none
def manyC (f : Nat → Option Out) : Nat → Option (List Nat × List Cp)
 | 0 => some ([], [])
 | n + 1 => match manyC f n, f n with
   | some (acc, l), some ⟨[], a, .cp x⟩ => some (acc ++ a, l ++ [x])
   | _, _ => none
def isPtrC : C → Bool
 | .ptr _ _ => true
 | .vptr _ _ _ _ => true
 | .fptr _ _ _ => true
 | _ => false
section
variable (T : Tab) (ρ : Operand → AV) (ob : Nat → Option Ob)
def evLoad0 (t : TypeId) : C → Option Out
 | .ptr κ off => match T.get t, ob κ with
   | some i, some (.box cs) => match subC i cs off with
     | some x => some ⟨[], [κ], .cp x⟩
     | none => none
   | some i, some (.fbox e x) => match subC i (e.cells x) off with
     | some x => some ⟨[], [κ], .cp x⟩
     | none => none
   | _, _ => none
 | .vptr κ sz j off => match T.get t, ob κ with
   | some i, some (.vec e l) => if e.n = sz then match subC i (e.cells (l.getD j e.z)) off with
     | some x => some ⟨[], [κ], .cp x⟩
     | none => none
     else none
   | _, _ => none
 | .fptr e x off => match T.get t with
   | some i => match subC i (e.cells x) off with
     | some x => some ⟨[], [], .cp x⟩
     | none => none
   | _ => none
 | _ => none
def evLoad (t : TypeId) : C → Option Out
 | .asel c n sz i => match manyC (fun j => (shiftC (j * sz) c).bind (evLoad0 T ob t)) n with
   | some (acc, xs) => (selCp i xs).map fun x => ⟨[], acc, .cp x⟩
   | none => none
 | c => evLoad0 T ob t c
def evFieldAddr (s : TypeId) (f : Nat) (c : C) : Option Out :=
 match field? T s f with
 | some (o, ft) => match T.get ft with
   | some i => if i.size = 0 then none else (shiftC o c).map fun c => ⟨[], [], oneA c⟩
   | none => none
 | none => none
def evIndexAddr (t : TypeId) (x : C) (cst : Bool) (n : Int) : Option Out :=
 match T.get t with
 | some i => match i.d with
   | .slice el => match T.get el with
     | some ei => match x with
       | .val b e y => if e.n = ei.size then some ⟨[⟨0 ≤ n, inferInstance⟩, ⟨n < ((slL b y).length : Int), inferInstance⟩], [], oneA (.fptr e ((slL b y).getD n.toNat e.z) 0)⟩ else none
       | .own κ => match ob κ with
         | some (.vec e l) => if e.n = ei.size then some ⟨[⟨0 ≤ n, inferInstance⟩, ⟨n < (l.length : Int), inferInstance⟩], [κ], oneA (.vptr κ ei.size n.toNat 0)⟩ else none
         | some (.rows _ ll _) => if 1 = ei.size then some ⟨[⟨0 ≤ n, inferInstance⟩, ⟨n < (ll.length : Int), inferInstance⟩], [κ], oneA (.vptr κ 1 n.toNat 0)⟩ else none
         | _ => none
       | .part κ sz lo m => if sz = ei.size then some ⟨[⟨0 ≤ n, inferInstance⟩, ⟨n < (m : Int), inferInstance⟩], [], oneA (.vptr κ sz (lo + n.toNat) 0)⟩ else none
       | _ => none
     | none => none
   | .array m el => match T.get el with
     | some ei => match cst with
       | true => match n with
         | .ofNat q => if q < m then (shiftC (q * ei.size) x).map fun c => ⟨[], [], oneA c⟩ else none
         | _ => none
       | false => match isPtrC x with
         | true => some ⟨[⟨0 ≤ n, inferInstance⟩, ⟨n < (m : Int), inferInstance⟩], [], oneA (.asel x m ei.size n.toNat)⟩
         | false => none
     | none => none
   | _ => none
 | none => none
def evIndexArr (t : TypeId) (cs : List C) (cst : Bool) (n : Int) : Option Out :=
 match T.get t with
 | some i => match i.d with
   | .array m el => match T.get el with
     | some ei => match cst with
       | true => match n with
         | .ofNat q => if q < m then (subC ei cs (q * ei.size)).map fun x => ⟨[], [], .cp x⟩ else none
         | _ => none
       | false => match manyC (fun j => (subC ei cs (j * ei.size)).map fun x => ⟨[], [], .cp x⟩) m with
         | some (_, xs) => (selCp n.toNat xs).map fun x => ⟨[⟨0 ≤ n, inferInstance⟩, ⟨n < (m : Int), inferInstance⟩], [], .cp x⟩
         | none => none
     | none => none
   | _ => none
 | none => none
def evLen : C → Option Out
 | .part _ _ _ m => some ⟨[], [], oneA (.int .i64 (m : Int))⟩
 | .val b e x => some ⟨[], [], oneA (.int .i64 ((slL b x).length : Int))⟩
 | .own κ => match ob κ with
   | some (.vec e l) => some ⟨[], [κ], oneA (.int .i64 (l.length : Int))⟩
   | _ => none
 | .str s => some ⟨[], [], oneA (.int .i64 (s.size : Int))⟩
 | .nil => some ⟨[], [], oneA (.int .i64 0)⟩
 | _ => none
def evLenM : C → Option Out
 | .mp κ => match ob κ with
   | some (.map _ _ l _) => some ⟨[], [κ], oneA (.int .i64 (l.length : Int))⟩
   | _ => none
 | .dat (.map _ _) x => some ⟨[], [], oneA (.int .i64 (List.length x : Int))⟩
 | _ => none
def isNilO {α : Type} : slD true α → Bool
 | none => true
 | some _ => false
def evNilEq : C → C → Option DP
 | .nil, .nil => some ⟨True, inferInstance⟩
 | .val true _ x, .nil => some ⟨isNilO x = true, inferInstance⟩
 | .nil, .val true _ x => some ⟨isNilO x = true, inferInstance⟩
 | _, _ => none
def eqF : Nat → List (Nat × TypeId) → List C → List C → Option (List DP)
 | 0, _, _, _ => none
 | _ + 1, [], _, _ => some []
 | n + 1, (off, ft) :: r, cs, ds => match T.get ft with
   | some i => match i.d with
     | .struct fs => if i.eq && (off + i.size).ble cs.length && (off + i.size).ble ds.length then
        match eqF n fs ((cs.drop off).take i.size) ((ds.drop off).take i.size), eqF n r cs ds with
        | some x, some y => some (conj x :: y)
        | _, _ => none
        else none
     | .array m el => match T.get el with
       | some ei => if i.eq && (off + i.size).ble cs.length && (off + i.size).ble ds.length then
          match eqF n ((List.range m).map fun j => (j * ei.size, el)) ((cs.drop off).take i.size) ((ds.drop off).take i.size), eqF n r cs ds with
          | some x, some y => some (conj x :: y)
          | _, _ => none
         else none
       | none => none
     | .int _ | .bool | .str => match cs[off]?, ds[off]? with
       | some a, some b => match eqC i.d a b, eqF n r cs ds with
         | some x, some y => some (x :: y)
         | _, _ => none
       | _, _ => none
     | _ => none
   | none => none
def evEq (t : TypeId) : AV → AV → Option DP
 | .cp (.one a), .cp (.one b) => match T.get t with
   | some i => match i.d with
     | .int _ | .bool | .str => eqC i.d a b
     | .slice _ => evNilEq a b
     | _ => none
   | none => none
 | .cp (.agg cs), .cp (.agg ds) => match T.get t with
   | some i => match i.d with
     | .struct fs => if i.eq then (eqF T 40 fs cs ds).map conj else none
     | .array m el => match T.get el with
       | some ei => if i.eq then (eqF T 40 ((List.range m).map fun j => (j * ei.size, el)) cs ds).map conj else none
       | none => none
     | _ => none
   | none => none
 | _, _ => none
def evBin (op : BinOp) (t : TypeId) (x y : AV) : Option Out :=
 match op with
 | .eql => (evEq T t x y).map fun p => ⟨[], [], oneA (posP p)⟩
 | .neq => (evEq T t x y).map fun p => ⟨[], [], oneA (negP p)⟩
 | op => match x, y with
   | .cp (.one (.int k a)), .cp (.one (.int k' b)) => if k = k' then (evInt op k a b).map fun p => ⟨p.1, [], oneA p.2⟩ else (evShift op k a b).map fun p => ⟨p.1, [], oneA p.2⟩
   | _, _ => none
def evUn : UnOp → C → Option Out
 | .not, .lit b => some ⟨[], [], oneA (.lit (!b))⟩
 | .not, .prop p d => some ⟨[], [], oneA (.prop (¬ p) (@instDecidableNot p d))⟩
 | .neg, .int k n => some ⟨[], [], oneA (.int k (k.wrap (0 - n)))⟩
 | _, _ => none
def evConv (src dst : TypeId) : C → Option Out
 | .int _ n => match T.get src, T.get dst with
   | some _, some i => match i.d with
     | .int k => some ⟨[], [], oneA (.int k (k.wrap n))⟩
     | _ => none
   | _, _ => none
 | _ => none
def evField (s : TypeId) (f : Nat) (cs : List C) : Option Out :=
 match field? T s f with
 | some (o, ft) => match T.get ft with
   | some i => match subC i cs o with
     | some x => some ⟨[], [], .cp x⟩
     | none => none
   | none => none
 | none => none
def cpCells : Cp → Option (List C)
 | .one .any => none
 | .one c => some [c]
 | .agg cs => some cs
def fillC (place : Nat → Option (Nat × Nat)) : List C → List (Nat × AV) → Option (List C)
 | cells, [] => some cells
 | cells, (i, .cp x) :: rest => match place i, cpCells x with
   | some (off, size), some cs => if cs.length = size ∧ off + size ≤ cells.length then fillC place (cells.take off ++ cs ++ cells.drop (off + size)) rest else none
   | _, _ => none
 | _, (_, .tup _) :: _ => none
def placeC (s : TypeId) (f : Nat) : Option (Nat × Nat) :=
 match field? T s f with
 | some (o, ft) => match T.get ft with
   | some i => some (o, i.size)
   | none => none
 | none => none
def evBuild (t : TypeId) (parts : List (Nat × AV)) : Option Out :=
 match T.get t with
 | some i => match i.d, i.zero with
   | .struct fs, some (true, z) => if fs.all (fun f => (T.get f.2).isSome) then (fillC (placeC T t) z parts).map fun cs => ⟨[], [], .cp (.agg cs)⟩ else none
   | .array _ el, some (true, z) => match T.get el with
     | some ei => (fillC (fun j => some (j * ei.size, ei.size)) z parts).map fun cs => ⟨[], [], .cp (.agg cs)⟩
     | none => none
   | _, _ => none
 | none => none
def strAt (s : ByteArray) (i : Nat) : Int := ((s.data.toList.getD i 0).toNat : Int)
theorem strAt_eq (s : ByteArray) (i : Nat) (h : i < s.size) : strAt s i = ((s[i]'h).toNat : Int) := by
 unfold strAt
 have h' : i < s.data.toList.length := by simpa using h
 rw [List.getD_eq_getElem?_getD, List.getElem?_eq_getElem h']
 simp [ByteArray.getElem_eq_getElem_data]
def mx2 : Bool → Int → Int → Int
 | true, x, y => if x < y then y else x
 | false, x, y => if y < x then y else x
def mxC (mx : Bool) (k : IntKind) : Int → List AV → Option C
 | x, [] => some (.int k x)
 | x, .cp (.one (.int j y)) :: r => if j = k then mxC mx k (mx2 mx x y) r else none
 | _, _ => none
end
end Go.Rx
