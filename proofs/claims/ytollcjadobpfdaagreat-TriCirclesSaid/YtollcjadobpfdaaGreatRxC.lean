/- Reflection, part C: the table of types, and the operations that yield a value and leave the world alone. -/
import Derived.Test.YtollcjadobpfdaaGreatRxB
import Derived.Laws.Sem
import Derived.Laws.World
import Derived.Tactics
import Derived.Tactics2
set_option linter.unusedVariables false
set_option linter.unusedSimpArgs false
set_option linter.unusedSectionVars false
namespace Go.Rx
inductive TD where
 |int (k:IntKind)|bool|str|struct (fs:List (Nat×TypeId))|slice (e:TypeId)|array (n:Nat) (e:TypeId)|map (k v:TypeId)|other
def TD.agg:TD->Bool
 | .struct _=>true
 | .array _ _=>true
 |_=>false
structure TI where
 d:TD
 size:Nat
 bytes:Nat
 zero:Option (Bool×List C)
 eq:Bool
abbrev bh:=List (TypeId×TI)
def bh.get:bh->TypeId->Option TI
 | [],_=>none
 | (u,i)::r,t=>if t=u then some i else bh.get r t
def nP:Value->C
 | .int k n=>.int k n
 | .bool b=>.lit b
 | .string s=>.str s
 | .slice none 0 0=>.nil
 |_=>.any
theorem kD (w:World) (R:Nat->RL) (Pr:Nat->Prop) (v:Value):au w R Pr (nP v) v:=by
 unfold nP
 split<;>first|rfl|trivial
theorem lB (v:Value):(nP v).refs=[]:=by
 unfold nP
 split<;>rfl
def zeroOf:Value->Option (Bool×List C)
 | .agg cs=>some (true,cs.toList.map nP)
 | .tuple _=>none
 |v=>some (false,[nP v])
def dN:TypeDesc->TD
 | .int k=>.int k
 | .bool=>.bool
 | .string=>.str
 | .struct fs=>.struct (fs.toList.map λ f=>(f.offset,f.type))
 | .slice e=>.slice e
 | .array n e=>.array n e
 | .map k v=>.map k v
 |_=>.other
def sN (P:Program) (t:TypeId):TypeDesc->Bool
 | .struct fs => !P.stoodInHeld t && !P.eqGuardType P.depth t && fs.toList.all fun f => !(f.name == "_")
 | .array _ _=> !P.eqGuardType P.depth t
 |_=>false
def vP (P:Program) (t:TypeId):Option TI:=
 match P.info? t,P.underlying t with
 |some ti,some d=>some ⟨dN d,ti.size,ti.bytes,ti.zero.bind zeroOf,sN P t d⟩
 |_,_=>none
def bC (P:Program):bh->Prop
 | []=>True
 | (t,i)::r=>vP P t=some i/\bC P r
theorem bC.get {P:Program}:∀{T:bh} {t:TypeId} {i:TI},bC P T->T.get t=some i->vP P t=some i
 | [],_,_,_,h=>by cases h
 | (u,j)::r,t,i,h,g=>by
   unfold bh.get at g
   split at g
   ·rename_i e;subst e;cases g;exact h.1
   ·exact bC.get h.2 g
theorem xz {P:Program} {t:TypeId} {i:TI} (h:vP P t=some i):∃ti d,P.info? t=some ti/\P.underlying t=some d/\i=⟨dN d,ti.size,ti.bytes,ti.zero.bind zeroOf,sN P t d⟩:=by
 unfold vP at h
 split at h
 ·rename_i ti d h1 h2;exact ⟨ti,d,h1,h2,(Option.some.inj h).symm⟩
 ·cases h
structure DP where
 p:Prop
 d:Decidable p
def gE (i:TI) (cs:List C) (off:Nat):Option Cp:=
 match i.d with
 | .struct _| .array _ _=>if off+i.size<=cs.length then some (.agg ((cs.drop off).take i.size)) else none
 | .other=>none
 |_=>match cs[off]? with
  |some c=>some (.one c)
  |none=>none
structure Out where
 conds:List DP
 acc:List Nat
 v:AV
abbrev aQ (c:C):AV:=.cp (.one c)
def qT:TD->C->C->Option DP
 | .int _,.int k a,.int k' b=>if k=k' then some ⟨a=b,inferInstance⟩ else none
 | .str,.str a,.str b=>some ⟨a=b,inferInstance⟩
 | .bool,.prop p d,.prop q e=>some ⟨@decide p d=@decide q e,inferInstance⟩
 | .bool,.lit p,.prop q e=>some ⟨p=@decide q e,inferInstance⟩
 | .bool,.prop p d,.lit q=>some ⟨@decide p d=q,inferInstance⟩
 | .bool,.lit p,.lit q=>some ⟨p=q,inferInstance⟩
 |_,_,_=>none
def conj:List DP->DP
 | []=>⟨True,inferInstance⟩
 | [x]=>x
 |x::r=>⟨x.p/\(conj r).p,@instDecidableAnd _ _ x.d (conj r).d⟩
def B3 (x:DP):C:=.prop (¬x.p) (@instDecidableNot x.p x.d)
def B5 (x:DP):C:=.prop x.p x.d
def qj (op:BinOp) (k:IntKind) (a b:Int):Int:=
 match op with
 | .and=>k.wrap (BitVec.ofInt k.bits a &&& BitVec.ofInt k.bits b).toNat
 | .or=>k.wrap (BitVec.ofInt k.bits a ||| BitVec.ofInt k.bits b).toNat
 |_=>k.wrap (BitVec.ofInt k.bits a ^^^ BitVec.ofInt k.bits b).toNat
def vh (op:BinOp) (k:IntKind) (a b:Int):Option (List DP×C):=
 match op with
 | .add=>some ([],.int k (k.wrap (a+b)))
 | .sub=>some ([],.int k (k.wrap (a - b)))
 | .mul=>some ([],.int k (k.wrap (a * b)))
 | .quo=>some ([⟨¬b=0,inferInstance⟩],.int k (k.wrap (a.tdiv b)))
 | .rem=>some ([⟨¬b=0,inferInstance⟩],.int k (a.tmod b))
 | .eql=>some ([],.prop (a=b) inferInstance)
 | .neq=>some ([],.prop (¬a=b) inferInstance)
 | .lss=>some ([],.prop (a <b) inferInstance)
 | .leq=>some ([],.prop (a<=b) inferInstance)
 | .gtr=>some ([],.prop (b <a) inferInstance)
 | .geq=>some ([],.prop (b<=a) inferInstance)
 | .and=>some ([],.int k (qj .and k a b))
 | .or=>some ([],.int k (qj .or k a b))
 | .xor=>some ([],.int k (qj .xor k a b))
 | .shr=>some ([⟨0<=b,inferInstance⟩],.int k (a.fdiv (2 ^ min b.toNat k.bits)))
 | .shl=>some ([⟨0<=b,inferInstance⟩],.int k (k.wrap (a * 2 ^ min b.toNat k.bits)))
 |_=>none
def qn (op:BinOp) (k:IntKind) (a b:Int):Option (List DP×C):=
 match op with
 | .shr=>some ([⟨0<=b,inferInstance⟩],.int k (a.fdiv (2 ^ min b.toNat k.bits)))
 | .shl=>some ([⟨0<=b,inferInstance⟩],.int k (k.wrap (a * 2 ^ min b.toNat k.bits)))
 |_=>none
def kg (T:bh) (s:TypeId) (f:Nat):Option (Nat×TypeId):=
 match T.get s with
 |some i=>match i.d with
  | .struct fs=>fs[f]?
  |_=>none
 |none=>none
def dX (k:Nat):C->Option C
 | .ptr κ off=>some (.ptr κ (off+k))
 | .dO κ sz j off=>some (.dO κ sz j (off+k))
 | .fG e x off=>some (.fG e x (off+k))
 | .jo c n sz i=>match dX k c with
   |some c'=>some (.jo c' n sz i)
   |none=>none
 |_=>none
def eA (k:IntKind):List C->Option (List Int)
 | []=>some []
 | .int k' n::r=>if k'=k then (eA k r).map (n:: ·) else none
 |_=>none
def vU (i:Nat):List C->Option C
 | .int k n::r=>(eA k (.int k n::r)).map λ l=>.int k (l.getD i 0)
 |_=>none
def p4:List Cp->Option (List C)
 | []=>some []
 | .one c::r=>(p4 r).map (c:: ·)
 |_=>none
def p9:List Cp->Option (List (List C))
 | []=>some []
 | .agg cs::r=>(p9 r).map (cs:: ·)
 |_=>none
def kE (i:Nat) (rows:List (List C)):Nat->Option (List C)
 | 0=>some []
 |q+1=>match kE i rows q,vU i (rows.map λ r=>r.getD q .any) with
  |some cs,some c=>some (cs++[c])
  |_,_=>none
def sw (i:Nat):List Cp->Option Cp
 | .agg cs::r=>match p9 (.agg cs::r) with
   |some rows=>match rows.all λ r=>r.length.beq cs.length with
    |true=>(kE i rows cs.length).map .agg
    |false=>none
   |none=>none
 |xs=>match p4 xs with
  |some cs=>(vU i cs).map .one
  |none=>none
def iR (f:Nat->Option Out):Nat->Option (List Nat×List Cp)
 | 0=>some ([],[])
 |n+1=>match iR f n,f n with
  |some (acc,l),some ⟨[],a,.cp x⟩=>some (acc++a,l++[x])
  |_,_=>none
def Au:C->Bool
 | .ptr _ _=>true
 | .dO _ _ _ _=>true
 | .fG _ _ _=>true
 |_=>false
section
variable (T:bh) (ρ:Operand->AV) (ob:Nat->Option Ob)
def fq (t:TypeId):C->Option Out
 | .ptr κ off=>match T.get t,ob κ with
   |some i,some (.box cs)=>match gE i cs off with
    |some x=>some ⟨[],[κ],.cp x⟩
    |none=>none
   |some i,some (.cG e x)=>match gE i (e.cells x) off with
    |some x=>some ⟨[],[κ],.cp x⟩
    |none=>none
   |_,_=>none
 | .dO κ sz j off=>match T.get t,ob κ with
   |some i,some (.vec e l)=>if e.n=sz then match gE i (e.cells (l.getD j e.z)) off with
    |some x=>some ⟨[],[κ],.cp x⟩
    |none=>none
    else none
   |_,_=>none
 | .fG e x off=>match T.get t with
   |some i=>match gE i (e.cells x) off with
    |some x=>some ⟨[],[],.cp x⟩
    |none=>none
   |_=>none
 |_=>none
def ia (t:TypeId):C->Option Out
 | .jo c n sz i=>match iR (λ j=>(dX (j * sz) c).bind (fq T ob t)) n with
   |some (acc,xs)=>(sw i xs).map λ x=>⟨[],acc,.cp x⟩
   |none=>none
 |c=>fq T ob t c
def j5 (s:TypeId) (f:Nat) (c:C):Option Out:=
 match kg T s f with
 |some (o,ft)=>match T.get ft with
  |some i=>if i.size=0 then none else (dX o c).map λ c=>⟨[],[],aQ c⟩
  |none=>none
 |none=>none
def dJ (t:TypeId) (x:C) (cst:Bool) (n:Int):Option Out:=
 match T.get t with
 |some i=>match i.d with
  | .slice el=>match T.get el with
    |some ei=>match x with
     | .val b e y=>if e.n=ei.size then some ⟨[⟨0<=n,inferInstance⟩,⟨n <((bX b y).length:Int),inferInstance⟩],[],aQ (.fG e ((bX b y).getD n.toNat e.z) 0)⟩ else none
     | .own κ=>match ob κ with
       |some (.vec e l)=>if e.n=ei.size then some ⟨[⟨0<=n,inferInstance⟩,⟨n <(l.length:Int),inferInstance⟩],[κ],aQ (.dO κ ei.size n.toNat 0)⟩ else none
       |some (.rows _ ll _ _ m _)=>if m+1=ei.size then some ⟨[⟨0<=n,inferInstance⟩,⟨n <(ll.length:Int),inferInstance⟩],[κ],aQ (.dO κ (m+1) n.toNat 0)⟩ else none
       |_=>none
     | .part κ sz lo m=>if sz=ei.size then some ⟨[⟨0<=n,inferInstance⟩,⟨n <(m:Int),inferInstance⟩],[],aQ (.dO κ sz (lo+n.toNat) 0)⟩ else none
     |_=>none
    |none=>none
  | .array m el=>match T.get el with
    |some ei=>match cst with
     |true=>match n with
      | .ofNat q=>if q <m then (dX (q * ei.size) x).map λ c=>⟨[],[],aQ c⟩ else none
      |_=>none
     |false=>match Au x with
      |true=>some ⟨[⟨0<=n,inferInstance⟩,⟨n <(m:Int),inferInstance⟩],[],aQ (.jo x m ei.size n.toNat)⟩
      |false=>none
    |none=>none
  |_=>none
 |none=>none
def kU (t:TypeId) (cs:List C) (cst:Bool) (n:Int):Option Out:=
 match T.get t with
 |some i=>match i.d with
  | .array m el=>match T.get el with
    |some ei=>match cst with
     |true=>match n with
      | .ofNat q=>if q <m then (gE ei cs (q * ei.size)).map λ x=>⟨[],[],.cp x⟩ else none
      |_=>none
     |false=>match iR (λ j=>(gE ei cs (j * ei.size)).map λ x=>⟨[],[],.cp x⟩) m with
      |some (_,xs)=>(sw n.toNat xs).map λ x=>⟨[⟨0<=n,inferInstance⟩,⟨n <(m:Int),inferInstance⟩],[],.cp x⟩
      |none=>none
    |none=>none
  |_=>none
 |none=>none
def jM:C->Option Out
 | .part _ _ _ m=>some ⟨[],[],aQ (.int .i64 (m:Int))⟩
 | .val b e x=>some ⟨[],[],aQ (.int .i64 ((bX b x).length:Int))⟩
 | .own κ=>match ob κ with
   |some (.vec e l)=>some ⟨[],[κ],aQ (.int .i64 (l.length:Int))⟩
   |some (.rows e ll _ _ _ _)=>some ⟨[],[κ],aQ (.int .i64 (ll.length:Int))⟩
   |_=>none
 | .new _ l=>some ⟨[],[],aQ (.int .i64 (l.length:Int))⟩
 | .str s=>some ⟨[],[],aQ (.int .i64 (s.size:Int))⟩
 | .nil=>some ⟨[],[],aQ (.int .i64 0)⟩
 |_=>none
def l6:C->Option Out
 | .mp κ=>match ob κ with
   |some (.map _ _ l _)=>some ⟨[],[κ],aQ (.int .i64 (l.length:Int))⟩
   |_=>none
 | .dat (.map _ _) x=>some ⟨[],[],aQ (.int .i64 (List.length x:Int))⟩
 |_=>none
def td {α:Type}:gH true α->Bool
 |none=>true
 |some _=>false
def nv:C->C->Option DP
 | .nil,.nil=>some ⟨True,inferInstance⟩
 | .val true _ x,.nil=>some ⟨td x=true,inferInstance⟩
 | .nil,.val true _ x=>some ⟨td x=true,inferInstance⟩
 |_,_=>none
def jq:Nat->List (Nat×TypeId)->List C->List C->Option (List DP)
 | 0,_,_,_=>none
 |_+1,[],_,_=>some []
 |n+1,(off,ft)::r,cs,ds=>match T.get ft with
  |some i=>match i.d with
   | .struct fs=>if i.eq && (off+i.size).ble cs.length && (off+i.size).ble ds.length then
      match jq n fs ((cs.drop off).take i.size) ((ds.drop off).take i.size),jq n r cs ds with
      |some x,some y=>some (conj x::y)
      |_,_=>none
      else none
   | .array m el=>match T.get el with
     |some ei=>if i.eq && (off+i.size).ble cs.length && (off+i.size).ble ds.length then
       match jq n ((List.range m).map λ j=>(j * ei.size,el)) ((cs.drop off).take i.size) ((ds.drop off).take i.size),jq n r cs ds with
       |some x,some y=>some (conj x::y)
       |_,_=>none
      else none
     |none=>none
   | .int _| .bool| .str=>match cs[off]?,ds[off]? with
     |some a,some b=>match qT i.d a b,jq n r cs ds with
      |some x,some y=>some (x::y)
      |_,_=>none
     |_,_=>none
   |_=>none
  |none=>none
def vg (t:TypeId):AV->AV->Option DP
 | .cp (.one a),.cp (.one b)=>match T.get t with
   |some i=>match i.d with
    | .int _| .bool| .str=>qT i.d a b
    | .slice _=>nv a b
    |_=>none
   |none=>none
 | .cp (.agg cs),.cp (.agg ds)=>match T.get t with
   |some i=>match i.d with
    | .struct fs=>if i.eq then (jq T 40 fs cs ds).map conj else none
    | .array m el=>match T.get el with
      |some ei=>if i.eq then (jq T 40 ((List.range m).map λ j=>(j * ei.size,el)) cs ds).map conj else none
      |none=>none
    |_=>none
   |none=>none
 |_,_=>none
def vf (op:BinOp) (t:TypeId) (x y:AV):Option Out:=
 match op with
 | .eql=>(vg T t x y).map λ p=>⟨[],[],aQ (B5 p)⟩
 | .neq=>(vg T t x y).map λ p=>⟨[],[],aQ (B3 p)⟩
 |op=>match x,y with
  | .cp (.one (.int k a)),.cp (.one (.int k' b))=>if k=k' then (vh op k a b).map λ p=>⟨p.1,[],aQ p.2⟩ else (qn op k a b).map λ p=>⟨p.1,[],aQ p.2⟩
  |_,_=>none
def x3:UnOp->C->Option Out
 | .not,.lit b=>some ⟨[],[],aQ (.lit (!b))⟩
 | .not,.prop p d=>some ⟨[],[],aQ (.prop (¬p) (@instDecidableNot p d))⟩
 | .neg,.int k n=>some ⟨[],[],aQ (.int k (k.wrap (0 - n)))⟩
 |_,_=>none
def sO (src dst:TypeId):C->Option Out
 | .int _ n=>match T.get src,T.get dst with
   |some _,some i=>match i.d with
    | .int k=>some ⟨[],[],aQ (.int k (k.wrap n))⟩
    |_=>none
   |_,_=>none
 |_=>none
def qm (s:TypeId) (f:Nat) (cs:List C):Option Out:=
 match kg T s f with
 |some (o,ft)=>match T.get ft with
  |some i=>match gE i cs o with
   |some x=>some ⟨[],[],.cp x⟩
   |none=>none
  |none=>none
 |none=>none
def bV:Cp->Option (List C)
 | .one .any=>none
 | .one c=>some [c]
 | .agg cs=>some cs
def iO (place:Nat->Option (Nat×Nat)):List C->List (Nat×AV)->Option (List C)
 |cells,[]=>some cells
 |cells,(i,.cp x)::rest=>match place i,bV x with
  |some (off,size),some cs=>if cs.length=size/\off+size<=cells.length then iO place (cells.take off++cs++cells.drop (off+size)) rest else none
  |_,_=>none
 |_,(_,.bO _)::_=>none
def tG (s:TypeId) (f:Nat):Option (Nat×Nat):=
 match kg T s f with
 |some (o,ft)=>match T.get ft with
  |some i=>some (o,i.size)
  |none=>none
 |none=>none
def ql (t:TypeId) (parts:List (Nat×AV)):Option Out:=
 match T.get t with
 |some i=>match i.d,i.zero with
  | .struct fs,some (true,z)=>if fs.all (λ f=>(T.get f.2).isSome) then (iO (tG T t) z parts).map λ cs=>⟨[],[],.cp (.agg cs)⟩ else none
  | .array _ el,some (true,z)=>match T.get el with
    |some ei=>(iO (λ j=>some (j * ei.size,ei.size)) z parts).map λ cs=>⟨[],[],.cp (.agg cs)⟩
    |none=>none
  |_,_=>none
 |none=>none
def sA (s:ByteArray) (i:Nat):Int:=((s.data.toList.getD i 0).toNat:Int)
theorem yz (s:ByteArray) (i:Nat) (h:i <s.size):sA s i=((s[i]'h).toNat:Int):=by
 unfold sA
 have h':i <s.data.toList.length:=by simpa using h
 rw [List.getD_eq_getElem?_getD,List.getElem?_eq_getElem h']
 simp [ByteArray.getElem_eq_getElem_data]
def uJ:Bool->Int->Int->Int
 |true,x,y=>if x <y then y else x
 |false,x,y=>if y <x then y else x
def uK (mx:Bool) (k:IntKind):Int->List AV->Option C
 |x,[]=>some (.int k x)
 |x,.cp (.one (.int j y))::r=>if j=k then uK mx k (uJ mx x y) r else none
 |_,_=>none
end
end Go.Rx
