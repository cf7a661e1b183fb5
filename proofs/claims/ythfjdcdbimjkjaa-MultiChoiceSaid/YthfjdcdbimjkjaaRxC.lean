/- Reflection, part C: the table of types, and the operations that yield a value and leave the world alone. -/
import Derived.Test.YthfjdcdbimjkjaaRxB
import Derived.Laws.Sem
import Derived.Laws.World
import Derived.Tactics
import Derived.Tactics2
set_option linter.unusedVariables false
set_option linter.unusedSimpArgs false
set_option linter.unusedSectionVars false
namespace Go.Rx
inductive TD where
 |int (k:IntKind)|bool|str|struct (fs:List (Nat×TypeId))|slice (e:TypeId)|array (n:Nat) (e:TypeId)|map (k v:TypeId)|other
def TD.agg:TD->Bool
 | .struct _=>true
 | .array _ _=>true
 |_=>false
structure TI where
 d:TD
 size:Nat
 bytes:Nat
 zero:Option (Bool×List C)
 eq:Bool
abbrev bh:=List (TypeId×TI)
def bh.get:bh->TypeId->Option TI
 | [],_=>none
 | (u,i)::r,t=>if t=u then some i else bh.get r t
def nN:Value->C
 | .int k n=>.int k n
 | .bool b=>.lit b
 | .string s=>.str s
 | .slice none 0 0=>.nil
 |_=>.any
theorem kA (w:World) (R:Nat->RL) (Pr:Nat->Prop) (v:Value):au w R Pr (nN v) v:=by
 unfold nN
 split<;>first|rfl|trivial
theorem lu (v:Value):(nN v).refs=[]:=by
 unfold nN
 split<;>rfl
def zeroOf:Value->Option (Bool×List C)
 | .agg cs=>some (true,cs.toList.map nN)
 | .tuple _=>none
 |v=>some (false,[nN v])
def dM:TypeDesc->TD
 | .int k=>.int k
 | .bool=>.bool
 | .string=>.str
 | .struct fs=>.struct (fs.toList.map λ f=>(f.offset,f.type))
 | .slice e=>.slice e
 | .array n e=>.array n e
 | .map k v=>.map k v
 |_=>.other
def sH (P:Program) (t:TypeId):TypeDesc->Bool
 | .struct fs => !P.stoodInHeld t && !P.eqGuardType P.depth t && fs.toList.all fun f => !(f.name == "_")
 | .array _ _=> !P.eqGuardType P.depth t
 |_=>false
def vH (P:Program) (t:TypeId):Option TI:=
 match P.info? t,P.underlying t with
 |some ti,some d=>some ⟨dM d,ti.size,ti.bytes,ti.zero.bind zeroOf,sH P t d⟩
 |_,_=>none
def bA (P:Program):bh->Prop
 | []=>True
 | (t,i)::r=>vH P t=some i/\bA P r
theorem bA.get {P:Program}:∀{T:bh} {t:TypeId} {i:TI},bA P T->T.get t=some i->vH P t=some i
 | [],_,_,_,h=>by cases h
 | (u,j)::r,t,i,h,g=>by
   unfold bh.get at g
   split at g
   ·rename_i e;subst e;cases g;exact h.1
   ·exact bA.get h.2 g
theorem xg {P:Program} {t:TypeId} {i:TI} (h:vH P t=some i):∃ti d,P.info? t=some ti/\P.underlying t=some d/\i=⟨dM d,ti.size,ti.bytes,ti.zero.bind zeroOf,sH P t d⟩:=by
 unfold vH at h
 split at h
 ·rename_i ti d h1 h2;exact ⟨ti,d,h1,h2,(Option.some.inj h).symm⟩
 ·cases h
structure DP where
 p:Prop
 d:Decidable p
def gD (i:TI) (cs:List C) (off:Nat):Option Cp:=
 match i.d with
 | .struct _| .array _ _=>if off+i.size<=cs.length then some (.agg ((cs.drop off).take i.size)) else none
 | .other=>none
 |_=>match cs[off]? with
  |some c=>some (.one c)
  |none=>none
structure Out where
 conds:List DP
 acc:List Nat
 v:AV
abbrev aN (c:C):AV:=.cp (.one c)
def qO:TD->C->C->Option DP
 | .int _,.int k a,.int k' b=>if k=k' then some ⟨a=b,inferInstance⟩ else none
 | .str,.str a,.str b=>some ⟨a=b,inferInstance⟩
 | .bool,.prop p d,.prop q e=>some ⟨@decide p d=@decide q e,inferInstance⟩
 | .bool,.lit p,.prop q e=>some ⟨p=@decide q e,inferInstance⟩
 | .bool,.prop p d,.lit q=>some ⟨@decide p d=q,inferInstance⟩
 | .bool,.lit p,.lit q=>some ⟨p=q,inferInstance⟩
 |_,_,_=>none
def conj:List DP->DP
 | []=>⟨True,inferInstance⟩
 | [x]=>x
 |x::r=>⟨x.p/\(conj r).p,@instDecidableAnd _ _ x.d (conj r).d⟩
def BL (x:DP):C:=.prop (¬x.p) (@instDecidableNot x.p x.d)
def BN (x:DP):C:=.prop x.p x.d
def qe (op:BinOp) (k:IntKind) (a b:Int):Int:=
 match op with
 | .and=>k.wrap (BitVec.ofInt k.bits a &&& BitVec.ofInt k.bits b).toNat
 | .or=>k.wrap (BitVec.ofInt k.bits a ||| BitVec.ofInt k.bits b).toNat
 |_=>k.wrap (BitVec.ofInt k.bits a ^^^ BitVec.ofInt k.bits b).toNat
def u5 (op:BinOp) (k:IntKind) (a b:Int):Option (List DP×C):=
 match op with
 | .add=>some ([],.int k (k.wrap (a+b)))
 | .sub=>some ([],.int k (k.wrap (a - b)))
 | .mul=>some ([],.int k (k.wrap (a * b)))
 | .quo=>some ([⟨¬b=0,inferInstance⟩],.int k (k.wrap (a.tdiv b)))
 | .rem=>some ([⟨¬b=0,inferInstance⟩],.int k (a.tmod b))
 | .eql=>some ([],.prop (a=b) inferInstance)
 | .neq=>some ([],.prop (¬a=b) inferInstance)
 | .lss=>some ([],.prop (a <b) inferInstance)
 | .leq=>some ([],.prop (a<=b) inferInstance)
 | .gtr=>some ([],.prop (b <a) inferInstance)
 | .geq=>some ([],.prop (b<=a) inferInstance)
 | .and=>some ([],.int k (qe .and k a b))
 | .or=>some ([],.int k (qe .or k a b))
 | .xor=>some ([],.int k (qe .xor k a b))
 | .shr=>some ([⟨0<=b,inferInstance⟩],.int k (a.fdiv (2 ^ min b.toNat k.bits)))
 | .shl=>some ([⟨0<=b,inferInstance⟩],.int k (k.wrap (a * 2 ^ min b.toNat k.bits)))
 |_=>none
def qj (op:BinOp) (k:IntKind) (a b:Int):Option (List DP×C):=
 match op with
 | .shr=>some ([⟨0<=b,inferInstance⟩],.int k (a.fdiv (2 ^ min b.toNat k.bits)))
 | .shl=>some ([⟨0<=b,inferInstance⟩],.int k (k.wrap (a * 2 ^ min b.toNat k.bits)))
 |_=>none
def j9 (T:bh) (s:TypeId) (f:Nat):Option (Nat×TypeId):=
 match T.get s with
 |some i=>match i.d with
  | .struct fs=>fs[f]?
  |_=>none
 |none=>none
def dW (k:Nat):C->Option C
 | .ptr κ off=>some (.ptr κ (off+k))
 | .dN κ sz j off=>some (.dN κ sz j (off+k))
 | .fE e x off=>some (.fE e x (off+k))
 | .jm c n sz i=>match dW k c with
   |some c'=>some (.jm c' n sz i)
   |none=>none
 |_=>none
def eA (k:IntKind):List C->Option (List Int)
 | []=>some []
 | .int k' n::r=>if k'=k then (eA k r).map (n:: ·) else none
 |_=>none
def vM (i:Nat):List C->Option C
 | .int k n::r=>(eA k (.int k n::r)).map λ l=>.int k (l.getD i 0)
 |_=>none
def pX:List Cp->Option (List C)
 | []=>some []
 | .one c::r=>(pX r).map (c:: ·)
 |_=>none
def p5:List Cp->Option (List (List C))
 | []=>some []
 | .agg cs::r=>(p5 r).map (cs:: ·)
 |_=>none
def kC (i:Nat) (rows:List (List C)):Nat->Option (List C)
 | 0=>some []
 |q+1=>match kC i rows q,vM i (rows.map λ r=>r.getD q .any) with
  |some cs,some c=>some (cs++[c])
  |_,_=>none
def rZ (i:Nat):List Cp->Option Cp
 | .agg cs::r=>match p5 (.agg cs::r) with
   |some rows=>match rows.all λ r=>r.length.beq cs.length with
    |true=>(kC i rows cs.length).map .agg
    |false=>none
   |none=>none
 |xs=>match pX xs with
  |some cs=>(vM i cs).map .one
  |none=>none
def iP (f:Nat->Option Out):Nat->Option (List Nat×List Cp)
 | 0=>some ([],[])
 |n+1=>match iP f n,f n with
  |some (acc,l),some ⟨[],a,.cp x⟩=>some (acc++a,l++[x])
  |_,_=>none
def Af:C->Bool
 | .ptr _ _=>true
 | .dN _ _ _ _=>true
 | .fE _ _ _=>true
 |_=>false
section
variable (T:bh) (ρ:Operand->AV) (ob:Nat->Option Ob)
def fm (t:TypeId):C->Option Out
 | .ptr κ off=>match T.get t,ob κ with
   |some i,some (.box cs)=>match gD i cs off with
    |some x=>some ⟨[],[κ],.cp x⟩
    |none=>none
   |some i,some (.cG e x)=>match gD i (e.cells x) off with
    |some x=>some ⟨[],[κ],.cp x⟩
    |none=>none
   |_,_=>none
 | .dN κ sz j off=>match T.get t,ob κ with
   |some i,some (.vec e l)=>if e.n=sz then match gD i (e.cells (l.getD j e.z)) off with
    |some x=>some ⟨[],[κ],.cp x⟩
    |none=>none
    else none
   |_,_=>none
 | .fE e x off=>match T.get t with
   |some i=>match gD i (e.cells x) off with
    |some x=>some ⟨[],[],.cp x⟩
    |none=>none
   |_=>none
 |_=>none
def h9 (t:TypeId):C->Option Out
 | .jm c n sz i=>match iP (λ j=>(dW (j * sz) c).bind (fm T ob t)) n with
   |some (acc,xs)=>(rZ i xs).map λ x=>⟨[],acc,.cp x⟩
   |none=>none
 |c=>fm T ob t c
def j3 (s:TypeId) (f:Nat) (c:C):Option Out:=
 match j9 T s f with
 |some (o,ft)=>match T.get ft with
  |some i=>if i.size=0 then none else (dW o c).map λ c=>⟨[],[],aN c⟩
  |none=>none
 |none=>none
def dI (t:TypeId) (x:C) (cst:Bool) (n:Int):Option Out:=
 match T.get t with
 |some i=>match i.d with
  | .slice el=>match T.get el with
    |some ei=>match x with
     | .val b e y=>if e.n=ei.size then some ⟨[⟨0<=n,inferInstance⟩,⟨n <((bW b y).length:Int),inferInstance⟩],[],aN (.fE e ((bW b y).getD n.toNat e.z) 0)⟩ else none
     | .own κ=>match ob κ with
       |some (.vec e l)=>if e.n=ei.size then some ⟨[⟨0<=n,inferInstance⟩,⟨n <(l.length:Int),inferInstance⟩],[κ],aN (.dN κ ei.size n.toNat 0)⟩ else none
       |some (.rows _ ll _ _ m _)=>if m+1=ei.size then some ⟨[⟨0<=n,inferInstance⟩,⟨n <(ll.length:Int),inferInstance⟩],[κ],aN (.dN κ (m+1) n.toNat 0)⟩ else none
       |_=>none
     | .part κ sz lo m=>if sz=ei.size then some ⟨[⟨0<=n,inferInstance⟩,⟨n <(m:Int),inferInstance⟩],[],aN (.dN κ sz (lo+n.toNat) 0)⟩ else none
     |_=>none
    |none=>none
  | .array m el=>match T.get el with
    |some ei=>match cst with
     |true=>match n with
      | .ofNat q=>if q <m then (dW (q * ei.size) x).map λ c=>⟨[],[],aN c⟩ else none
      |_=>none
     |false=>match Af x with
      |true=>some ⟨[⟨0<=n,inferInstance⟩,⟨n <(m:Int),inferInstance⟩],[],aN (.jm x m ei.size n.toNat)⟩
      |false=>none
    |none=>none
  |_=>none
 |none=>none
def kS (t:TypeId) (cs:List C) (cst:Bool) (n:Int):Option Out:=
 match T.get t with
 |some i=>match i.d with
  | .array m el=>match T.get el with
    |some ei=>match cst with
     |true=>match n with
      | .ofNat q=>if q <m then (gD ei cs (q * ei.size)).map λ x=>⟨[],[],.cp x⟩ else none
      |_=>none
     |false=>match iP (λ j=>(gD ei cs (j * ei.size)).map λ x=>⟨[],[],.cp x⟩) m with
      |some (_,xs)=>(rZ n.toNat xs).map λ x=>⟨[⟨0<=n,inferInstance⟩,⟨n <(m:Int),inferInstance⟩],[],.cp x⟩
      |none=>none
    |none=>none
  |_=>none
 |none=>none
def jK:C->Option Out
 | .part _ _ _ m=>some ⟨[],[],aN (.int .i64 (m:Int))⟩
 | .val b e x=>some ⟨[],[],aN (.int .i64 ((bW b x).length:Int))⟩
 | .own κ=>match ob κ with
   |some (.vec e l)=>some ⟨[],[κ],aN (.int .i64 (l.length:Int))⟩
   |some (.rows e ll _ _ _ _)=>some ⟨[],[κ],aN (.int .i64 (ll.length:Int))⟩
   |_=>none
 | .new _ l=>some ⟨[],[],aN (.int .i64 (l.length:Int))⟩
 | .str s=>some ⟨[],[],aN (.int .i64 (s.size:Int))⟩
 | .nil=>some ⟨[],[],aN (.int .i64 0)⟩
 |_=>none
def lZ:C->Option Out
 | .mp κ=>match ob κ with
   |some (.map _ _ l _)=>some ⟨[],[κ],aN (.int .i64 (l.length:Int))⟩
   |_=>none
 | .dat (.map _ _) x=>some ⟨[],[],aN (.int .i64 (List.length x:Int))⟩
 |_=>none
def sZ {α:Type}:gC true α->Bool
 |none=>true
 |some _=>false
def nr:C->C->Option DP
 | .nil,.nil=>some ⟨True,inferInstance⟩
 | .val true _ x,.nil=>some ⟨sZ x=true,inferInstance⟩
 | .nil,.val true _ x=>some ⟨sZ x=true,inferInstance⟩
 |_,_=>none
def jo:Nat->List (Nat×TypeId)->List C->List C->Option (List DP)
 | 0,_,_,_=>none
 |_+1,[],_,_=>some []
 |n+1,(off,ft)::r,cs,ds=>match T.get ft with
  |some i=>match i.d with
   | .struct fs=>if i.eq && (off+i.size).ble cs.length && (off+i.size).ble ds.length then
      match jo n fs ((cs.drop off).take i.size) ((ds.drop off).take i.size),jo n r cs ds with
      |some x,some y=>some (conj x::y)
      |_,_=>none
      else none
   | .array m el=>match T.get el with
     |some ei=>if i.eq && (off+i.size).ble cs.length && (off+i.size).ble ds.length then
       match jo n ((List.range m).map λ j=>(j * ei.size,el)) ((cs.drop off).take i.size) ((ds.drop off).take i.size),jo n r cs ds with
       |some x,some y=>some (conj x::y)
       |_,_=>none
      else none
     |none=>none
   | .int _| .bool| .str=>match cs[off]?,ds[off]? with
     |some a,some b=>match qO i.d a b,jo n r cs ds with
      |some x,some y=>some (x::y)
      |_,_=>none
     |_,_=>none
   |_=>none
  |none=>none
def uZ (t:TypeId):AV->AV->Option DP
 | .cp (.one a),.cp (.one b)=>match T.get t with
   |some i=>match i.d with
    | .int _| .bool| .str=>qO i.d a b
    | .slice _=>nr a b
    |_=>none
   |none=>none
 | .cp (.agg cs),.cp (.agg ds)=>match T.get t with
   |some i=>match i.d with
    | .struct fs=>if i.eq then (jo T 40 fs cs ds).map conj else none
    | .array m el=>match T.get el with
      |some ei=>if i.eq then (jo T 40 ((List.range m).map λ j=>(j * ei.size,el)) cs ds).map conj else none
      |none=>none
    |_=>none
   |none=>none
 |_,_=>none
def uY (op:BinOp) (t:TypeId) (x y:AV):Option Out:=
 match op with
 | .eql=>(uZ T t x y).map λ p=>⟨[],[],aN (BN p)⟩
 | .neq=>(uZ T t x y).map λ p=>⟨[],[],aN (BL p)⟩
 |op=>match x,y with
  | .cp (.one (.int k a)),.cp (.one (.int k' b))=>if k=k' then (u5 op k a b).map λ p=>⟨p.1,[],aN p.2⟩ else (qj op k a b).map λ p=>⟨p.1,[],aN p.2⟩
  |_,_=>none
def xQ:UnOp->C->Option Out
 | .not,.lit b=>some ⟨[],[],aN (.lit (!b))⟩
 | .not,.prop p d=>some ⟨[],[],aN (.prop (¬p) (@instDecidableNot p d))⟩
 | .neg,.int k n=>some ⟨[],[],aN (.int k (k.wrap (0 - n)))⟩
 |_,_=>none
def sI (src dst:TypeId):C->Option Out
 | .int _ n=>match T.get src,T.get dst with
   |some _,some i=>match i.d with
    | .int k=>some ⟨[],[],aN (.int k (k.wrap n))⟩
    |_=>none
   |_,_=>none
 |_=>none
def qi (s:TypeId) (f:Nat) (cs:List C):Option Out:=
 match j9 T s f with
 |some (o,ft)=>match T.get ft with
  |some i=>match gD i cs o with
   |some x=>some ⟨[],[],.cp x⟩
   |none=>none
  |none=>none
 |none=>none
def bU:Cp->Option (List C)
 | .one .any=>none
 | .one c=>some [c]
 | .agg cs=>some cs
def iM (place:Nat->Option (Nat×Nat)):List C->List (Nat×AV)->Option (List C)
 |cells,[]=>some cells
 |cells,(i,.cp x)::rest=>match place i,bU x with
  |some (off,size),some cs=>if cs.length=size/\off+size<=cells.length then iM place (cells.take off++cs++cells.drop (off+size)) rest else none
  |_,_=>none
 |_,(_,.bO _)::_=>none
def tv (s:TypeId) (f:Nat):Option (Nat×Nat):=
 match j9 T s f with
 |some (o,ft)=>match T.get ft with
  |some i=>some (o,i.size)
  |none=>none
 |none=>none
def qh (t:TypeId) (parts:List (Nat×AV)):Option Out:=
 match T.get t with
 |some i=>match i.d,i.zero with
  | .struct fs,some (true,z)=>if fs.all (λ f=>(T.get f.2).isSome) then (iM (tv T t) z parts).map λ cs=>⟨[],[],.cp (.agg cs)⟩ else none
  | .array _ el,some (true,z)=>match T.get el with
    |some ei=>(iM (λ j=>some (j * ei.size,ei.size)) z parts).map λ cs=>⟨[],[],.cp (.agg cs)⟩
    |none=>none
  |_,_=>none
 |none=>none
def sq (s:ByteArray) (i:Nat):Int:=((s.data.toList.getD i 0).toNat:Int)
theorem yg (s:ByteArray) (i:Nat) (h:i <s.size):sq s i=((s[i]'h).toNat:Int):=by
 unfold sq
 have h':i <s.data.toList.length:=by simpa using h
 rw [List.getD_eq_getElem?_getD,List.getElem?_eq_getElem h']
 simp [ByteArray.getElem_eq_getElem_data]
def uB:Bool->Int->Int->Int
 |true,x,y=>if x <y then y else x
 |false,x,y=>if y <x then y else x
def uC (mx:Bool) (k:IntKind):Int->List AV->Option C
 |x,[]=>some (.int k x)
 |x,.cp (.one (.int j y))::r=>if j=k then uC mx k (uB mx x y) r else none
 |_,_=>none
end
end Go.Rx
