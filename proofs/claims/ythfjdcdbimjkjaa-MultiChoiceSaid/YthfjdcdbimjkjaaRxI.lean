/- Reflection, part I: the operations that make or write objects. -/
import Derived.Test.YthfjdcdbimjkjaaRxH
set_option linter.unusedVariables false
set_option linter.unusedSimpArgs false
set_option linter.unusedSectionVars false
namespace Go.Rx
structure bK where
 conds:List DP
 acc:List Nat
 v:AV
 kill:Option Nat
 upd:Option (Nat×Ob)
abbrev dY:=List (TypeId×Ty)
def dY.get:dY->TypeId->Option Ty
 | [],_=>none
 | (u,i)::r,t=>if t=u then some i else dY.get r t
def p6:Operand->Operand->Bool
 | .tmp a,.tmp b=>a.beq b
 |_,_=>false
def eB {α:Type}:Nat->List α->List α
 | 0,_=>[]
 |n+1,z=>z++eB n z
def nD:List C->Bool
 | []=>true
 | .any::_=>false
 |_::r=>nD r
theorem k9:∀{l:List C},nD l=true->∀c∈l,c≠ .any
 |c::l,h,d,hd=>by
  cases c with
  |any=>simp [nD] at h
  |_=>
   simp only [nD] at h
   rcases List.mem_cons.1 hd with rfl|hd
   ·simp
   ·exact k9 h d hd
section
variable (T:bh) (Y:dY) (ρ:Operand->AV) (ob:Nat->Option Ob) (len:Nat)
def nk (ob:Nat->Option Ob) (len d:Nat):Nat:=match (len % 16).ble d,ob d with
 |true,none=>d
 |_,_=>len - 1 - d
def dB (d:Nat) (conds:List DP) (acc:List Nat) (v:C) (o:Ob):Option bK:=
 match fC d len,ob d with
 |true,none=>some ⟨conds,d::acc,aN v,none,some (d,o)⟩
 |_,_=>none
def nu (t:TypeId):C->Cp->Option bK
 | .ptr κ off,x=>match T.get t,ob κ,bU x with
   |some i,some (.box cs),some xs=>if nD xs=true/\xs.length=i.size/\off+i.size<=cs.length then some ⟨[],[κ],bB,none,some (κ,.box (cs.take off++xs++cs.drop (off+i.size)))⟩ else none
   |_,_,_=>none
 | .dN κ sz j off,x=>match T.get t,ob κ,bU x with
   |some i,some (.vec e l),some xs=>if nD xs=true/\e.n=sz/\xs.length=i.size/\off+i.size<=e.n then
     match e.of (((e.cells (l.getD j e.z)).take off)++xs++((e.cells (l.getD j e.z)).drop (off+i.size))) with
     |some (y,[])=>some ⟨[],[κ],bB,none,some (κ,.vec e (l.set j y))⟩
     |_=>none
    else none
   |_,_,_=>none
 |_,_=>none
def lC (e:Ty):C->Option (List Nat×List e.D)
 | .part κ sz lo n=>match ob κ with
   |some (.vec e' l)=>match Ty.dec e' e,sz.beq e'.n with
    |isTrue h,true=>some ([κ],h▸(l.drop lo).take n)
    |_,_=>none
   |_=>none
 | .own κ=>match ob κ with
   |some (.vec e' l)=>match Ty.dec e' e with
    |isTrue h=>some ([κ],h▸l)
    |_=>none
   |_=>none
 | .val b e' x=>match Ty.dec e' e with
   |isTrue h=>some ([],h▸bW b x)
   |_=>none
 | .nil=>some ([],[])
 |_=>none
def oW (bytes n:Nat):DP:=⟨n * bytes<=140737488355328,inferInstance⟩
def kR (d:Nat) (el:TypeId) (s x:C):Option bK:=
 match T.get el with
 |some i=>match i.zero with
  |none=>none
  |some (_,z)=>match s with
   | .own κ=>match ob κ with
     |some (.vec e l)=>match lC ob e x with
      |some (acc,m)=>if 0 <i.bytes/\e.n=i.size/\z.length=i.size/\fC κ len=true/\ ¬acc.contains κ=true then some ⟨[oW i.bytes (l.length+m.length)],κ::acc,aN (.own κ),some κ,some (κ,.vec e (l++m))⟩ else none
      |none=>none
     |_=>none
   | .nil=>match Y.get el with
     |some e=>match lC ob e x with
      |some (acc,m)=>if 0 <i.bytes/\e.n=i.size/\z.length=i.size then dB ob len d [oW i.bytes m.length] acc (.own d) (.vec e m) else none
      |none=>none
     |none=>none
   |_=>none
 |none=>none
def partOf:C->Option (Nat×Nat×Nat)
 | .own κ=>match ob κ with
   |some (.vec e l)=>some (κ,0,l.length)
   |_=>none
 | .part κ sz lo n=>match sz.beq 1 with
   |true=>some (κ,lo,n)
   |false=>none
 |_=>none
def fR {α:Type} (l m:List α) (lo n:Nat):List α:=l.take lo++m.take n++l.drop (lo+min n m.length)
def oU (el:TypeId) (d s:C):Option bK:=
 match T.get el,partOf ob d with
 |some i,some (κ,lo,n)=>match ob κ with
  |some (.vec e l)=>match lC ob e s with
   |some (acc,m)=>if e.n=1/\i.size=1 then some ⟨[],κ::acc,aN (.int .i64 (min n m.length:Nat)),none,some (κ,.vec e (fR l m lo n))⟩ else none
   |none=>none
  |_=>none
 |_,_=>none
def bD (dst:Option Nat):Op->Option bK
 | .box _ x=>match dst,ρ x with
   |some d,.cp x=>match bU x with
    |some cs=>dB ob len (nk ob len d) [] [d] (.ptr (nk ob len d) 0) (.box cs)
    |none=>none
   |_,_=>none
 | .alloc el=>match dst,T.get el with
   |some d,some i=>match i.zero with
    |some (_,z)=>dB ob len (nk ob len d) [] [d] (.ptr (nk ob len d) 0) (.box z)
    |none=>none
   |_,_=>none
 | .buildSlice t n parts=>match dst,T.get t with
   |some d,some it=>match it.d with
    | .slice el=>match T.get el,Y.get el with
      |some i,some e=>match i.zero with
       |some (_,z)=>if z.length=i.size/\e.n=i.size/\n * i.size<=16777216 then
         match iM (λ j=>some (j * i.size,i.size)) (eB n z) (parts.toList.map λ p=>(p.1,ρ p.2)) with
         |some cs=>match e.th n cs with
          |some l=>dB ob len d [] [] (.own d) (.vec e l)
          |none=>none
         |none=>none
        else none
       |none=>none
      |_,_=>none
    |_=>none
   |_,_=>none
 | .makeSlice t l c=>match dst,T.get t with
   |some d,some it=>match it.d with
    | .slice el=>match T.get el,Y.get el with
      |some i,some e=>match i.zero with
       |some (_,z)=>if z.length=i.size/\e.n=i.size/\i.bytes<=1024/\p6 l c=true then
         match e.of z,ρ l with
         |some (y,[]),.cp (.one (.int .i64 n))=>dB ob len d [⟨0<=n,inferInstance⟩,⟨n<=1073741824,inferInstance⟩] [] (.own d) (.vec e (List.replicate n.toNat y))
         |_,_=>none
        else none
       |none=>none
      |_,_=>none
    |_=>none
   |_,_=>none
 | .store t p x=>match ρ p,ρ x with
   | .cp (.one c),.cp x=>nu T ob t c x
   |_,_=>none
 | .makeMap t none=>match dst,mN T t with
   |some d,true=>dB ob len d [] [] (.mp d) (.set [])
   |_,_=>none
 | .mapUpdate t m k x=>match ρ m,ρ k,ρ x with
   | .cp (.one (.mp κ)),.cp (.agg [.int .i64 a,.int .i64 b]),.cp (.one (.lit true))=>match mN T t,ob κ with
     |true,some (.set l)=>some ⟨[],[κ],bB,none,some (κ,.set (l++[(a,b)]))⟩
     |_,_=>none
   |_,_,_=>none
 | .call c=>match c.callee with
   | .builtin .append=>match c.args.toList,c.argTypes.toList,dst with
     | [s,x],[t,t'],some d=>match ρ s,ρ x,T.get t with
       | .cp (.one s),.cp (.one x),some it=>match it.d with
         | .slice el=>if t=t' then kR T Y ob len d el s x else none
         |_=>none
       |_,_,_=>none
     |_,_,_=>none
   | .builtin .copy=>match c.args.toList,c.argTypes.toList with
     | [d,s],[t,_]=>match ρ d,ρ s,T.get t with
       | .cp (.one d),.cp (.one s),some it=>match it.d with
         | .slice el=>oU T ob el d s
         |_=>none
       |_,_,_=>none
     |_,_=>none
   |_=>none
 |_=>none
def yS:Ty->Option Ty
 | .pair .bool (.sl false e)=>some e
 |_=>none
def jL (dst:Option Nat):Op->Option bK
 | .makeSlice t l c=>match dst,T.get t with
   |some d,some it=>match it.d with
    | .slice el=>match T.get el,(Y.get el).bind yS with
      |some i,some e=>match i.zero with
       |some (_,[.nil])=>if i.size=1/\i.bytes<=1024/\p6 l c=true then
         match ρ l with
         | .cp (.one (.int .i64 n))=>dB ob len d [⟨0<=n,inferInstance⟩,⟨n<=1073741824,inferInstance⟩] [] (.own d) (.rows e (List.replicate n.toNat []) none .bool 0 [])
         |_=>none
        else none
       |_=>none
      |_,_=>none
    |_=>none
   |_,_=>none
 |_=>none
def ug (d:Nat):Nat:=1000000+d
def jq (dst:Option Nat):Op->Option bK
 | .slice t x lo hi none=>match dst with
   |some d=>match Y.get (ug d) with
    |some _=>match ρ x,c7 ρ lo,c7 ρ hi with
     | .cp (.one (.own κ)),some lo,some hi=>match ob κ,fC κ len with
       |some (.vec e l),true=>match eL T ob t (.own κ) lo hi with
        |some out=>some ⟨out.conds,[κ],aN (.own κ),some κ,some (κ,.vec e (c8 lo (c9 hi l)))⟩
        |none=>none
       |_,_=>none
     |_,_,_=>none
    |none=>none
   |none=>none
 |_=>none
def xK {α:Type} (l:List α) (y:α) (lo n:Nat):List α:=l.take lo++List.replicate n y++l.drop (lo+n)
def nq (el:TypeId):C->Option bK
 | .part κ sz lo n=>match T.get el,ob κ with
   |some i,some (.vec e l)=>match i.zero with
    |some (_,z)=>if e.n=i.size/\sz=i.size/\z.length=i.size then
      match e.of z with
      |some (y,[])=>some ⟨[],[κ],bB,none,some (κ,.vec e (xK l y lo n))⟩
      |_=>none
     else none
    |none=>none
   |_,_=>none
 |_=>none
def hM:Op->Option bK
 | .call c=>match c.callee with
   | .builtin .clear=>match c.args.toList,c.argTypes.toList with
     | [x],[t]=>match ρ x,T.get t with
       | .cp (.one x),some it=>match it.d with
         | .slice el=>nq T ob el x
         |_=>none
       |_,_=>none
     |_,_=>none
   |_=>none
 |_=>none
def qH (k:IntKind) (i:Nat) (v:Int):Nat->List Int->List C
 |_,[]=>[]
 |j,a::r=>.int k (if i=j then v else a)::qH k i v (j+1) r
def bY (dst:Option Nat):Op->Option bK
 | .load t p=>match dst,ρ p with
   |some d,.cp (.one (.dN κ sz j off))=>match Y.get (2000000+d),T.get t,ob κ with
    |some _,some i,some (.rows e ll none tt mm xs)=>match pI i.d && (sz.beq (mm+1) && off.beq mm) with
     |true=>some ⟨[],[κ],aN (.new e (ll.getD j [])),none,none⟩
     |false=>none
    |_,_,_=>none
   |_,_=>none
 | .store t p x=>match ρ p,ρ x with
   | .cp (.one (.jm (.ptr κ off) n sz i)),.cp (.one (.int k v))=>match T.get t,ob κ with
     |some ti,some (.box cs)=>match ti.size.beq 1 && sz.beq 1 && (off+n).ble cs.length,eA k ((cs.drop off).take n) with
      |true,some l=>some ⟨[],[κ],bB,none,some (κ,.box (cs.take off++qH k i v 0 l++cs.drop (off+n)))⟩
      |_,_=>none
     |_,_=>none
   |_,_=>none
 | .slice t x none none none=>match ρ x with
   | .cp (.one (.ptr κ 0))=>match ob κ,Y.get t with
     |some (.box cs),some e=>match e.of cs with
      |some (y,[])=>(sC T t (e.cells y) 0).map λ c=>⟨[],[κ],aN c,none,some (κ,.cG e y)⟩
      |_=>none
     |_,_=>none
   |_=>none
 | .makeMap t none=>match dst,mN T t,Y.get t with
   |some d,false,some (.map K V)=>match iG T t K V with
    |some _=>dB ob len d [] [] (.mp d) (.map K V [] none)
    |none=>none
   |_,_,_=>none
 | .mapUpdate t m k x=>match ρ m with
   | .cp (.one (.mp κ))=>match ob κ with
     |some (.map K V l _)=>match iG T t K V,jH K (ρ k),jH V (ρ x) with
      |some _,some kk,some xx=>some ⟨[],[κ],bB,none,some (κ,.map K V (jT (kB K) l kk xx) none)⟩
      |_,_,_=>none
     |_=>none
   |_=>none
 | .call c=>match c.callee with
   | .builtin .delete=>match c.args.toList,c.argTypes.toList with
     | [m,k],[t,_]=>match ρ m with
       | .cp (.one (.mp κ))=>match ob κ with
         |some (.map K V l _)=>match iG T t K V,jH K (ρ k) with
          |some _,some kk=>some ⟨[],[κ],bB,none,some (κ,.map K V (jS (kB K) l kk) none)⟩
          |_,_=>none
         |_=>none
       |_=>none
     |_,_=>none
   |_=>none
 |_=>none
def l6 (dst:Option Nat) (op:Op):Option bK:=
 match bD T Y ρ ob len dst op with
 |some e=>some e
 |none=>match jL T Y ρ ob len dst op with
  |some e=>some e
  |none=>match jq T Y ρ ob len dst op with
   |some e=>some e
   |none=>match hM T ρ ob op with
    |some e=>some e
    |none=>bY T Y ρ ob len dst op
def Ax (d:Nat):Nat:=3000000+d
def BX (dst:Option Nat):Op->Option Ty
 | .buildSlice _ _ _=>match dst with
   |some d=>Y.get (Ax d)
   |none=>none
 |_=>none
def qP (e:Ty):Op->Option bK
 | .buildSlice t n parts=>match T.get t with
   |some it=>match it.d with
    | .slice el=>match T.get el with
      |some i=>match i.zero with
       |some (_,z)=>if z.length=i.size/\e.n=i.size/\n * i.size<=16777216 then
         match iM (λ j=>some (j * i.size,i.size)) (eB n z) (parts.toList.map λ p=>(p.1,ρ p.2)) with
         |some cs=>match e.th n cs with
          |some l=>some ⟨[],[],aN (.val false e l),none,none⟩
          |none=>none
         |none=>none
        else none
       |none=>none
      |none=>none
    |_=>none
   |none=>none
 |_=>none
def jr (dst:Option Nat) (op:Op):Option bK:=
 match BX Y dst op with
 |some e=>qP T ρ e op
 |none=>l6 T Y ρ ob len dst op
end
def St.ec (σ:St) (dst:Option Nat) (e:bK):St:=
 let σ1:=match e.kill with
  |some κ=>σ.kill κ
  |none=>σ
 let σ2:=match e.upd with
  |some (κ,o)=>σ1.aK κ (some o)
  |none=>σ1
 σ2.put dst e.v
theorem tE {α:Type} (z:List α):∀(n j:Nat),j <n * z.length->(eB n z)[j]?=z[j % z.length]?
 | 0,j,h=>by simp at h
 |n+1,j,h=>by
  have hz:0 <z.length:=by
   rcases Nat.eq_zero_or_pos z.length with h0|h0
   ·rw [h0] at h;simp at h
   ·exact h0
  simp only [eB]
  rw [Nat.add_mul,Nat.one_mul] at h
  rcases Nat.lt_or_ge j z.length with g|g
  ·rw [List.getElem?_append_left g,Nat.mod_eq_of_lt g]
  ·rw [List.getElem?_append_right g,tE z n (j - z.length) (by omega),Nat.mod_eq_sub_mod g]
theorem oC {α:Type} (z:List α):∀n,(eB n z).length=n * z.length
 | 0=>by simp [eB]
 |n+1=>by simp only [eB,List.length_append,oC z n,Nat.add_mul,Nat.one_mul];omega
theorem oD {w:World} {R:Nat->RL} {Pr:Nat->Prop} {z:List C} {us:List Value} (h:an (au w R Pr) z us):∀n,an (au w R Pr) (eB n z) (eB n us)
 | 0=>trivial
 |n+1=>an.append h (oD h n)
theorem iS (vs:Array Value) (n:Nat):(((Array.range (n * vs.size)).map (vs[· % vs.size]!)).toList)=eB n vs.toList:=by
 apply List.ext_getElem?
 intro j
 rcases Nat.lt_or_ge j (n * vs.size) with h|h
 ·have h2:=tE vs.toList n j (by simpa using h)
  have hz:0 <vs.size:=by
   rcases Nat.eq_zero_or_pos vs.size with h0|h0
   ·rw [h0] at h;simp at h
   ·exact h0
  have hm:j % vs.size <vs.size:=Nat.mod_lt _ hz
  rw [h2]
  simp [h,hm]
 ·rw [List.getElem?_eq_none (by simpa using h),List.getElem?_eq_none (by rw [oC];simpa using h)]
end Go.Rx
