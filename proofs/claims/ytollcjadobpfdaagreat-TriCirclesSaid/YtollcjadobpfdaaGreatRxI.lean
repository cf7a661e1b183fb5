/- Reflection, part I: the operations that make or write objects. -/
import Derived.Test.YtollcjadobpfdaaGreatRxH
set_option linter.unusedVariables false
set_option linter.unusedSimpArgs false
set_option linter.unusedSectionVars false
namespace Go.Rx
structure bK where
 conds:List DP
 acc:List Nat
 v:AV
 kill:Option Nat
 upd:Option (Nat×Ob)
abbrev dZ:=List (TypeId×Ty)
def dZ.get:dZ->TypeId->Option Ty
 | [],_=>none
 | (u,i)::r,t=>if t=u then some i else dZ.get r t
def qa:Operand->Operand->Bool
 | .tmp a,.tmp b=>a.beq b
 |_,_=>false
def eB {α:Type}:Nat->List α->List α
 | 0,_=>[]
 |n+1,z=>z++eB n z
def nF:List C->Bool
 | []=>true
 | .any::_=>false
 |_::r=>nF r
theorem lp:∀{l:List C},nF l=true->∀c∈l,c≠ .any
 |c::l,h,d,hd=>by
  cases c with
  |any=>simp [nF] at h
  |_=>
   simp only [nF] at h
   rcases List.mem_cons.1 hd with rfl|hd
   ·simp
   ·exact lp h d hd
section
variable (T:bh) (Y:dZ) (ρ:Operand->AV) (ob:Nat->Option Ob) (len:Nat)
def nk (ob:Nat->Option Ob) (len d:Nat):Nat:=match (len % 16).ble d,ob d with
 |true,none=>d
 |_,_=>len - 1 - d
def dB (d:Nat) (conds:List DP) (acc:List Nat) (v:C) (o:Ob):Option bK:=
 match fE d len,ob d with
 |true,none=>some ⟨conds,d::acc,aQ v,none,some (d,o)⟩
 |_,_=>none
def nw (t:TypeId):C->Cp->Option bK
 | .ptr κ off,x=>match T.get t,ob κ,bV x with
   |some i,some (.box cs),some xs=>if nF xs=true/\xs.length=i.size/\off+i.size<=cs.length then some ⟨[],[κ],bA,none,some (κ,.box (cs.take off++xs++cs.drop (off+i.size)))⟩ else none
   |_,_,_=>none
 | .dO κ sz j off,x=>match T.get t,ob κ,bV x with
   |some i,some (.vec e l),some xs=>if nF xs=true/\e.n=sz/\xs.length=i.size/\off+i.size<=e.n then
     match e.of (((e.cells (l.getD j e.z)).take off)++xs++((e.cells (l.getD j e.z)).drop (off+i.size))) with
     |some (y,[])=>some ⟨[],[κ],bA,none,some (κ,.vec e (l.set j y))⟩
     |_=>none
    else none
   |_,_,_=>none
 |_,_=>none
def lE (e:Ty):C->Option (List Nat×List e.D)
 | .part κ sz lo n=>match ob κ with
   |some (.vec e' l)=>match Ty.dec e' e,sz.beq e'.n with
    |isTrue h,true=>some ([κ],h▸(l.drop lo).take n)
    |_,_=>none
   |_=>none
 | .own κ=>match ob κ with
   |some (.vec e' l)=>match Ty.dec e' e with
    |isTrue h=>some ([κ],h▸l)
    |_=>none
   |_=>none
 | .val b e' x=>match Ty.dec e' e with
   |isTrue h=>some ([],h▸bX b x)
   |_=>none
 | .nil=>some ([],[])
 |_=>none
def o8 (bytes n:Nat):DP:=⟨n * bytes<=140737488355328,inferInstance⟩
def kT (d:Nat) (el:TypeId) (s x:C):Option bK:=
 match T.get el with
 |some i=>match i.zero with
  |none=>none
  |some (_,z)=>match s with
   | .own κ=>match ob κ with
     |some (.vec e l)=>match lE ob e x with
      |some (acc,m)=>if 0 <i.bytes/\e.n=i.size/\z.length=i.size/\fE κ len=true/\ ¬acc.contains κ=true then some ⟨[o8 i.bytes (l.length+m.length)],κ::acc,aQ (.own κ),some κ,some (κ,.vec e (l++m))⟩ else none
      |none=>none
     |_=>none
   | .nil=>match Y.get el with
     |some e=>match lE ob e x with
      |some (acc,m)=>if 0 <i.bytes/\e.n=i.size/\z.length=i.size then dB ob len d [o8 i.bytes m.length] acc (.own d) (.vec e m) else none
      |none=>none
     |none=>none
   |_=>none
 |none=>none
def partOf:C->Option (Nat×Nat×Nat)
 | .own κ=>match ob κ with
   |some (.vec e l)=>some (κ,0,l.length)
   |_=>none
 | .part κ sz lo n=>match sz.beq 1 with
   |true=>some (κ,lo,n)
   |false=>none
 |_=>none
def fS {α:Type} (l m:List α) (lo n:Nat):List α:=l.take lo++m.take n++l.drop (lo+min n m.length)
def oZ (el:TypeId) (d s:C):Option bK:=
 match T.get el,partOf ob d with
 |some i,some (κ,lo,n)=>match ob κ with
  |some (.vec e l)=>match lE ob e s with
   |some (acc,m)=>if e.n=1/\i.size=1 then some ⟨[],κ::acc,aQ (.int .i64 (min n m.length:Nat)),none,some (κ,.vec e (fS l m lo n))⟩ else none
   |none=>none
  |_=>none
 |_,_=>none
def bD (dst:Option Nat):Op->Option bK
 | .box _ x=>match dst,ρ x with
   |some d,.cp x=>match bV x with
    |some cs=>dB ob len (nk ob len d) [] [d] (.ptr (nk ob len d) 0) (.box cs)
    |none=>none
   |_,_=>none
 | .alloc el=>match dst,T.get el with
   |some d,some i=>match i.zero with
    |some (_,z)=>dB ob len (nk ob len d) [] [d] (.ptr (nk ob len d) 0) (.box z)
    |none=>none
   |_,_=>none
 | .buildSlice t n parts=>match dst,T.get t with
   |some d,some it=>match it.d with
    | .slice el=>match T.get el,Y.get el with
      |some i,some e=>match i.zero with
       |some (_,z)=>if z.length=i.size/\e.n=i.size/\n * i.size<=16777216 then
         match iO (λ j=>some (j * i.size,i.size)) (eB n z) (parts.toList.map λ p=>(p.1,ρ p.2)) with
         |some cs=>match e.tB n cs with
          |some l=>dB ob len d [] [] (.own d) (.vec e l)
          |none=>none
         |none=>none
        else none
       |none=>none
      |_,_=>none
    |_=>none
   |_,_=>none
 | .makeSlice t l c=>match dst,T.get t with
   |some d,some it=>match it.d with
    | .slice el=>match T.get el,Y.get el with
      |some i,some e=>match i.zero with
       |some (_,z)=>if z.length=i.size/\e.n=i.size/\i.bytes<=1024/\qa l c=true then
         match e.of z,ρ l with
         |some (y,[]),.cp (.one (.int .i64 n))=>dB ob len d [⟨0<=n,inferInstance⟩,⟨n<=1073741824,inferInstance⟩] [] (.own d) (.vec e (List.replicate n.toNat y))
         |_,_=>none
        else none
       |none=>none
      |_,_=>none
    |_=>none
   |_,_=>none
 | .store t p x=>match ρ p,ρ x with
   | .cp (.one c),.cp x=>nw T ob t c x
   |_,_=>none
 | .makeMap t none=>match dst,mP T t with
   |some d,true=>dB ob len d [] [] (.mp d) (.set [])
   |_,_=>none
 | .mapUpdate t m k x=>match ρ m,ρ k,ρ x with
   | .cp (.one (.mp κ)),.cp (.agg [.int .i64 a,.int .i64 b]),.cp (.one (.lit true))=>match mP T t,ob κ with
     |true,some (.set l)=>some ⟨[],[κ],bA,none,some (κ,.set (l++[(a,b)]))⟩
     |_,_=>none
   |_,_,_=>none
 | .call c=>match c.callee with
   | .builtin .append=>match c.args.toList,c.argTypes.toList,dst with
     | [s,x],[t,t'],some d=>match ρ s,ρ x,T.get t with
       | .cp (.one s),.cp (.one x),some it=>match it.d with
         | .slice el=>if t=t' then kT T Y ob len d el s x else none
         |_=>none
       |_,_,_=>none
     |_,_,_=>none
   | .builtin .copy=>match c.args.toList,c.argTypes.toList with
     | [d,s],[t,_]=>match ρ d,ρ s,T.get t with
       | .cp (.one d),.cp (.one s),some it=>match it.d with
         | .slice el=>oZ T ob el d s
         |_=>none
       |_,_,_=>none
     |_,_=>none
   |_=>none
 |_=>none
def y7:Ty->Option Ty
 | .pair .bool (.sl false e)=>some e
 |_=>none
def jN (dst:Option Nat):Op->Option bK
 | .makeSlice t l c=>match dst,T.get t with
   |some d,some it=>match it.d with
    | .slice el=>match T.get el,(Y.get el).bind y7 with
      |some i,some e=>match i.zero with
       |some (_,[.nil])=>if i.size=1/\i.bytes<=1024/\qa l c=true then
         match ρ l with
         | .cp (.one (.int .i64 n))=>dB ob len d [⟨0<=n,inferInstance⟩,⟨n<=1073741824,inferInstance⟩] [] (.own d) (.rows e (List.replicate n.toNat []) none .bool 0 [])
         |_=>none
        else none
       |_=>none
      |_,_=>none
    |_=>none
   |_,_=>none
 |_=>none
def uy (d:Nat):Nat:=1000000+d
def jr (dst:Option Nat):Op->Option bK
 | .slice t x lo hi none=>match dst with
   |some d=>match Y.get (uy d) with
    |some _=>match ρ x,c9 ρ lo,c9 ρ hi with
     | .cp (.one (.own κ)),some lo,some hi=>match ob κ,fE κ len with
       |some (.vec e l),true=>match eM T ob t (.own κ) lo hi with
        |some out=>some ⟨out.conds,[κ],aQ (.own κ),some κ,some (κ,.vec e (dg lo (dh hi l)))⟩
        |none=>none
       |_,_=>none
     |_,_,_=>none
    |none=>none
   |none=>none
 |_=>none
def xV {α:Type} (l:List α) (y:α) (lo n:Nat):List α:=l.take lo++List.replicate n y++l.drop (lo+n)
def nu (el:TypeId):C->Option bK
 | .part κ sz lo n=>match T.get el,ob κ with
   |some i,some (.vec e l)=>match i.zero with
    |some (_,z)=>if e.n=i.size/\sz=i.size/\z.length=i.size then
      match e.of z with
      |some (y,[])=>some ⟨[],[κ],bA,none,some (κ,.vec e (xV l y lo n))⟩
      |_=>none
     else none
    |none=>none
   |_,_=>none
 |_=>none
def h9:Op->Option bK
 | .call c=>match c.callee with
   | .builtin .clear=>match c.args.toList,c.argTypes.toList with
     | [x],[t]=>match ρ x,T.get t with
       | .cp (.one x),some it=>match it.d with
         | .slice el=>nu T ob el x
         |_=>none
       |_,_=>none
     |_,_=>none
   |_=>none
 |_=>none
def qM (k:IntKind) (i:Nat) (v:Int):Nat->List Int->List C
 |_,[]=>[]
 |j,a::r=>.int k (if i=j then v else a)::qM k i v (j+1) r
def bZ (dst:Option Nat):Op->Option bK
 | .load t p=>match dst,ρ p with
   |some d,.cp (.one (.dO κ sz j off))=>match Y.get (2000000+d),T.get t,ob κ with
    |some _,some i,some (.rows e ll none tt mm xs)=>match pL i.d && (sz.beq (mm+1) && off.beq mm) with
     |true=>some ⟨[],[κ],aQ (.new e (ll.getD j [])),none,none⟩
     |false=>none
    |_,_,_=>none
   |_,_=>none
 | .store t p x=>match ρ p,ρ x with
   | .cp (.one (.jo (.ptr κ off) n sz i)),.cp (.one (.int k v))=>match T.get t,ob κ with
     |some ti,some (.box cs)=>match ti.size.beq 1 && sz.beq 1 && (off+n).ble cs.length,eA k ((cs.drop off).take n) with
      |true,some l=>some ⟨[],[κ],bA,none,some (κ,.box (cs.take off++qM k i v 0 l++cs.drop (off+n)))⟩
      |_,_=>none
     |_,_=>none
   |_,_=>none
 | .slice t x none none none=>match ρ x with
   | .cp (.one (.ptr κ 0))=>match ob κ,Y.get t with
     |some (.box cs),some e=>match e.of cs with
      |some (y,[])=>(sI T t (e.cells y) 0).map λ c=>⟨[],[κ],aQ c,none,some (κ,.cG e y)⟩
      |_=>none
     |_,_=>none
   |_=>none
 | .makeMap t none=>match dst,mP T t,Y.get t with
   |some d,false,some (.map K V)=>match iI T t K V with
    |some _=>dB ob len d [] [] (.mp d) (.map K V [] none)
    |none=>none
   |_,_,_=>none
 | .mapUpdate t m k x=>match ρ m with
   | .cp (.one (.mp κ))=>match ob κ with
     |some (.map K V l _)=>match iI T t K V,jJ K (ρ k),jJ V (ρ x) with
      |some _,some kk,some xx=>some ⟨[],[κ],bA,none,some (κ,.map K V (jV (kB K) l kk xx) none)⟩
      |_,_,_=>none
     |_=>none
   |_=>none
 | .call c=>match c.callee with
   | .builtin .delete=>match c.args.toList,c.argTypes.toList with
     | [m,k],[t,_]=>match ρ m with
       | .cp (.one (.mp κ))=>match ob κ with
         |some (.map K V l _)=>match iI T t K V,jJ K (ρ k) with
          |some _,some kk=>some ⟨[],[κ],bA,none,some (κ,.map K V (jU (kB K) l kk) none)⟩
          |_,_=>none
         |_=>none
       |_=>none
     |_,_=>none
   |_=>none
 |_=>none
def l8 (dst:Option Nat) (op:Op):Option bK:=
 match bD T Y ρ ob len dst op with
 |some e=>some e
 |none=>match jN T Y ρ ob len dst op with
  |some e=>some e
  |none=>match jr T Y ρ ob len dst op with
   |some e=>some e
   |none=>match h9 T ρ ob op with
    |some e=>some e
    |none=>bZ T Y ρ ob len dst op
def AO (d:Nat):Nat:=3000000+d
def Ce (dst:Option Nat):Op->Option Ty
 | .buildSlice _ _ _=>match dst with
   |some d=>Y.get (AO d)
   |none=>none
 |_=>none
def qU (e:Ty):Op->Option bK
 | .buildSlice t n parts=>match T.get t with
   |some it=>match it.d with
    | .slice el=>match T.get el with
      |some i=>match i.zero with
       |some (_,z)=>if z.length=i.size/\e.n=i.size/\n * i.size<=16777216 then
         match iO (λ j=>some (j * i.size,i.size)) (eB n z) (parts.toList.map λ p=>(p.1,ρ p.2)) with
         |some cs=>match e.tB n cs with
          |some l=>some ⟨[],[],aQ (.val false e l),none,none⟩
          |none=>none
         |none=>none
        else none
       |none=>none
      |none=>none
    |_=>none
   |none=>none
 |_=>none
def jt (dst:Option Nat) (op:Op):Option bK:=
 match Ce Y dst op with
 |some e=>qU T ρ e op
 |none=>l8 T Y ρ ob len dst op
end
def St.ef (σ:St) (dst:Option Nat) (e:bK):St:=
 let σ1:=match e.kill with
  |some κ=>σ.kill κ
  |none=>σ
 let σ2:=match e.upd with
  |some (κ,o)=>σ1.aK κ (some o)
  |none=>σ1
 σ2.put dst e.v
theorem tL {α:Type} (z:List α):∀(n j:Nat),j <n * z.length->(eB n z)[j]?=z[j % z.length]?
 | 0,j,h=>by simp at h
 |n+1,j,h=>by
  have hz:0 <z.length:=by
   rcases Nat.eq_zero_or_pos z.length with h0|h0
   ·rw [h0] at h;simp at h
   ·exact h0
  simp only [eB]
  rw [Nat.add_mul,Nat.one_mul] at h
  rcases Nat.lt_or_ge j z.length with g|g
  ·rw [List.getElem?_append_left g,Nat.mod_eq_of_lt g]
  ·rw [List.getElem?_append_right g,tL z n (j - z.length) (by omega),Nat.mod_eq_sub_mod g]
theorem oF {α:Type} (z:List α):∀n,(eB n z).length=n * z.length
 | 0=>by simp [eB]
 |n+1=>by simp only [eB,List.length_append,oF z n,Nat.add_mul,Nat.one_mul];omega
theorem oG {w:World} {R:Nat->RL} {Pr:Nat->Prop} {z:List C} {us:List Value} (h:an (au w R Pr) z us):∀n,an (au w R Pr) (eB n z) (eB n us)
 | 0=>trivial
 |n+1=>an.append h (oG h n)
theorem iU (vs:Array Value) (n:Nat):(((Array.range (n * vs.size)).map (vs[· % vs.size]!)).toList)=eB n vs.toList:=by
 apply List.ext_getElem?
 intro j
 rcases Nat.lt_or_ge j (n * vs.size) with h|h
 ·have h2:=tL vs.toList n j (by simpa using h)
  have hz:0 <vs.size:=by
   rcases Nat.eq_zero_or_pos vs.size with h0|h0
   ·rw [h0] at h;simp at h
   ·exact h0
  have hm:j % vs.size <vs.size:=Nat.mod_lt _ hz
  rw [h2]
  simp [h,hm]
 ·rw [List.getElem?_eq_none (by simpa using h),List.getElem?_eq_none (by rw [oF];simpa using h)]
end Go.Rx
