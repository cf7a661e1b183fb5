/- Reflection, part N: contracts over plain data; a call of such a function. -/
import Derived.Test.YtollcjadobpfdaaGreatRxMs
set_option linter.unusedVariables false
set_option linter.unusedSimpArgs false
set_option linter.unusedSectionVars false
namespace Go.Rx
abbrev PT:=Bool×Ty
def DL:List PT->Type
 | []=>Unit
 |p::r=>p.2.D×DL r
inductive LF where
 |d (τ:Ty)
 |o
inductive LO where
 |box (fs:List LF)
 |row (e:Ty)
 |rows (e:Ty)
 |map (K V:Ty)
def nN:List LF->Type
 | []=>Unit
 | .d τ::r=>τ.D×nN r
 | .o::r=>nN r
def LO.D:LO->Type
 | .box fs=>nN fs
 | .row e=>List e.D
 | .rows e=>List (List e.D)
 | .map K V=>List (K.D×V.D)
def cv:List LO->Type
 | []=>Unit
 |o::r=>o.D×cv r
def cK:List Nat->(fs:List LF)->nN fs->List C
 |_,[],_=>[]
 |ks,.d τ::r,x=>τ.cells x.1++cK ks r x.2
 |k::ks,.o::r,x=>.own k::cK ks r x
 | [],.o::r,x=>.any::cK [] r x
def LO.ob (ks:List Nat):(o:LO)->o.D->Ob
 | .box fs,x=>.box (cK ks fs x)
 | .row e,l=>.vec e l
 | .rows e,ll=>.rows e ll none .bool 0 []
 | .map K V,l=>.map K V l none
def aX (ks:List Nat):List Nat->(ls:List LO)->cv ls->List (Nat×Ob)
 |κ::aJ,o::r,x=>(κ,o.ob ks x.1)::aX ks aJ r x.2
 |_,[],_=>[]
 | [],_::_,_=>[]
def rg (ls:List LO):List Nat:=List.range' 0 ls.length
def bz (ls:List LO) (x:cv ls):List (Nat×Ob):=aX (rg ls).tail (rg ls) ls x
def dP (R:Nat->RL) (κ:Nat):List LO->Value
 | .box _::_=>.pointer (some ⟨(R κ).blk,0,none⟩)
 | .row _::_=>(R κ).aF
 | .rows _::_=>(R κ).aF
 | .map _ _::_=>.map (some (R κ).blk)
 | []=>undef
inductive RT where
 |d (agg:Bool) (τ:Ty)
 |new (e:Ty)
 |obj (o:LO) (ls:List LO)
def RT.D:RT->Type
 | .d _ τ=>τ.D
 | .new e=>List e.D
 | .obj o ls=>cv (o::ls)
def eC:List RT->Type
 | []=>Unit
 |p::r=>p.D×eC r
def gn (w:World) (Pr:Nat->Prop) (p:PT) (x:p.2.D) (v:Value):Prop:=
 match p.1 with
 |true=>∃us,v=.agg us/\ay w Pr p.2 x us.toList
 |false=>ay w Pr p.2 x [v]
def ff (w:World) (Pr:Nat->Prop):(sig:List PT)->DL sig->List Value->Prop
 | [],_,vs=>vs=[]
 |p::r,xs,vs=>∃v us,vs=v::us/\gn w Pr p xs.1 v/\ff w Pr r xs.2 us
def zz (w:World) (N:Nat->Prop) (Pr:Nat->Prop) (e:Ty) (l:List e.D) (v:Value) (blk:Nat):Prop:=
 (v=.slice none 0 0/\l=[])\/∃off cap cells el,v=.slice (some ⟨blk,off,none⟩) l.length cap/\l.length<=cap/\w.heap[blk]?=some (.cells cells el (0,0))/\off+cap * e.n<=cells.size/\N blk/\ ¬Pr blk/\
   ∀i y,l[i]?=some y->∃us,At cells (off+i * e.n) us/\ay w Pr e y us
def cB (w:World) (N:Nat->Prop) (Pr:Nat->Prop):(rs:List RT)->eC rs->List Value->(Nat->Prop)->Prop
 | [],_,vs,_=>vs=[]
 | .d agg τ::r,xs,vs,bs=>∃v us,vs=v::us/\gn w Pr (agg,τ) xs.1 v/\cB w N Pr r xs.2 us bs
 | .new e::r,xs,vs,bs=>∃v us blk,vs=v::us/\zz w N Pr e xs.1 v blk/\(v≠ .slice none 0 0-> ¬bs blk)/\cB w N Pr r xs.2 us (λ b=>bs b\/(v≠ .slice none 0 0/\b=blk))
 | .obj o ls::r,xs,vs,bs=>∃v us L,vs=v::us/\v=dP L 0 (o::ls)/\Sep w L Pr (bz (o::ls) xs.1)/\(∀b,Bl w L (bz (o::ls) xs.1) b->N b/\ ¬bs b)/\cB w N Pr r xs.2 us (λ b=>bs b\/Bl w L (bz (o::ls) xs.1) b)
def dR:List Value->Value
 | [v]=>v
 |vs=>.tuple vs.toArray
def uS (C:Array Value->World->(Ending->World->Prop)->Prop) (sig:List PT) (rs:List RT) (fn:DL sig->Option (eC rs)):Prop:=
 ∀xs r,fn xs=some r->∀(w:World) (Pr:Nat->Prop) (vs:List Value),(∀b,Pr b->b <w.heap.size)->ff w Pr sig xs vs->
  C vs.toArray w λ e w'=>∃ak us,e=.returned (dR us)/\(∀b,b <w.heap.size->w'.heap[b]?=w.heap[b]?)/\Grow w w'/\(∀b,Pr b->ak b)/\
    (∀b,ak b->b <w.heap.size->Pr b)/\(∀b,ak b->b <w'.heap.size)/\cB w' (λ b=>w.heap.size<=b) ak rs r us (λ _=>False)
def cT (P:Program) (f:FuncId) (sig:List PT) (rs:List RT) (fn:DL sig->Option (eC rs)):Prop:=uS (Calls P f) sig rs fn
def zA (P:Program) (f:FuncId) (args:Array Value) (w:World) (R:Ending->World->Prop):Prop:=∃v,(callFunc f args).run P w=.ok (.value v) w/\R (.returned v) w
def oN (P:Program) (f:FuncId) (sig:List PT) (rs:List RT) (fn:DL sig->Option (eC rs)):Prop:=uS (zA P f) sig rs fn
structure jH where
 sig:List PT
 rs:List RT
 fn:DL sig->Option (eC rs)
def iz (aT:Bool):List LO->Bool
 | .row _::_=> !aT
 |_=>false
def gD (aT:Bool) (ls:List LO) (L:Nat->RL):List Value:=match iz aT ls with
 |true=>[(L 0).aF]
 |false=>[]
def pl {α:Type} (pos:Nat) (self rv:List α):List α:=match pos with
 | 0=>self++rv
 |_+1=>rv++self
theorem Ay {α:Type} {pos:Nat} {x:α} {l m:List α} (h:x∈pl pos l m):x∈l\/x∈m:=by
 cases pos<;>simpa [pl,or_comm] using h
theorem an.pl {α β:Type} {r:α->β->Prop} {a c:List α} {b d:List β} (h1:an r a b) (h2:an r c d):∀pos,an r (Go.Rx.pl pos a c) (Go.Rx.pl pos b d)
 | 0=>h1.append h2
 |_+1=>h2.append h1
def gV (P:Program) (f:FuncId) (pos:Nat) (aT:Bool) (ls:List LO) (sig:List PT) (rs:List RT) (fn:cv ls->DL sig->Option (cv ls×eC rs)):Prop:=
 ∀x xs y r,fn x xs=some (y,r)->∀(w:World) (Pr:Nat->Prop) (vs:List Value) (Lo:Nat->RL),(∀b,Pr b->b <w.heap.size)->Sep w Lo Pr (bz ls x)->ff w Pr sig xs vs->
  Calls P f (vs.take pos++dP Lo 0 ls::vs.drop pos).toArray w λ e w'=>∃ak rv cH,e=.returned (dR (pl pos (gD aT ls cH) rv))/\(∀i,i <ls.length->(aT=true\/(i=0/\iz aT ls=false))->cH i=Lo i)/\(∀b,b <w.heap.size-> ¬Bl w Lo (bz ls x) b->w'.heap[b]?=w.heap[b]?)/\Grow w w'/\(∀b,Pr b->ak b)/\
   (∀b,ak b->b <w.heap.size->Pr b\/Bl w Lo (bz ls x) b)/\(∀b,ak b->b <w'.heap.size)/\Sep w' cH ak (bz ls y)/\(∀b,Bl w' cH (bz ls y) b->Bl w Lo (bz ls x) b\/w.heap.size<=b)/\
   cB w' (λ b=>w.heap.size<=b\/Bl w Lo (bz ls x) b) ak rs r rv (Bl w' cH (bz ls y))
structure kI where
 pos:Nat
 aT:Bool
 ls:List LO
 sig:List PT
 rs:List RT
 fn:cv ls->DL sig->Option (cv ls×eC rs)
inductive BB where
 |c (c:jH)
 |b (c:kI)
 |x (c:jH)
abbrev Env:=List (FuncId×BB)
def Env.get:Env->FuncId->Option jH
 | [],_=>none
 | (g,.c c)::r,f=>if f=g then some c else Env.get r f
 | (_,.b _)::r,f=>Env.get r f
 | (_,.x _)::r,f=>Env.get r f
def Env.iH:Env->FuncId->Option jH
 | [],_=>none
 | (g,.x c)::r,f=>if f=g then some c else Env.iH r f
 | (_,.c _)::r,f=>Env.iH r f
 | (_,.b _)::r,f=>Env.iH r f
def Env.x6 (E:Env) (f:FuncId):Option jH:=match E.get f with
 |some c=>some c
 |none=>E.iH f
theorem Env.zf {E:Env} {f:FuncId} {c:jH} (h:E.x6 f=some c):E.get f=some c\/E.iH f=some c:=by
 unfold Env.x6 at h
 split at h
 ·rename_i e;exact .inl (e.trans h)
 ·exact .inr h
def Env.eO:Env->FuncId->Option kI
 | [],_=>none
 | (g,.b c)::r,f=>if f=g then some c else Env.eO r f
 | (_,.c _)::r,f=>Env.eO r f
 | (_,.x _)::r,f=>Env.eO r f
def bR (P:Program):Env->Prop
 | []=>True
 | (f,.c c)::r=>cT P f c.sig c.rs c.fn/\bR P r
 | (f,.b c)::r=>gV P f c.pos c.aT c.ls c.sig c.rs c.fn/\bR P r
 | (f,.x c)::r=>oN P f c.sig c.rs c.fn/\bR P r
theorem bR.iH {P:Program}:∀{E:Env} {f:FuncId} {c:jH},bR P E->E.iH f=some c->oN P f c.sig c.rs c.fn
 | [],_,_,_,h=>by cases h
 | (g,.x d)::r,f,c,h,hg=>by
   simp only [Env.iH] at hg
   split at hg
   ·rename_i e;subst e;cases hg;exact h.1
   ·exact bR.iH h.2 hg
 | (g,.b d)::r,f,c,h,hg=>bR.iH (E:=r) h.2 hg
 | (g,.c d)::r,f,c,h,hg=>bR.iH (E:=r) h.2 hg
theorem bR.get {P:Program}:∀{E:Env} {f:FuncId} {c:jH},bR P E->E.get f=some c->cT P f c.sig c.rs c.fn
 | [],_,_,_,h=>by cases h
 | (g,.c d)::r,f,c,h,hg=>by
   simp only [Env.get] at hg
   split at hg
   ·rename_i e;subst e;cases hg;exact h.1
   ·exact bR.get h.2 hg
 | (g,.b d)::r,f,c,h,hg=>bR.get (E:=r) h.2 hg
 | (g,.x d)::r,f,c,h,hg=>bR.get (E:=r) h.2 hg
theorem bR.eO {P:Program}:∀{E:Env} {f:FuncId} {c:kI},bR P E->E.eO f=some c->gV P f c.pos c.aT c.ls c.sig c.rs c.fn
 | [],_,_,_,h=>by cases h
 | (g,.b d)::r,f,c,h,hg=>by
   simp only [Env.eO] at hg
   split at hg
   ·rename_i e;subst e;cases hg;exact h.1
   ·exact bR.eO h.2 hg
 | (g,.c d)::r,f,c,h,hg=>bR.eO (E:=r) h.2 hg
 | (g,.x d)::r,f,c,h,hg=>bR.eO (E:=r) h.2 hg
def cN (ob:Nat->Option Ob):C->List Nat×C
 | .own κ=>match ob κ with
   |some (.vec e l)=>([κ],.val false e l)
   |_=>([κ],.own κ)
 |c=>([],c)
def cg (ob:Nat->Option Ob):List C->List Nat×List C
 | []=>([],[])
 |c::cs=>((cN ob c).1++(cg ob cs).1,(cN ob c).2::(cg ob cs).2)
def gO:Cp->Bool
 | .one _=>false
 | .agg _=>true
def toArg (ob:Nat->Option Ob) (p:PT):AV->Option (List Nat×p.2.D)
 | .cp x=>match gO x,p.1,bV x with
   |true,true,some cs=>match p.2.of (cg ob cs).2 with
    |some (y,[])=>some ((cg ob cs).1,y)
    |_=>none
   |false,false,some cs=>match p.2.of (cg ob cs).2 with
    |some (y,[])=>some ((cg ob cs).1,y)
    |_=>none
   |_,_,_=>none
 | .bO _=>none
def dF (ob:Nat->Option Ob):C->List Nat×C
 | .mp κ=>match ob κ with
   |some (.map K V l _)=>([κ],.dat (.map K V) l)
   |_=>([κ],.mp κ)
 | .own κ=>match ob κ with
   |some (.rows e ll none _ 0 _)=>([κ],.val false (.sl false e) ll)
   |some (.rows e ll none t (_+1) xs)=>([κ],.val false (eR t (.sl false e)) (gB t e xs ll))
   |_=>cN ob (.own κ)
 |c=>cN ob c
def ck (ob:Nat->Option Ob):List C->List Nat×List C
 | []=>([],[])
 |c::cs=>((dF ob c).1++(ck ob cs).1,(dF ob c).2::(ck ob cs).2)
def iA (ob:Nat->Option Ob):(e:Ty)->Cp->Option (List Nat×e.D)
 | .ptr e,.one (.ptr κ 0)=>match ob κ with
   |some (.box cs)=>match e.of (ck ob cs).2 with
    |some (y,[])=>some (κ::(ck ob cs).1,(show (Ty.ptr e).D from y))
    |_=>none
   |_=>none
 |_,_=>none
def bI (ob:Nat->Option Ob):(e:Ty)->List Nat->Option (List Nat×e.D)
 | .ptr e,[κ]=>match ob κ with
   |some (.box cs)=>match e.of (ck ob cs).2 with
    |some (y,[])=>some (κ::(ck ob cs).1,(show (Ty.ptr e).D from y))
    |_=>none
   |some (.cG e' x)=>match Ty.dec e' e with
    |isTrue h=>some ([κ],(show (Ty.ptr e).D from (h▸x:e.D)))
    |isFalse _=>none
   |_=>none
 | .pair (.ptr e) b,κ::aJ=>match ob κ,bI ob b aJ with
   |some (.box cs),some (acc,r)=>match e.of (ck ob cs).2 with
    |some (y,[])=>some (κ::((ck ob cs).1++acc),((show (Ty.ptr e).D from y),r))
    |_=>none
   |some (.cG e' x),some (acc,r)=>match Ty.dec e' e with
    |isTrue h=>some (κ::acc,((show (Ty.ptr e).D from (h▸x:e.D)),r))
    |isFalse _=>none
   |_,_=>none
 |_,_=>none
def mapArg (ob:Nat->Option Ob):(e:Ty)->Cp->Option (List Nat×e.D)
 | .map K V,.one (.mp κ)=>match ob κ with
   |some (.map K' V' l _)=>match Ty.dec (.map K' V') (.map K V) with
    |isTrue h=>some ([κ],(h▸(show (Ty.map K' V').D from l):(Ty.map K V).D))
    |isFalse _=>none
   |_=>none
 | .cL f e,.one (.fn g aJ)=>match g.beq f with
   |true=>(bI ob e aJ).map λ p=>(p.1,(show (Ty.cL f e).D from p.2))
   |false=>none
 | .sl false e,.one (.own κ)=>match dF ob (.own κ) with
   | (acc,.val false e' l)=>match Ty.dec e' e with
     |isTrue h=>some (acc,(h▸l:List e.D))
     |isFalse _=>none
   |_=>none
 |e,c=>iA ob e c
def kG (ob:Nat->Option Ob) (p:PT) (v:AV):Option (List Nat×p.2.D):=
 match toArg ob p v with
 |some r=>some r
 |none=>match p.1,v with
  |false,.cp x=>mapArg ob p.2 x
  |_,_=>none
def eX (ob:Nat->Option Ob) (κ:Nat):Bool:=match ob κ with
 |some (.vec _ _)=>true
 |_=>false
def dY (ob:Nat->Option Ob):(sig:List PT)->List AV->Option (List Nat×DL sig)
 | [],[]=>some ([],())
 |p::r,v::vs=>match kG ob p v,dY ob r vs with
  |some (k1,x),some (k2,xs)=>some (k1++k2,(x,xs))
  |_,_=>none
 |_,_=>none
def Ty.bU:Ty->Bool
 | .pair a b=>a.bU && b.bU
 | .sl _ _=>false
 | .ptr _=>false
 | .cL _ _=>false
 | .map _ _=>false
 |_=>true
def RT.bU:RT->Bool
 | .d _ τ=>τ.bU
 | .new e=>e.bU
 | .obj _ _=>false
def bB:List Nat->St->St
 | [],σ=>σ
 |κ::r,σ=>bB r (σ.bJ κ)
def LO.y3:LO->Bool
 | .box _=>false
 |_=>true
def iu (N d i n:Nat):List Nat:=(List.range' i n).map λ j=>d+j * N
def wX (κ:Nat):LO->C
 | .box _=>.ptr κ 0
 | .row _=>.own κ
 | .rows _=>.own κ
 | .map _ _=>.mp κ
def gC (N d:Nat):Nat->(rs:List RT)->eC rs->Option (List Cp×List (Nat×Ob))
 |_,[],_=>some ([],[])
 |i,.d true τ::r,xs=>match gC N d i r xs.2 with
  |some (cs,ns)=>some (.agg (τ.cells xs.1)::cs,ns)
  |none=>none
 |i,.d false τ::r,xs=>match τ.cells xs.1,gC N d i r xs.2 with
  | [c],some (cs,ns)=>some (.one c::cs,ns)
  |_,_=>none
 |i,.new e::r,xs=>match gC N d (i+1) r xs.2 with
  |some (cs,ns)=>some (.one (.own (d+i * N))::cs,(d+i * N,.vec e xs.1)::ns)
  |none=>none
 |i,.obj o ls::r,xs=>match gC N d (i+(ls.length+1)) r xs.2,ls.all LO.y3 with
  |some (cs,ns),true=>some (.one (wX (d+i * N) o)::cs,aX (iu N d (i+1) ls.length) (iu N d (i+1) ls.length) ls xs.1.2++(d+i * N,o.ob (iu N d (i+1) ls.length) xs.1.1)::ns)
  |_,_=>none
def gA:List Cp->AV
 | [c]=>.cp c
 |cs=>.bO cs
def jO (rs:List RT) (acc:List Nat) (σ:St):St:=
 match acc with
 | []=>σ
 |_::_=>match rs.all RT.bU with
  |true=>σ
  |false=>bB acc σ
def iZ (σ:St) (c:jH) (args:List AV):Option (List Nat×St×DL c.sig):=
 match dY σ.ob c.sig args with
 |some (acc,xs)=>match acc.all (eX σ.ob) || c.rs.all RT.bU with
  |true=>some (acc,jO c.rs acc σ,xs)
  |false=>none
 |none=>none
def gI (σ:St) (dst:Option Nat) (rs:List RT) (r:eC rs):Option (St×AV×List (Nat×Ob)):=
 match gC σ.tmps.length (dst.getD 0) 0 rs r with
 |some (cs,ns)=>match σ.cF ns with
  |some σ'=>some (σ',gA cs,ns)
  |none=>none
 |none=>none
def p0:List Nat->List Nat->Bool
 |_,[]=>true
 |vs,κ::ns=> !vs.contains κ && !ns.contains κ && p0 vs ns
theorem lq:∀{vs ns:List Nat},p0 vs ns=true->ns.Nodup/\∀κ∈ns,κ∉vs
 |vs,[],_=>⟨List.nodup_nil,λ κ aa=>by cases aa⟩
 |vs,κ::ns,h=>by
  simp only [p0,Bool.and_eq_true,Bool.not_eq_true',List.contains_eq_mem,decide_eq_false_iff_not] at h
  obtain ⟨k1,k2⟩:=lq h.2
  refine ⟨List.nodup_cons.2 ⟨h.1.2,k1⟩,λ af aa=> ?_⟩
  rcases List.mem_cons.1 aa with rfl|aa
  ·exact h.1.1
  ·exact k2 af aa
def cM (ob:Nat->Option Ob):List Nat->(fs:List LF)->List C->Option (List Nat×nN fs)
 |_,[],[]=>some ([],())
 |ks,.d τ::r,cs=>match τ.of (cg ob (cs.take τ.n)).2,cM ob ks r (cs.drop τ.n) with
  |some (x,[]),some (a,y)=>some ((cg ob (cs.take τ.n)).1++a,(x,y))
  |_,_=>none
 |k::ks,.o::r,.own κ::cs=>match κ.beq k with
  |true=>cM ob ks r cs
  |false=>none
 |_,_,_=>none
def vM:List LF->List C->List Nat
 | .d τ::r,cs=>vM r (cs.drop τ.n)
 | .o::r,.own κ::cs=>κ::vM r cs
 |_,_=>[]
def dS (ob:Nat->Option Ob) (ks:List Nat) (κ:Nat):(o:LO)->Option (List Nat×o.D)
 | .box fs=>match ob κ with
   |some (.box cs)=>cM ob ks fs cs
   |_=>none
 | .row e=>match ob κ with
   |some (.vec e' l)=>match Ty.dec e' e with
    |isTrue h=>some ([],(h▸l:List e.D))
    |isFalse _=>none
   |_=>none
 | .rows e=>match ob κ with
   |some (.rows e' ll none .bool 0 [])=>match Ty.dec e' e with
    |isTrue h=>some ([],(h▸ll:List (List e.D)))
    |isFalse _=>none
   |_=>none
 | .map K V=>match ob κ with
   |some (.map K' V' l none)=>match Ty.dec (.map K' V') (.map K V) with
    |isTrue h=>some ([],(h▸(show (Ty.map K' V').D from l):(Ty.map K V).D))
    |isFalse _=>none
   |_=>none
def cE (ob:Nat->Option Ob) (ks:List Nat):List Nat->(ls:List LO)->Option (List Nat×cv ls)
 |κ::aJ,o::r=>match dS ob ks κ o,cE ob ks aJ r with
  |some (a,x),some (b,y)=>some (a++b,(x,y))
  |_,_=>none
 | [],[]=>some ([],())
 |_,_=>none
def bW (ob:Nat->Option Ob) (κ:Nat):List LO->List Nat
 | .box fs::_=>match ob κ with
   |some (.box cs)=>vM fs cs
   |_=>[]
 |_=>[]
def gJ (σ:St) (c:kI) (κ:Nat) (args:List AV):Option (List Nat×List Nat×cv c.ls×DL c.sig):=
 match cE σ.ob (bW σ.ob κ c.ls) (κ::bW σ.ob κ c.ls) c.ls,dY σ.ob c.sig args with
 |some (k1,x),some (k2,xs)=>match p0 (k1++k2) (κ::bW σ.ob κ c.ls) && k2.all (eX σ.ob) with
  |true=>some (k1++k2,bW σ.ob κ c.ls,x,xs)
  |false=>none
 |_,_=>none
def bT:List Nat->St->St
 | [],σ=>σ
 |κ::r,σ=>bT r (σ.kill κ)
def loose (aT:Bool) (ls:List LO) (κ:Nat) (ks:List Nat):List Nat:=match aT with
 |true=>[]
 |false=>match iz false ls with
  |true=>κ::ks
  |false=>ks
def qb (aT:Bool) (ls:List LO) (κ:Nat):List Cp:=match iz aT ls with
 |true=>[.one (.own κ)]
 |false=>[]
def gd (σ:St) (dst:Option Nat) (pos κ:Nat) (ks:List Nat) (aT:Bool) (ls:List LO) (rs:List RT) (y:cv ls) (r:eC rs):Option (St×AV×List (Nat×Ob)):=
 match gC σ.tmps.length (dst.getD 0) 0 rs r,(loose aT ls κ ks).all (λ k=>fE k σ.objs.length) with
 |some (cs,ns),true=>match ((bT (loose aT ls κ ks) σ).aG (aX ks (κ::ks) ls y)).cF ns with
  |some σ'=>some (σ',gA (pl pos (qb aT ls κ) cs),ns)
  |none=>none
 |_,_=>none
section
variable {w w':World} {R:Nat->RL} {Pr ak:Nat->Prop}
theorem ay.bU:∀{e:Ty} {x:e.D} {us:List Value},e.bU=true->ay w Pr e x us->ay w' ak e x us
 | .int _,_,_,_,h=>h
 | .bool,_,_,_,h=>h
 | .str,_,_,_,h=>h
 | .pair a b,x,us,hs,h=>by
   simp only [Ty.bU,Bool.and_eq_true] at hs
   obtain ⟨u1,u2,rfl,h1,h2⟩:=h
   exact ⟨u1,u2,rfl,ay.bU hs.1 h1,ay.bU hs.2 h2⟩
 | .sl _ _,_,_,hs,_=>by simp [Ty.bU] at hs
 | .fn _,_,_,_,h=>h
 | .ptr _,_,_,hs,_=>by simp [Ty.bU] at hs
theorem mZ {ob:Nat->Option Ob} (aj:∀κ o,ob κ=some o->az w R Pr κ o) (hp:∀b,Pr b->ak b) {c:C} {v:Value} (hk:∀κ∈(cN ob c).1,∀e l,ob κ=some (.vec e l)->real R κ (.vec e l)->ak (R κ).blk) (h:au w R Pr c v):au w R ak (cN ob c).2 v:=by
 unfold cN at *
 split
 ·rename_i κ
  split
  ·rename_i e l ho
   have h1:v=(R κ).aF:=h
   rw [h1]
   refine lH (aj κ _ ho) hp (λ aq=>hk κ ?_ _ _ ho aq)
   simp only [ho]
   exact List.mem_singleton.2 rfl
  ·exact au.move (λ _ _=>rfl) hp (λ _ _=>rfl) h
 ·exact au.move (λ _ _=>rfl) hp (λ _ _=>rfl) h
theorem iY {ob:Nat->Option Ob} (aj:∀κ o,ob κ=some o->az w R Pr κ o) (hp:∀b,Pr b->ak b):∀{cs:List C} {vs:List Value},(∀κ∈(cg ob cs).1,∀e l,ob κ=some (.vec e l)->real R κ (.vec e l)->ak (R κ).blk)->an (au w R Pr) cs vs->an (au w R ak) (cg ob cs).2 vs
 | [],[],_,_=>trivial
 |c::cs,v::vs,hk,h=>⟨mZ aj hp (λ κ aa=>hk κ (List.mem_append_left _ aa)) h.1,iY aj hp (λ κ aa=>hk κ (List.mem_append_right _ aa)) h.2⟩
 | [],_::_,_,h=>h.elim
 |_::_,[],_,h=>h.elim
theorem rM {ob:Nat->Option Ob} (aj:∀κ o,ob κ=some o->az w R Pr κ o) (hp:∀b,Pr b->ak b) {p:PT} {v:AV} {u:Value} {acc:List Nat} {x:p.2.D} (h:toArg ob p v=some (acc,x)) (hk:∀κ∈acc,∀e l,ob κ=some (.vec e l)->real R κ (.vec e l)->ak (R κ).blk) (hr:aA w R Pr v u):gn w ak p x u:=by
 cases v with
 |bO _=>simp [toArg] at h
 |cp c=>
  have hr:bf w R Pr c u:=hr
  simp only [toArg] at h
  split at h
  ·rename_i cs h1 h2 h3
   split at h
   ·rename_i y hy
    cases h
    have h4:=iY aj hp hk (dI hr h3).1
    obtain ⟨u1,u2,dw,k1,k2⟩:=c8 hy h4
    have eP:u2=[]:=by
     cases u2 with
     |nil=>rfl
     |cons _ _=>exact k2.elim
    subst eP
    simp only [List.append_nil] at dw
    cases c with
    |one c=>simp [gO] at h1
    |agg l=>
     obtain ⟨us,rfl,_⟩:=hr
     unfold gn
     rw [h2]
     exact ⟨us,rfl,by rw [show us.toList=u1 from dw];exact k1⟩
   ·cases h
  ·rename_i cs h1 h2 h3
   split at h
   ·rename_i y hy
    cases h
    have h4:=iY aj hp hk (dI hr h3).1
    obtain ⟨u1,u2,dw,k1,k2⟩:=c8 hy h4
    have eP:u2=[]:=by
     cases u2 with
     |nil=>rfl
     |cons _ _=>exact k2.elim
    subst eP
    simp only [List.append_nil] at dw
    cases c with
    |agg l=>simp [gO] at h1
    |one c=>
     have hu:u.cells= #[u] :=by
      unfold bV at h3
      split at h3
      ·cases h3
      ·rename_i c' hne e
       cases e
       have:=(au.one hr (λ e=>hne (by rw [e]))).1
       cases u<;>first|rfl|exact absurd rfl (this _)
      ·rename_i e;cases e
     unfold gn
     rw [h2]
     show ay w ak p.2 _ [u]
     rw [hu] at dw
     rw [show [u]=u1 from dw];exact k1
   ·cases h
  ·cases h
theorem nT {ob:Nat->Option Ob} {κ:Nat} (h:eX ob κ=true):∃e l,ob κ=some (.vec e l):=by
 unfold eX at h
 split at h
 ·rename_i e l ho;exact ⟨e,l,ho⟩
 ·cases h
theorem qh {ob:Nat->Option Ob} (aj:∀κ o,ob κ=some o->az w R Pr κ o) (hp:∀b,Pr b->ak b) {c:C} {v:Value} (hk:∀κ∈(dF ob c).1,∀o b,ob κ=some o->kK w R κ o b->ak b) (h:au w R Pr c v):au w R ak (dF ob c).2 v:=by
 unfold dF at *
 split
 ·rename_i κ
  split
  ·rename_i K V l it ho
   have h1:v=.map (some (R κ).blk):=h
   obtain ⟨es,clock,g1,g2,g3,g4,_⟩:=aj κ _ ho
   refine ⟨v,(R κ).blk,es,clock,rfl,h1,hk κ ?_ _ _ ho (.inl ⟨trivial,rfl⟩),g1,g2,g3,λ i kv en q1 q2=>(g4 i kv en q1 q2).move (λ _ _=>rfl) hp⟩
   simp only [ho]
   exact List.mem_singleton.2 rfl
  ·exact au.move (λ _ _=>rfl) hp (λ _ _=>rfl) h
 ·rename_i κ
  split
  ·rename_i e ll tt xs ho
   have h1:v=(R κ).aF:=h
   rw [h1]
   exact lH ((aj κ _ ho).y8 hp λ b hb=>hk κ (by simp only [ho];exact List.mem_singleton.2 rfl) _ _ ho (.inr hb)) (λ _ hb=>hb) λ aq=>hk κ (by simp only [ho];exact List.mem_singleton.2 rfl) _ _ ho (.inl ⟨aq,rfl⟩)
  ·rename_i e ll tt m xs ho
   have h1:v=(R κ).aF:=h
   rw [h1]
   exact lH ((aj κ _ ho).y9 hp λ b hb=>hk κ (by simp only [ho];exact List.mem_singleton.2 rfl) _ _ ho (.inr hb)) (λ _ hb=>hb) λ aq=>hk κ (by simp only [ho];exact List.mem_singleton.2 rfl) _ _ ho (.inl ⟨aq,rfl⟩)
  ·rename_i h1 h2
   refine mZ aj hp (λ af aa e l ho aq=>hk af ?_ _ _ ho (.inl ⟨aq,rfl⟩)) h
   simp only
   exact aa
 ·rename_i hne hno
  refine mZ aj hp (λ κ aa e l ho aq=>hk κ ?_ _ _ ho (.inl ⟨aq,rfl⟩)) h
  split
  ·exact absurd rfl (hne _)
  ·exact absurd rfl (hno _)
  ·exact aa
theorem kf {ob:Nat->Option Ob} (aj:∀κ o,ob κ=some o->az w R Pr κ o) (hp:∀b,Pr b->ak b):∀{cs:List C} {vs:List Value},(∀κ∈(ck ob cs).1,∀o b,ob κ=some o->kK w R κ o b->ak b)->an (au w R Pr) cs vs->an (au w R ak) (ck ob cs).2 vs
 | [],[],_,_=>trivial
 |c::cs,v::vs,hk,h=>⟨qh aj hp (λ κ aa=>hk κ (List.mem_append_left _ aa)) h.1,kf aj hp (λ κ aa=>hk κ (List.mem_append_right _ aa)) h.2⟩
 | [],_::_,_,h=>h.elim
 |_::_,[],_,h=>h.elim
theorem vR {ob:Nat->Option Ob} (aj:∀κ o,ob κ=some o->az w R Pr κ o) (hp:∀b,Pr b->ak b) {e:Ty} {c:Cp} {u:Value} {acc:List Nat} {x:e.D} (h:iA ob e c=some (acc,x)) (hk:∀κ∈acc,∀o b,ob κ=some o->kK w R κ o b->ak b) (hr:bf w R Pr c u):ay w ak e x [u]:=by
 unfold iA at h
 split at h
 ·rename_i e κ
  split at h
  ·rename_i cs ho
   split at h
   ·rename_i y hy
    cases h
    obtain ⟨el,vs,h1,h2⟩:=aj κ _ ho
    have h4:=kf aj hp (λ af aa o b ho aq=>hk af (List.mem_cons_of_mem _ aa) _ _ ho aq) h2
    obtain ⟨u1,u2,dw,k1,k2⟩:=c8 hy h4
    refine ⟨u,rfl,(R κ).blk,0,vs,el,(0,0),u1,hr,hk κ (List.mem_cons_self ..) _ _ ho (.inl ⟨trivial,rfl⟩),h1,λ c v hc=> ?_,k1⟩
    rw [Nat.zero_add, <-Array.getElem?_toList,dw]
    rw [List.getElem?_append_left (List.getElem?_eq_some_iff.1 hc).1]
    exact hc
   ·cases h
  ·cases h
 ·cases h
theorem ni {ob:Nat->Option Ob} (aj:∀κ o,ob κ=some o->az w R Pr κ o) (hp:∀b,Pr b->ak b) {κ:Nat} {e:Ty} {y:e.D} {acc:List Nat} (hk:∀af∈acc,∀o b,ob af=some o->kK w R af o b->ak b) (hm:κ∈acc)
 (h:(∃cs,ob κ=some (.box cs)/\e.of (ck ob cs).2=some (y,[])/\∀af∈(ck ob cs).1,af∈acc)\/ob κ=some (.cG e y)):ay w ak (.ptr e) y [.pointer (some ⟨(R κ).blk,0,none⟩)]:=by
 rcases h with ⟨cs,ho,hy,ha⟩|ho
 ·obtain ⟨el,vs,h1,h2⟩:=aj κ _ ho
  have h4:=kf aj hp (λ af aa o b ho' aq=>hk af (ha af aa) _ _ ho' aq) h2
  obtain ⟨u1,u2,dw,k1,k2⟩:=c8 hy h4
  refine ⟨_,rfl,(R κ).blk,0,vs,el,(0,0),u1,rfl,hk κ hm _ _ ho (.inl ⟨trivial,rfl⟩),h1,λ c v hc=> ?_,k1⟩
  rw [Nat.zero_add, <-Array.getElem?_toList,dw]
  rw [List.getElem?_append_left (List.getElem?_eq_some_iff.1 hc).1]
  exact hc
 ·obtain ⟨h0,cells,el,fr,us,h1,h2,h3⟩:=aj κ _ ho
  exact ⟨_,rfl,(R κ).blk,0,cells,el,fr,us,rfl,hp _ h0,h1,h2,h3.move (λ _ _=>rfl) hp⟩
theorem uY {ob:Nat->Option Ob} (aj:∀κ o,ob κ=some o->az w R Pr κ o) (hp:∀b,Pr b->ak b):∀{e:Ty} {aJ:List Nat} {acc:List Nat} {x:e.D},bI ob e aJ=some (acc,x)->(∀κ∈acc,∀o b,ob κ=some o->kK w R κ o b->ak b)->
 ay w ak e x (aJ.map λ κ=>Value.pointer (some ⟨(R κ).blk,0,none⟩)):=λ {e}=>by
 induction e with
 |ptr e _=>
  intro aJ acc x h hk
  match aJ,h with
  | [κ],h=>
    simp only [bI] at h
    split at h
    ·rename_i cs ho
     split at h
     ·rename_i y hy
      cases h
      exact ni aj hp hk (List.mem_cons_self ..) (.inl ⟨cs,ho,hy,λ af aa=>List.mem_cons_of_mem _ aa⟩)
     ·cases h
    ·rename_i e' x' ho
     revert h
     generalize Ty.dec e' e=d
     intro h
     cases d with
     |isFalse _=>cases h
     |isTrue he=>
      subst he;cases h
      exact ni aj hp hk (List.mem_cons_self ..) (.inr ho)
    ·cases h
  | [],h=>simp [bI] at h
  |_::_::_,h=>simp [bI] at h
 |pair a b _ ihb=>
  intro aJ acc x h hk
  cases a with
  |ptr e=>
   match aJ,h with
   |κ::aJ,h=>
    simp only [bI] at h
    split at h
    ·rename_i cs acc' r ho hr
     split at h
     ·rename_i y hy
      cases h
      refine ⟨[_],_,rfl,ni aj hp hk (List.mem_cons_self ..) (.inl ⟨cs,ho,hy,λ af aa=>List.mem_cons_of_mem _ (List.mem_append_left _ aa)⟩),ihb hr (λ κ aa=>hk κ (List.mem_cons_of_mem _ (List.mem_append_right _ aa)))⟩
     ·cases h
    ·rename_i e' x' acc' r ho hr
     revert h
     generalize Ty.dec e' e=d
     intro h
     cases d with
     |isFalse _=>cases h
     |isTrue he=>
      subst he;cases h
      exact ⟨[_],_,rfl,ni aj hp hk (List.mem_cons_self ..) (.inr ho),ihb hr (λ κ aa=>hk κ (List.mem_cons_of_mem _ aa))⟩
    ·cases h
   | [],h=>simp [bI] at h
  |_=>intros;simp [bI] at h
 |_=>intro aJ acc x h;simp [bI] at h
theorem vO {ob:Nat->Option Ob} (aj:∀κ o,ob κ=some o->az w R Pr κ o) (hp:∀b,Pr b->ak b) {e:Ty} {c:Cp} {u:Value} {acc:List Nat} {x:e.D} (h:mapArg ob e c=some (acc,x)) (hk:∀κ∈acc,∀o b,ob κ=some o->kK w R κ o b->ak b) (hr:bf w R Pr c u):ay w ak e x [u]:=by
 unfold mapArg at h
 split at h
 ·rename_i K V κ
  split at h
  ·rename_i K' V' l it ho
   revert h
   generalize Ty.dec (.map K' V') (.map K V)=d
   intro h
   cases d with
   |isFalse _=>cases h
   |isTrue he=>
    injection he with e1 e2
    subst e1 e2
    cases h
    have h1:u=.map (some (R κ).blk):=hr
    obtain ⟨es,clock,g1,g2,g3,g4,_⟩:=aj κ _ ho
    exact ⟨u,(R κ).blk,es,clock,rfl,h1,hk κ (List.mem_singleton.2 rfl) _ _ ho (.inl ⟨trivial,rfl⟩),g1,g2,g3,λ i kv en q1 q2=>(g4 i kv en q1 q2).move (λ _ _=>rfl) hp⟩
  ·cases h
 ·rename_i f e g aJ
  split at h
  ·rename_i hg
   obtain ⟨⟨acc',y⟩,hy,e1⟩:=Option.map_eq_some_iff.1 h
   cases e1
   have hg:=Nat.eq_of_beq_eq_true hg
   subst hg
   exact ⟨u,_,rfl,hr,uY aj hp hy hk⟩
  ·cases h
 ·rename_i e κ
  split at h
  ·rename_i acc' e' l ho
   revert h
   generalize Ty.dec e' e=d
   intro h
   cases d with
   |isFalse _=>cases h
   |isTrue he=>
    subst he;cases h
    have h2:=qh aj hp (c:=.own κ) (λ af aa o b ho' hb=>hk af (by rw [ho] at aa;exact aa) o b ho' hb) hr
    rw [ho] at h2
    exact h2
  ·cases h
 ·exact vR aj hp h hk hr
theorem vY {ob:Nat->Option Ob} (aj:∀κ o,ob κ=some o->az w R Pr κ o) (hp:∀b,Pr b->ak b) {p:PT} {v:AV} {u:Value} {acc:List Nat} {x:p.2.D} (h:kG ob p v=some (acc,x)) (hk:∀κ∈acc,∀o b,ob κ=some o->kK w R κ o b->ak b) (hr:aA w R Pr v u):gn w ak p x u:=by
 unfold kG at h
 split at h
 ·rename_i r pJ
  cases h
  exact rM aj hp pJ (λ κ aa e l ho aq=>hk κ aa _ _ ho (.inl ⟨aq,rfl⟩)) hr
 ·split at h
  ·rename_i c hp1 _
   unfold gn
   rw [hp1]
   exact vO aj hp h hk hr
  ·cases h
theorem lG {ob:Nat->Option Ob} (aj:∀κ o,ob κ=some o->az w R Pr κ o) (hp:∀b,Pr b->ak b):∀{sig:List PT} {vs:List AV} {us:List Value} {acc:List Nat} {xs:DL sig},dY ob sig vs=some (acc,xs)->(∀κ∈acc,∀o b,ob κ=some o->kK w R κ o b->ak b)->an (aA w R Pr) vs us->ff w ak sig xs us
 | [],[],[],_,_,_,_,_=>rfl
 |p::sig,v::vs,u::us,acc,xs,h,hk,hr=>by
  simp only [dY] at h
  split at h
  ·rename_i k1 x k2 ys h1 h2
   cases h
   exact ⟨u,us,rfl,vY aj hp h1 (λ κ aa=>hk κ (List.mem_append_left _ aa)) hr.1,lG aj hp h2 (λ κ aa=>hk κ (List.mem_append_right _ aa)) hr.2⟩
  ·cases h
 | [],[],_::_,_,_,_,_,hr=>hr.elim
 | [],_::_,_,_,_,h,_,_=>by simp [dY] at h
 |_::_,[],_,_,_,h,_,_=>by simp [dY] at h
 |_::_,_::_,[],_,_,_,_,hr=>hr.elim
theorem mV {ob:Nat->Option Ob} (aj:∀κ o,ob κ=some o->az w R Pr κ o) (hp:∀b,Pr b->ak b):∀{ks:List Nat} {fs:List LF} {cs:List C} {us:List Value} {acc:List Nat} {x:nN fs},cM ob ks fs cs=some (acc,x)->(∀κ∈acc,∀e l,ob κ=some (.vec e l)->real R κ (.vec e l)->ak (R κ).blk)->an (au w R Pr) cs us->an (au w R ak) (cK ks fs x) us
 |ks,[],[],us,acc,x,h,hk,hr=>by
  cases us with
  |nil=>simp only [cK];trivial
  |cons _ _=>exact hr.elim
 |ks,[],_::_,us,acc,x,h,hk,hr=>by simp [cM] at h
 |ks,.d τ::r,cs,us,acc,x,h,hk,hr=>by
  simp only [cM] at h
  split at h
  ·rename_i x1 a1 y1 h1 h2
   cases h
   have h4:=iY aj hp (λ κ aa=>hk κ (List.mem_append_left _ aa)) (hr.take τ.n)
   obtain ⟨u1,u2,dw,k1,k2⟩:=c8 h1 h4
   have eP:u2=[]:=by
    cases u2 with
    |nil=>rfl
    |cons _ _=>exact k2.elim
   subst eP
   simp only [List.append_nil] at dw
   have h5:=mV aj hp h2 (λ κ aa=>hk κ (List.mem_append_right _ aa)) (hr.drop τ.n)
   have h6:an (au w R ak) (τ.cells x1) (us.take τ.n):=by rw [dw];exact bu k1
   have h7:=h6.append h5
   rw [List.take_append_drop] at h7
   exact h7
  ·cases h
 |k::ks,.o::r,c::cs,us,acc,x,h,hk,hr=>by
  cases c with
  |own κ=>
   simp only [cM] at h
   split at h
   ·rename_i e
    have e:=Nat.eq_of_beq_eq_true e
    subst e
    cases us with
    |nil=>exact hr.elim
    |cons u us=>exact ⟨hr.1,mV aj hp h hk hr.2⟩
   ·cases h
  |_=>simp [cM] at h
 | [],.o::r,_,us,acc,x,h,hk,hr=>by simp [cM] at h
 |_::_,.o::r,[],us,acc,x,h,hk,hr=>by simp [cM] at h
def bk (o o':Ob):Prop:=(∀(R:Nat->RL) κ,real R κ o↔real R κ o')/\∀w (R:Nat->RL) κ b,bM w R κ o b↔bM w R κ o' b
theorem bk.rfl' (o:Ob):bk o o:=⟨λ _ _=>Iff.rfl,λ _ _ _ _=>Iff.rfl⟩
theorem bk.box (cs ds:List C):bk (.box cs) (.box ds):=⟨λ _ _=>Iff.rfl,λ _ _ _ _=>Iff.rfl⟩
theorem bk.trans {o1 o2 o3:Ob} (h:bk o1 o2) (k:bk o2 o3):bk o1 o3:=⟨λ R κ=>(h.1 R κ).trans (k.1 R κ),λ w R κ b=>(h.2 w R κ b).trans (k.2 w R κ b)⟩
theorem bk.symm {o1 o2:Ob} (h:bk o1 o2):bk o2 o1:=⟨λ R κ=>(h.1 R κ).symm,λ w R κ b=>(h.2 w R κ b).symm⟩
theorem bk.nZ {o o':Ob} (h:bk o o') {w:World} {R:Nat->RL} {κ b:Nat}:bt w R κ o b↔bt w R κ o' b:=by
 unfold bt;rw [h.1 R κ,h.2 w R κ b]
theorem xK {ob:Nat->Option Ob} (aj:∀κ o,ob κ=some o->az w R Pr κ o) (hp:∀b,Pr b->ak b) {ks:List Nat} {κ:Nat} {o:LO} {acc:List Nat} {x:o.D} (h:dS ob ks κ o=some (acc,x)) (hk:∀κ∈acc,∀e l,ob κ=some (.vec e l)->real R κ (.vec e l)->ak (R κ).blk):
 az w R ak κ (o.ob ks x)/\∃o1,ob κ=some o1/\bk (o.ob ks x) o1:=by
 cases o with
 |box fs=>
  cases ho:ob κ with
  |none=>simp only [dS,ho] at h;exact absurd h (by simp)
  |some o1=>
   cases o1 with
   |box cs=>
    simp only [dS,ho] at h
    obtain ⟨el,vs,h1,h2⟩:=aj κ _ ho
    exact ⟨⟨el,vs,h1,mV aj hp h hk h2⟩,_,rfl,bk.box _ _⟩
   |_=>simp only [dS,ho] at h;exact absurd h (by simp)
 |row e=>
  simp only [dS] at h
  split at h
  ·rename_i e' l ho
   revert h
   generalize Ty.dec e' e=d
   intro h
   cases d with
   |isFalse _=>cases h
   |isTrue he=>
    subst he;cases h
    exact ⟨az.move (λ _ _=>rfl) hp (λ _=>rfl) rfl (λ _ _=>rfl) (aj κ _ ho),_,ho,bk.rfl' _⟩
  ·cases h
 |rows e=>
  simp only [dS] at h
  split at h
  ·rename_i e' l ho
   revert h
   generalize Ty.dec e' e=d
   intro h
   cases d with
   |isFalse _=>cases h
   |isTrue he=>
    subst he;cases h
    exact ⟨az.move (λ _ _=>rfl) hp (λ _=>rfl) rfl (λ _ _=>rfl) (aj κ _ ho),_,ho,bk.rfl' _⟩
  ·cases h
 |map K V=>
  simp only [dS] at h
  split at h
  ·rename_i K' V' l ho
   revert h
   generalize Ty.dec (.map K' V') (.map K V)=d
   intro h
   cases d with
   |isFalse _=>cases h
   |isTrue he=>
    injection he with e1 e2
    subst e1 e2
    cases h
    exact ⟨az.move (λ _ _=>rfl) hp (λ _=>rfl) rfl (λ _ _=>rfl) (aj κ _ ho) (λ _ z=>by obtain ⟨_,_,z,_⟩:=z;cases z),_,ho,bk.rfl' _⟩
  ·cases h
theorem iF {ob:Nat->Option Ob} {ks:List Nat}:∀{aJ:List Nat} {ls:List LO} {acc:List Nat} {x:cv ls},cE ob ks aJ ls=some (acc,x)->aJ.length=ls.length
 | [],[],_,_,_=>rfl
 |κ::aJ,o::ls,acc,x,h=>by
  simp only [cE] at h
  split at h
  ·rename_i a x1 b y1 h1 h2
   simp [iF h2]
  ·cases h
 | [],_::_,_,_,h=>by simp [cE] at h
 |_::_,[],_,_,h=>by simp [cE] at h
theorem gW:∀(ks:List Nat) (fs:List LF) (x:nN fs) (c:C),c∈cK ks fs x->∀κ∈c.refs,κ∈ks
 |ks,[],x,c,hc,κ,aa=>by simp [cK] at hc
 |ks,.d τ::r,x,c,hc,κ,aa=>by
  simp only [cK,List.mem_append] at hc
  rcases hc with hc|hc
  ·rw [bL _ _ c hc] at aa;cases aa
  ·exact gW ks r x.2 c hc κ aa
 |k::ks,.o::r,x,c,hc,κ,aa=>by
  simp only [cK,List.mem_cons] at hc
  rcases hc with rfl|hc
  ·simp only [C.refs,List.mem_singleton] at aa;subst aa;exact List.mem_cons_self ..
  ·exact List.mem_cons_of_mem _ (gW ks r x c hc κ aa)
 | [],.o::r,x,c,hc,κ,aa=>by
   simp only [cK,List.mem_cons] at hc
   rcases hc with rfl|hc
   ·simp [C.refs] at aa
   ·exact gW [] r x c hc κ aa
theorem uM {ks:List Nat} {o:LO} {x:o.D} {κ:Nat} (h:κ∈(o.ob ks x).refs):κ∈ks:=by
 cases o with
 |box fs=>
  obtain ⟨c,hc,hk⟩:=List.mem_flatMap.1 h
  exact gW ks fs x c hc κ hk
 |row e=>simp [LO.ob,Ob.refs] at h
 |rows e=>simp [LO.ob,Ob.refs] at h
 |map K V=>simp [LO.ob,Ob.refs] at h
theorem gj {ks:List Nat}:∀{aJ:List Nat} {ls:List LO} (x:cv ls),aJ.length=ls.length->(aX ks aJ ls x).map (·.1)=aJ
 | [],[],_,_=>rfl
 |κ::aJ,o::ls,x,h=>by simp only [aX,List.map_cons];rw [gj x.2 (by simpa using h)]
 | [],_::_,_,h=>by simp at h
 |_::_,[],_,h=>by simp at h
theorem fB {ks:List Nat}:∀{aJ:List Nat} {ls:List LO} {x:cv ls} {i κ:Nat} {o:Ob},(aX ks aJ ls x)[i]?=some (κ,o)->aJ[i]?=some κ/\i <ls.length/\∀af∈o.refs,af∈ks
 |oq::aJ,o0::ls,x,i,κ,o,h=>by
  cases i with
  |zero=>
   simp only [aX,List.getElem?_cons_zero,Option.some.injEq,Prod.mk.injEq] at h
   obtain ⟨rfl,rfl⟩:=h
   exact ⟨rfl,by simp,λ af aa=>uM aa⟩
  |succ i=>
   simp only [aX,List.getElem?_cons_succ] at h
   obtain ⟨h1,h2,h3⟩:=fB h
   exact ⟨by simpa using h1,by simpa using h2,h3⟩
 |_,[],_,_,_,_,h=>by cases ‹List Nat› <;>simp [aX] at h
 | [],_::_,_,_,_,_,h=>by simp [aX] at h
theorem jF {ob:Nat->Option Ob} (aj:∀κ o,ob κ=some o->az w R Pr κ o) (hp:∀b,Pr b->ak b) {ks:List Nat}:∀{aJ:List Nat} {ls:List LO} {acc:List Nat} {x:cv ls},cE ob ks aJ ls=some (acc,x)->(∀κ∈acc,∀e l,ob κ=some (.vec e l)->real R κ (.vec e l)->ak (R κ).blk)->
 ∀{i κ:Nat} {o:Ob},(aX ks aJ ls x)[i]?=some (κ,o)->az w R ak κ o/\∃o1,ob κ=some o1/\bk o o1
 |oq::aJ,o0::ls,acc,x,h,hk,i,κ,o,hi=>by
  simp only [cE] at h
  split at h
  ·rename_i a x1 b y1 h1 h2
   cases h
   cases i with
   |zero=>
    simp only [aX,List.getElem?_cons_zero,Option.some.injEq,Prod.mk.injEq] at hi
    obtain ⟨rfl,rfl⟩:=hi
    exact xK aj hp h1 (λ κ aa=>hk κ (List.mem_append_left _ aa))
   |succ i=>
    simp only [aX,List.getElem?_cons_succ] at hi
    exact jF aj hp h2 (λ κ aa=>hk κ (List.mem_append_right _ aa)) hi
  ·cases h
 | [],[],_,x,_,_,i,κ,o,hi=>by simp [aX] at hi
 | [],_::_,_,_,h,_,_,_,_,_=>by simp [cE] at h
 |_::_,[],_,_,h,_,_,_,_,_=>by simp [cE] at h
theorem fo {R R':Nat->RL}:∀{ks ks':List Nat} {fs:List LF} {x:nN fs} {us:List Value},an (λ k k'=>R' k'=R k) ks ks'->an (au w R Pr) (cK ks fs x) us->an (au w R' Pr) (cK ks' fs x) us
 |ks,ks',[],x,us,hk,h=>by simpa only [cK] using h.mono (λ a ha b hb=>by simp [cK] at ha)
 |ks,ks',.d τ::r,x,us,hk,h=>by
  simp only [cK] at h ⊢
  have h1:=h.take (τ.cells x.1).length
  have h2:=h.drop (τ.cells x.1).length
  rw [List.take_left] at h1
  rw [List.drop_left] at h2
  have h3:=(h1.mono (s:=au w R' Pr) (λ c hc u hu=>au.move (λ _ _=>rfl) (λ _ h=>h) (λ κ aa=>by rw [bL _ _ c hc] at aa;cases aa) hu)).append (fo hk h2)
  rw [List.take_append_drop] at h3
  exact h3
 |k::ks,k'::ks',.o::r,x,us,hk,h=>by
  cases us with
  |nil=>exact h.elim
  |cons u us=>
   refine ⟨?_,fo hk.2 h.2⟩
   have:u=(R k).aF:=h.1
   show u=(R' k').aF
   rw [this,hk.1]
 | [],[],.o::r,x,us,hk,h=>by
   cases us with
   |nil=>exact h.elim
   |cons u us=>exact ⟨trivial,fo (ks:=[]) (ks':=[]) trivial h.2⟩
 | [],_::_,.o::r,x,us,hk,h=>hk.elim
 |_::_,[],.o::r,x,us,hk,h=>hk.elim
theorem az.relabel {R R':Nat->RL} {κ af:Nat} {ks ks':List Nat} {o:LO} {x:o.D} (aa:R' af=R κ) (hk:an (λ k k'=>R' k'=R k) ks ks') (h:az w R Pr κ (o.ob ks x)):az w R' Pr af (o.ob ks' x):=by
 cases o with
 |box fs=>
  obtain ⟨el,vs,h1,h2⟩:=h
  exact ⟨el,vs,by rw [aa];exact h1,fo hk h2⟩
 |row e=>
  simp only [LO.ob,az] at h ⊢
  rw [aa];exact h
 |rows e=>
  simp only [LO.ob,az] at h ⊢
  rw [aa];exact h
 |map K V=>
  obtain ⟨es,clock,h1,h2,h3,h4,_⟩:=h
  exact ⟨es,clock,by rw [aa];exact h1,h2,h3,h4,λ _ _ _ z=>by cases z⟩
theorem tN {R R':Nat->RL} {κ af:Nat} {ks ks':List Nat} {o:LO} {x:o.D} (aa:R' af=R κ):(real R' af (o.ob ks' x)↔real R κ (o.ob ks x))/\∀w b,bM w R' af (o.ob ks' x) b↔bM w R κ (o.ob ks x) b:=by
 cases o with
 |box fs=>exact ⟨Iff.rfl,λ _ _=>Iff.rfl⟩
 |row e=>simp only [LO.ob,real,bM,aa,implies_true,and_self]
 |rows e=>simp only [LO.ob,real,bM,aa,implies_true,and_self]
 |map K V=>exact ⟨Iff.rfl,λ _ _=>⟨λ ⟨_,_,z,_⟩=>(by cases z),λ ⟨_,_,z,_⟩=>(by cases z)⟩⟩
theorem c7 {R R':Nat->RL} {ks ks':List Nat} (hk:an (λ k k'=>R' k'=R k) ks ks'):∀{aJ lI:List Nat} {ls:List LO} {x:cv ls},an (λ k k'=>R' k'=R k) aJ lI->∀{i af:Nat} {o':Ob},(aX ks' lI ls x)[i]?=some (af,o')->
 ∃κ o,(aX ks aJ ls x)[i]?=some (κ,o)/\R' af=R κ/\(∀w Pr,az w R Pr κ o->az w R' Pr af o')/\(real R' af o'↔real R κ o)/\∀w b,bM w R' af o' b↔bM w R κ o b
 |oq::aJ,κ0'::lI,o0::ls,x,aa,i,af,o',h=>by
  cases i with
  |zero=>
   simp only [aX,List.getElem?_cons_zero,Option.some.injEq,Prod.mk.injEq] at h
   obtain ⟨rfl,rfl⟩:=h
   exact ⟨oq,_,rfl,aa.1,λ _ _ g=>az.relabel aa.1 hk g,tN aa.1⟩
  |succ i=>
   simp only [aX,List.getElem?_cons_succ] at h ⊢
   exact c7 hk aa.2 h
 |_,_,[],_,_,_,_,_,h=>by rename_i aJ _;cases aJ<;>simp [aX] at h
 |_,[],_::_,_,_,_,_,_,h=>by simp [aX] at h
 | [],_::_,_::_,_,aa,_,_,_,_=>aa.elim
theorem pY {R R':Nat->RL} {κ af b:Nat} {o o':Ob} (h1:R' af=R κ) (h2:real R' af o'↔real R κ o) (h3:bM w R' af o' b↔bM w R κ o b):bt w R' af o' b↔bt w R κ o b:=by
 unfold bt;rw [h1,h2,h3]
theorem Sep.relabel {R R':Nat->RL} {ks ks' aJ lI:List Nat} {ls:List LO} {x:cv ls} (hk:an (λ k k'=>R' k'=R k) ks ks') (aa:an (λ k k'=>R' k'=R k) aJ lI) (h:Sep w R Pr (aX ks aJ ls x)):Sep w R' Pr (aX ks' lI ls x) where
 ob i af o' hi:=by
  obtain ⟨κ,o,g1,g2,g3,_⟩:=c7 hk aa hi
  exact g3 w Pr (h.ob i κ o g1)
 un i af o' b hi aM:=by
  obtain ⟨κ,o,g1,g2,_,g4,g5⟩:=c7 hk aa hi
  exact h.un i κ o b g1 ((pY g2 g4 (g5 w b)).1 aM)
 ds i j af o' κ2' CU b hi hj hne aM vG:=by
  obtain ⟨κ,o,g1,g2,_,g4,g5⟩:=c7 hk aa hi
  obtain ⟨aH,o2,k1,k2,_,k4,k5⟩:=c7 hk aa hj
  exact h.ds i j κ o aH o2 b g1 k1 hne ((pY g2 g4 (g5 w b)).1 aM) ((pY k2 k4 (k5 w b)).1 vG)
 own i af o' hi aq hin:=by
  obtain ⟨κ,o,g1,g2,_,g4,g5⟩:=c7 hk aa hi
  exact h.own i κ o g1 (g4.1 aq) (by rw [<-g2];exact (g5 w _).1 hin)
theorem Bl.relabel {R R':Nat->RL} {ks ks' aJ lI:List Nat} {ls:List LO} {x:cv ls} {b:Nat} (hk:an (λ k k'=>R' k'=R k) ks ks') (aa:an (λ k k'=>R' k'=R k) aJ lI) (h:Bl w R' (aX ks' lI ls x) b):Bl w R (aX ks aJ ls x) b:=by
 obtain ⟨i,af,o',hi,aM⟩:=h
 obtain ⟨κ,o,g1,g2,_,g4,g5⟩:=c7 hk aa hi
 exact ⟨i,κ,o,g1,(pY g2 g4 (g5 w b)).1 aM⟩
end
end Go.Rx
