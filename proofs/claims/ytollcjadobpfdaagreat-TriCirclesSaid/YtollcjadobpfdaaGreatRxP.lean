/- Reflection, part P: one operation: what it asks, what it touches, what it does. -/
import Derived.Test.YtollcjadobpfdaaGreatRxO
set_option linter.unusedVariables false
set_option linter.unusedSimpArgs false
set_option linter.unusedSectionVars false
namespace Go.Rx
structure bg where
 acc:List Nat
 upd:List Nat
 mj:Bool
 kl:Option Nat
 rs:List Nat
 vr:List Nat
 os:List Nat
 ur:List Nat
abbrev ft (acc upd:List Nat) (mj:Bool):bg:=⟨acc,upd,mj,none,[],[],[],[]⟩
def fL {α:Type}:List DP->Option α->Option α
 | [],r=>r
 |x::l,r=>@ite _ x.p x.d (fL l r) none
theorem eL {α:Type}:∀{l:List DP} {r:Option α} {y:α},fL l r=some y->cz l/\r=some y
 | [],_,_,h=>⟨(λ _ hx=>(by cases hx)),h⟩
 |x::l,r,y,h=>by
  simp only [fL] at h
  by_cases hp:x.p
  ·rw [if_pos hp] at h
   obtain ⟨h1,h2⟩:=eL h
   exact ⟨λ z hz=>by rcases List.mem_cons.1 hz with rfl|hz;exact hp;exact h1 z hz,h2⟩
  ·rw [if_neg hp] at h;cases h
def yq {α:Type} (lit:Bool) (v:AV) (K:AV->Option α):Option α:=
 match lit,v with
 |true,.cp (.one (.prop p d))=>@ite _ p d (K (aQ (.lit true))) (K (aQ (.lit false)))
 |_,v=>K v
def j3 (v v':AV):Prop:=v'=v\/∃(p:Prop) (d:Decidable p) (b:Bool),v=aQ (.prop p d)/\v'=aQ (.lit b)/\b=@decide p d
theorem xy {α:Type} {lit:Bool} {v:AV} {K:AV->Option α} {y:α} (h:yq lit v K=some y):∃v',j3 v v'/\K v'=some y:=by
 unfold yq at h
 split at h
 ·rename_i p d
  by_cases hp:p
  ·rw [if_pos hp] at h;exact ⟨_,.inr ⟨p,d,true,rfl,rfl,by simp [hp]⟩,h⟩
  ·rw [if_neg hp] at h;exact ⟨_,.inr ⟨p,d,false,rfl,rfl,by simp [hp]⟩,h⟩
 ·exact ⟨v,.inl rfl,h⟩
theorem j3.rep {w:World} {R:Nat->RL} {Pr:Nat->Prop} {v v':AV} {u:Value} (h:j3 v v') (hr:aA w R Pr v u):aA w R Pr v' u:=by
 rcases h with rfl|⟨p,d,b,rfl,rfl,rfl⟩
 ·exact hr
 ·exact hr
theorem j3.refs {v v':AV} (h:j3 v v') {κ:Nat} (hk:κ∈v'.refs):κ∈v.refs:=by
 rcases h with rfl|⟨p,d,b,rfl,rfl,rfl⟩
 ·exact hk
 ·cases hk
section
variable (T:bh) (Y:dZ) (E:Env)
def ze (σ:St):Op->List Nat
 | .store _ _ x=>(σ.ρ x).refs
 | .buildSlice _ _ parts=>parts.toList.flatMap λ p=>(σ.ρ p.2).refs
 |_=>[]
def nC (σ:St):Op->Option (DP×St)
 | .store _ _ (.tmp s)=>match σ.get s with
   | .cp (.one (.val false e l))=>some (⟨List.isEmpty (bX false l)=false,inferInstance⟩,σ.put (some s) (.cp (.one (.val true e (Bx true (bX false l))))))
   |_=>none
 |_=>none
def kP:AV->Option (FuncId×List AV)
 | .cp (.one (.fn f aJ))=>some (f,aJ.map λ κ=>aQ (.ptr κ 0))
 | .cp (.one (.dat (.cL f e) x))=>some (f,(e.cells x).map aQ)
 |_=>none
def fK (σ:St):Op->Option (FuncId×jH×List AV)
 | .call c=>match c.callee with
   | .value x=>match kP (σ.ρ x) with
     |some (f,caps)=>match E.x6 f with
      |some aN=>some (f,aN,c.args.toList.map σ.ρ++caps)
      |none=>none
     |_=>none
   |_=>none
 |_=>none
def vw:List LO->List AV->Option (Nat×List AV)
 | .box _::_,.cp (.one (.ptr κ 0))::r=>some (κ,r)
 | .row _::_,.cp (.one (.own κ))::r=>some (κ,r)
 | .rows _::_,.cp (.one (.own κ))::r=>some (κ,r)
 | .map _ _::_,.cp (.one (.mp κ))::r=>some (κ,r)
 |_,_=>none
def eH (σ:St):Op->Option (FuncId×kI×Nat×List AV)
 | .call c=>match c.callee with
   | .value x=>match kP (σ.ρ x) with
     |some (f,caps)=>match E.eO f with
      |some aN=>match vw aN.ls ((c.args.toList.map σ.ρ++caps).drop aN.pos) with
       |some (κ,r)=>some (f,aN,κ,(c.args.toList.map σ.ρ++caps).take aN.pos++r)
       |none=>none
      |none=>none
     |_=>none
   |_=>none
 |_=>none
def bn:Option (Nat×Ob)->List Nat
 |some (κ,_)=>[κ]
 |none=>[]
def St.dU (σ:St) (e:bK):St:=
 let σ1:=match e.kill with
  |some κ=>σ.kill κ
  |none=>σ
 match e.upd with
  |some (κ,o)=>σ1.aK κ (some o)
  |none=>σ1
def jZ (σ:St) (κ:Nat):List Nat:=(List.range σ.tmps.length).filter λ t=>(σ.get t).refs.contains κ
def St.bF (σ:St):Option Nat->St
 |some κ=>σ.kill κ
 |none=>σ
def sB (σ:St) (kl:Option Nat) (S U:List Nat):Prop:=∀κ,kl=some κ->(∀t,t∉S->κ∉(σ.get t).refs)/\∀q,q∉U->∀o,σ.ob q=some o->κ∉o.refs
def hM (σ:St) (κ:Nat):List Nat:=(List.range σ.objs.length).filter λ q=>match σ.ob q with
 |some o=>o.refs.contains κ
 |none=>false
theorem lK {σ:St} {κ q:Nat}:q∈hM σ κ↔∃o,σ.ob q=some o/\κ∈o.refs:=by
 unfold hM
 rw [List.mem_filter]
 constructor
 ·rintro ⟨_,h⟩
  cases ho:σ.ob q with
  |none=>rw [ho] at h;cases h
  |some o=>rw [ho] at h;exact ⟨o,rfl,by simpa using h⟩
 ·rintro ⟨o,ho,h⟩
  exact ⟨List.mem_range.2 (c6 (by rw [ho];simp)),by rw [ho];simpa using h⟩
def nr (σ:St) (e:bK):bg:=match e.kill with
 |none=>ft e.acc (bn e.upd) false
 |some κ=>⟨hM σ κ++e.acc,hM σ κ++bn e.upd,false,some κ,jZ σ κ,[],[],[]⟩
def gY (σ:St) (dst:Option Nat):Op->Option (List DP×St×AV)
 | .load t p=>match σ.ρ p,dst,T.get t with
   | .cp (.one (.dO κ sz j off)),some d,some i=>match i.d,σ.ob κ,σ.ob d,fE d σ.objs.length with
     | .slice _,some (.rows e ll none tt mm xs),none,true=>match sz.beq (mm+1) && off.beq mm with
       |true=>some ([],(σ.aK κ (some (.rows e ll (some j) tt mm xs))).aK d (some (.vec e (ll.getD j []))),aQ (.own d))
       |false=>none
     |_,_,_,_=>none
   |_,_,_=>none
 | .store t p x=>match σ.ρ p,σ.ρ x,T.get t with
   | .cp (.one (.dO κ sz j off)),.cp (.one (.own d)),some i=>match i.size.beq 1,σ.ob κ,σ.ob d with
     |true,some (.rows e ll (some j') tt mm xs),some (.vec e' l)=>match sz.beq (mm+1) && off.beq mm,Ty.dec e' e with
      |true,isTrue h=>some ([⟨j'=j,inferInstance⟩],(σ.gone d).aK κ (some (.rows e (ll.set j (h▸l)) none tt mm xs)),bA)
      |_,_=>none
     |_,_,_=>none
   |_,_,_=>none
 | .range t x=>match dst,σ.ρ x with
   |some d,.cp (.one (.mp κ))=>match σ.ob κ,σ.ob d,fE d σ.objs.length with
    |some (.map K V l _),none,true=>match iI T t K V with
     |some _=>some ([],(σ.aK d (some (.tok κ))).aK κ (some (.map K V l (some (d,l,none)))),aQ (.ptr d 0))
     |none=>none
    |_,_,_=>none
   |_,_=>none
 |_=>none
def ji (σ:St) (dst:Option Nat):Op->bg
 | .load t p=>match σ.ρ p,dst with
   | .cp (.one (.dO κ sz j off)),some d=>ft [κ,d] [κ,d] false
   |_,_=>ft [] [] true
 |_=>ft [] [] true
def yw {α:Type} (o:Oper) (σ:St) (K:St->AV->bg->Option α):Option α:=
 match jt T Y σ.ρ σ.ob σ.objs.length o.dst o.op with
 |some e=>fL e.conds (K (σ.dU e) e.v (nr σ e))
 |none=>match sS T σ.ρ σ.ob o.op with
  |some out=>fL out.conds (K σ out.v (ft out.acc [] false))
  |none=>match fK E σ o.op with
   |some (f,aN,args)=>match iZ σ aN args with
    |some (acc,σ1,xs)=>(aN.fn xs).bind λ r=>match gI σ1 o.dst aN.rs r with
     |some (σ2,v,ns)=>K σ2 v (ft (acc++ns.map (·.1)) (ns.map (·.1)) (!(acc.isEmpty || aN.rs.all RT.bU)))
     |none=>none
    |none=>none
   |none=>match eH E σ o.op with
    |some (f,aN,κ,args)=>match gJ σ aN κ args with
     |some (acc,ks,x,xs)=>(aN.fn x xs).bind λ q=>match gd (bB acc σ) o.dst aN.pos κ ks aN.aT aN.ls aN.rs q.1 q.2 with
      |some (σ2,v,ns)=>K σ2 v (ft (κ::(ks++(acc++ns.map (·.1)))) (κ::(ks++ns.map (·.1))) (!(acc.isEmpty && aN.aT)))
      |none=>none
     |none=>none
    |none=>match gY T σ o.dst o.op with
     |some (cs,σ2,v)=>fL cs (K σ2 v (ji σ o.dst o.op))
     |none=>match ze σ o.op with
      | []=>match nC σ o.op with
        |some (c,σ2)=>match jt T Y σ2.ρ σ2.ob σ2.objs.length o.dst o.op with
         |some e=>fL (c::e.conds) (K (σ2.dU e) e.v (ft [] [] true))
         |none=>none
        |none=>none
      |κ::aJ=>match jt T Y (bB (κ::aJ) σ).ρ (bB (κ::aJ) σ).ob (bB (κ::aJ) σ).objs.length o.dst o.op with
       |some e=>fL e.conds (K ((bB (κ::aJ) σ).dU e) e.v (ft [] [] true))
       |none=>match nC (bB (κ::aJ) σ) o.op with
        |some (c,σ2)=>match jt T Y σ2.ρ σ2.ob σ2.objs.length o.dst o.op with
         |some e=>fL (c::e.conds) (K (σ2.dU e) e.v (ft [] [] true))
         |none=>none
        |none=>none
inductive Pre (o:Oper) (σ:St):St->AV->bg->Prop where
 |val (out:Out) (h:sS T σ.ρ σ.ob o.op=some out) (hh:cz out.conds):Pre o σ σ out.v (ft out.acc [] false)
 |ef (e:bK) (h:jt T Y σ.ρ σ.ob σ.objs.length o.dst o.op=some e) (hh:cz e.conds) (g:Bool) (S B:List Nat) (hg:g=false->sB σ e.kill S (B++bn e.upd)/\∀q∈B,σ.ob q≠none):Pre o σ (σ.dU e) e.v ⟨B++e.acc,B++bn e.upd,g,e.kill,S,[],[],[]⟩
 |call (f:FuncId) (aN:jH) (args:List AV) (acc:List Nat) (σ1 σ2:St) (xs:DL aN.sig) (r:eC aN.rs) (v:AV) (ns:List (Nat×Ob)) (h:fK E σ o.op=some (f,aN,args)) (hpre:iZ σ aN args=some (acc,σ1,xs)) (hfn:aN.fn xs=some r)
   (hpost:gI σ1 o.dst aN.rs r=some (σ2,v,ns)):Pre o σ σ2 v (ft (acc++ns.map (·.1)) (ns.map (·.1)) (!(acc.isEmpty || aN.rs.all RT.bU)))
 |rX (f:FuncId) (aN:kI) (κ:Nat) (args:List AV) (acc ks:List Nat) (σ2:St) (x:cv aN.ls) (xs:DL aN.sig) (y:cv aN.ls) (r:eC aN.rs) (v:AV) (ns:List (Nat×Ob)) (h:eH E σ o.op=some (f,aN,κ,args)) (hpre:gJ σ aN κ args=some (acc,ks,x,xs)) (hfn:aN.fn x xs=some (y,r))
   (hpost:gd (bB acc σ) o.dst aN.pos κ ks aN.aT aN.ls aN.rs y r=some (σ2,v,ns)):Pre o σ σ2 v (ft (κ::(ks++(acc++ns.map (·.1)))) (κ::(ks++ns.map (·.1))) (!(acc.isEmpty && aN.aT)))
 |bJ (aJ:List Nat) (e:bK) (h:jt T Y (bB aJ σ).ρ (bB aJ σ).ob (bB aJ σ).objs.length o.dst o.op=some e) (hh:cz e.conds):Pre o σ ((bB aJ σ).dU e) e.v (ft [] [] true)
 |lift (aJ:List Nat) (c:DP) (σ2:St) (hl:nC (bB aJ σ) o.op=some (c,σ2)) (hc:c.p) (e:bK) (h:jt T Y σ2.ρ σ2.ob σ2.objs.length o.dst o.op=some e) (hh:cz e.conds):Pre o σ (σ2.dU e) e.v (ft [] [] true)
 |row (cs:List DP) (σ2:St) (v:AV) (h:gY T σ o.dst o.op=some (cs,σ2,v)) (hh:cz cs):Pre o σ σ2 v (ji σ o.dst o.op)
theorem vV {σ:St} {κ:Nat}:∀t,t∉jZ σ κ->κ∉(σ.get t).refs:=λ t ht hk=>ht (by
 unfold jZ
 refine List.mem_filter.2 ⟨?_,by simpa using hk⟩
 rcases Nat.lt_or_ge t σ.tmps.length with g|g
 ·exact List.mem_range.2 g
 ·unfold St.get at hk
  rw [List.getD_eq_getElem?_getD,List.getElem?_eq_none g] at hk
  simp [AV.refs,Cp.refs,C.refs] at hk)
theorem zK {o:Oper} {σ:St} {e:bK} (h:jt T Y σ.ρ σ.ob σ.objs.length o.dst o.op=some e) (hh:cz e.conds):Pre T Y E o σ (σ.dU e) e.v (nr σ e):=by
 cases hk:e.kill with
 |none=>
  have:=Pre.ef (T:=T) (Y:=Y) (E:=E) e h hh false [] [] (λ _=>⟨λ κ aa=>(by rw [hk] at aa;cases aa),λ _ hq=>by cases hq⟩)
  unfold nr
  rw [hk] at this ⊢
  exact this
 |some κ=>
  have:=Pre.ef (T:=T) (Y:=Y) (E:=E) e h hh false (jZ σ κ) (hM σ κ) (λ hg=>⟨λ af aa=>by
   rw [hk] at aa;cases aa
   exact ⟨vV,λ q hq o ho hr=>hq (List.mem_append_left _ (lK.2 ⟨o,ho,hr⟩))⟩,λ q hq=>by
   obtain ⟨o,ho,_⟩:=lK.1 hq
   rw [ho];simp⟩)
  unfold nr
  rw [hk] at this ⊢
  exact this
theorem xD {α:Type} {o:Oper} {σ:St} {K:St->AV->bg->Option α} {y:α} (h:yw T Y E o σ K=some y):∃σ1 v F,Pre T Y E o σ σ1 v F/\K σ1 v F=some y:=by
 unfold yw at h
 split at h
 ·rename_i e he
  obtain ⟨h1,h2⟩:=eL h
  exact ⟨_,_,_,zK T Y E he h1,h2⟩
 ·split at h
  ·rename_i out ho
   obtain ⟨h1,h2⟩:=eL h
   exact ⟨_,_,_,.val out ho h1,h2⟩
  ·split at h
   ·rename_i f aN args hc
    split at h
    ·rename_i acc σ1 xs hp
     obtain ⟨r,hr,h⟩:=Option.bind_eq_some_iff.1 h
     split at h
     ·rename_i σ2 v ns hq
      exact ⟨_,_,_,.call f aN args acc σ1 σ2 xs r v ns hc hp hr hq,h⟩
     ·cases h
    ·cases h
   ·have Bt:∀aJ,(match nC (bB aJ σ) o.op with
     |some (c,σ2)=>match jt T Y σ2.ρ σ2.ob σ2.objs.length o.dst o.op with
      |some e=>fL (c::e.conds) (K (σ2.dU e) e.v (ft [] [] true))
      |none=>none
     |none=>none)=some y->∃σ1 v F,Pre T Y E o σ σ1 v F/\K σ1 v F=some y:=λ aJ h=>by
     split at h
     ·rename_i c σ2 hl
      split at h
      ·rename_i e he
       obtain ⟨h1,h2⟩:=eL h
       exact ⟨_,_,_,.lift aJ c σ2 hl (h1 c (by simp)) e he (λ z hz=>h1 z (by simp [hz])),h2⟩
      ·cases h
     ·cases h
    split at h
    ·rename_i f aN κ args hc
     split at h
     ·rename_i acc ks x xs hp
      obtain ⟨⟨y',r⟩,hr,h⟩:=Option.bind_eq_some_iff.1 h
      split at h
      ·rename_i σ2 v ns hq
       exact ⟨_,_,_,.rX f aN κ args acc ks σ2 x xs y' r v ns hc hp hr hq,h⟩
      ·cases h
     ·cases h
    ·split at h
     ·rename_i cs σ2 v hr
      obtain ⟨h1,h2⟩:=eL h
      exact ⟨_,_,_,.row cs σ2 v hr h1,h2⟩
     ·split at h
      ·exact Bt [] h
      ·rename_i κ aJ _
       split at h
       ·rename_i e he
        obtain ⟨h1,h2⟩:=eL h
        exact ⟨_,_,_,.bJ (κ::aJ) e he h1,h2⟩
       ·exact Bt (κ::aJ) h
end
def um (P:Program) (f:FuncId):Prop:=∀(args:Array Value) (w:World),(callFunc f args).run P w=.ok (.enter f args) w
def dH (P:Program):Env->Prop
 | []=>True
 | (f,.c _)::r=>um P f/\dH P r
 | (f,.b _)::r=>um P f/\dH P r
 | (_,.x _)::r=>True/\dH P r
theorem dH.get {P:Program}:∀{E:Env} {f:FuncId} {c:jH},dH P E->E.get f=some c->um P f
 | [],_,_,_,h=>by cases h
 | (g,.c d)::r,f,c,h,hg=>by
   simp only [Env.get] at hg
   split at hg
   ·rename_i e;subst e;exact h.1
   ·exact dH.get h.2 hg
 | (g,.b d)::r,f,c,h,hg=>dH.get (E:=r) h.2 hg
 | (g,.x d)::r,f,c,h,hg=>dH.get (E:=r) h.2 hg
theorem dH.eO {P:Program}:∀{E:Env} {f:FuncId} {c:kI},dH P E->E.eO f=some c->um P f
 | [],_,_,_,h=>by cases h
 | (g,.b d)::r,f,c,h,hg=>by
   simp only [Env.eO] at hg
   split at hg
   ·rename_i e;subst e;exact h.1
   ·exact dH.eO h.2 hg
 | (g,.c d)::r,f,c,h,hg=>dH.eO (E:=r) h.2 hg
 | (g,.x d)::r,f,c,h,hg=>dH.eO (E:=r) h.2 hg
section
variable {w0:World} {Fz av:Nat->Prop} {Lo:Nat->RL} {R:Nat->RL} {Pr:Nat->Prop} {σ:St} {a:Act} {w:World}
variable {P:Program} {T:bh} {Y:dZ} {E:Env}
theorem yp (h:Inv w0 Fz av Lo R Pr σ a w) {op:Op} {c:DP} {σ2:St} (hl:nC σ op=some (c,σ2)) (hc:c.p):Inv w0 Fz av Lo R Pr σ2 a w:=by
 unfold nC at hl
 split at hl
 ·rename_i t p s
  split at hl
  ·rename_i e l hg
   cases hl
   have hv:=h.tm s
   rw [hg] at hv
   have CJ:au w R Pr (.val false e l) (a.tmps.getD s undef):=hv
   obtain ⟨A,cap,k1,k2,_,k4⟩:=CJ
   have hne:bX false l≠[]:=λ e=>by simp [e] at hc
   have hA:A≠none:=by
    obtain ⟨blk,off,cells,el,fr,h1,_⟩:=k4 hne
    rw [h1];simp
   have hi:=h.put (some s) (.cp (.one (.val true e (Bx true (bX false l))))) (a.tmps.getD s undef) ⟨A,cap,k1,k2,hA,k4⟩ (λ κ aa=>by cases aa)
   have ha:a.put (some s) (a.tmps.getD s undef)=a:=by
    have ht:s <a.tmps.size:=by
     rcases Nat.lt_or_ge s a.tmps.size with g|g
     ·exact g
     ·have Bs:a.tmps.getD s undef=.slice A (bX false l).length cap:=by simpa using k1
      rw [Array.getD_eq_getD_getElem?,Array.getElem?_eq_none g] at Bs;simp [undef] at Bs
    cases a with
    |mk tm df=>
     simp only [Act.put]
     congr 1
     have ht':s <tm.size:=ht
     apply Array.ext
     ·simp
     ·intro i h1 h2
      rw [Array.getElem_setIfInBounds]
      split
      ·rename_i e;subst e;simp [Array.getD,ht']
      ·rfl
   rw [ha] at hi
   exact hi
  ·cases hl
 ·cases hl
theorem lZ (hT:bC P T) (aZ:∀b,b <w0.heap.size->Fz b\/av b) (h:Inv w0 Fz av Lo R Pr σ a w) {o:Oper} {e:bK} {v':AV} (he:jt T Y σ.ρ σ.ob σ.objs.length o.dst o.op=some e) (hh:cz e.conds) (hv:j3 e.v v') {next:Act->World->Prop} {Q:Exit->Act->World->Prop}
 (hn:∀u R' ak w',Inv w0 Fz av Lo R' ak ((σ.dU e).put o.dst v') (a.put o.dst u) w'->next (a.put o.dst u) w'):o.wp P a w next Q:=by
 obtain ⟨n,u,w',R',ak,k1,k2,k3⟩:=wO hT aZ h he hh
 have hsplit:Inv w0 Fz av Lo R' ak ((σ.dU e).put o.dst v') (a.put o.dst u) w':=by
  have e1:σ.ef o.dst e=(σ.dU e).put o.dst e.v:=rfl
  rw [e1] at k3
  rcases hv with rfl|⟨p,d,b,lQ,yW,CK⟩
  ·exact k3
  ·
   cases hd:o.dst with
   |none=>rw [hd] at k3;exact k3
   |some d1=>
    rw [hd] at k3
    have e2:(σ.dU e).put (some d1) v'=((σ.dU e).put (some d1) e.v).put (some d1) v':=by
     simp [St.put,List.set_set]
    have e3:a.put (some d1) u=(a.put (some d1) u).put (some d1) u:=by
     simp [Act.put]
    rw [e2,e3]
    by_cases hlt:@LT.lt Nat _ d1 (σ.dU e).tmps.length
    ·refine k3.put (some d1) v' u ?_ (λ κ aa=>by rw [yW] at aa;cases aa)
     have:=k3.tm d1
     rw [St.jd,if_pos ⟨rfl,hlt⟩,Act.sW] at this
     have hsz:=k3.sz
     have hsz':@LT.lt Nat _ d1 a.tmps.size:=by
      simp only [St.put,Act.put,List.length_set,Array.size_setIfInBounds] at hsz;omega
     rw [if_pos ⟨rfl,hsz'⟩] at this
     exact j3.rep (.inr ⟨p,d,b,lQ,yW,CK⟩) this
    ·have e4:((σ.dU e).put (some d1) e.v).put (some d1) v'=(σ.dU e).put (some d1) e.v:=by
      simp only [St.put,List.set_set]
      rw [List.set_eq_of_length_le (by omega),List.set_eq_of_length_le (by omega)]
     rw [e4, <-e3];exact k3
 unfold Oper.wp
 rw [k1]
 rcases k2 with rfl|⟨rfl,rfl⟩
 ·exact hn u R' ak w' hsplit
 ·exact hn undef R' ak w' hsplit
theorem lV {w:World} {R:Nat->RL} {Pr:Nat->Prop} {v:AV} {f:FuncId} {caps:List AV} {u:Value} (h:kP v=some (f,caps)) (hr:aA w R Pr v u):∃ps:List Value,u=.func (.func f) #[] ps.toArray/\an (aA w R Pr) caps ps:=by
 unfold kP at h
 split at h
 ·rename_i g aJ
  cases h
  exact ⟨_,hr,dG _ λ κ _=>rfl⟩
 ·rename_i g e x
  cases h
  obtain ⟨v',ps,h1,h2,h3⟩:=hr
  have h1:u=v':=by simpa using h1
  refine ⟨ps,h1.trans h2, ?_⟩
  exact (bu (R:=R) h3).cZ λ c _ b hb=>hb
 ·cases h
theorem rB {α:Type}:∀(es:List MapEntry) (l:List α),es.length=l.length->bl es l #[] =l
 | [],[],_=>rfl
 |e::es,x::l,h=>by
  have e0: (#[] :Array Nat).contains e.born=false:=by simp
  rw [bl,e0,rB es l (by simpa using h)]
 | [],_::_,h=>by simp at h
 |_::_,[],h=>by simp at h
theorem wY {w:World} {R:Nat->RL} {Pr:Nat->Prop} {ls:List LO} {l rest:List AV} {us:List Value} {κ:Nat} (h:vw ls l=some (κ,rest)) (hr:an (aA w R Pr) l us):∃u0 j0,us=u0::j0/\u0=dP R κ ls/\an (aA w R Pr) rest j0:=by
 unfold vw at h
 split at h
 ·cases h
  cases us with
  |nil=>exact hr.elim
  |cons u us=>exact ⟨u,us,rfl,hr.1,hr.2⟩
 ·cases h
  cases us with
  |nil=>exact hr.elim
  |cons u us=>exact ⟨u,us,rfl,hr.1,hr.2⟩
 ·cases h
  cases us with
  |nil=>exact hr.elim
  |cons u us=>exact ⟨u,us,rfl,hr.1,hr.2⟩
 ·cases h
  cases us with
  |nil=>exact hr.elim
  |cons u us=>exact ⟨u,us,rfl,hr.1,hr.2⟩
 ·cases h
theorem xG (hT:bC P T) (h:Inv w0 Fz av Lo R Pr σ a w) {o:Oper} {cs:List DP} {σ2:St} {v v':AV} (he:gY T σ o.dst o.op=some (cs,σ2,v)) (hh:cz cs) (hv:j3 v v') {next:Act->World->Prop} {Q:Exit->Act->World->Prop}
 (hn:∀u R' ak w',Inv w0 Fz av Lo R' ak (σ2.put o.dst v') (a.put o.dst u) w'->next (a.put o.dst u) w'):o.wp P a w next Q:=by
 obtain ⟨dst,op,ty,pos,after,guard⟩:=o
 simp only at he hn ⊢
 cases op with
 |load t p=>
  simp only [gY] at he
  split at he
  ·rename_i κ sz j off d i hp hi
   split at he
   ·rename_i yH e ll tt mm xs hd ho mq hc
    split at he
    case h_2=>cases he
    rename_i uB
    cases he
    simp only [Bool.and_eq_true] at uB
    have hsz:=Nat.eq_of_beq_eq_true uB.1
    have hoff:=(Nat.eq_of_beq_eq_true uB.2).symm
    subst hsz hoff
    have hpv:=h.cu p
    rw [hp] at hpv
    obtain ⟨hj,o1,n1,c1,q1,q2⟩:=hpv
    have hlen:=(h.ob κ _ ho).1
    rw [hlen] at hj
    obtain ⟨loc,o2,n2,c2,cells,el,r1,r2,r3,hi2⟩:=h.zp ho hj mq hc
    rw [r1] at q1
    cases q1
    have lQ:v'=aQ (.own d):=by
     rcases hv with e|⟨_,_,_,e,_⟩
     ·exact e
     ·cases e
    obtain ⟨u,k1,k2,_⟩:=jf (P:=P) (R:=λ af=>if af=d then loc else R af) (Pr:=Pr) (o:=o1+cw mm j) (off:=0) (us:=[loc.aF]) (cs:=[.own d]) (x:=.one (.own d)) hT hi r2 (λ c u hu=>by
     cases c with
     |zero=>simp only [List.getElem?_cons_zero] at hu;cases hu;exact r3
     |succ c=>simp at hu) ⟨by show _=_;simp,trivial⟩ (by unfold gE;rw [hd];rfl)
    have hu:a.eval p=.pointer (some ⟨(R κ).blk,o1+cw mm j+0,none⟩):=by rw [q2];simp [cw,Nat.add_assoc]
    rw [<-hu] at k1
    unfold Oper.wp
    have hrun:(execOp a.eval ⟨some d,.load t p,ty,pos,after,guard⟩).run P w=.ok (.value u) w:=by
     simp [execOp,k1]
    rw [hrun]
    refine hn u _ Pr w (hi2.put (some d) v' u (by rw [lQ];exact k2) (λ ah bq=> ?_))
    rw [lQ] at bq
    have:ah=d:=by simpa [AV.refs,Cp.refs,C.refs] using bq
    subst this
    rw [St.aL,if_pos ⟨rfl,by have:=ct hc;simpa [St.aK] using this⟩]
    simp
   ·cases he
  ·cases he
 |store t p x=>
  simp only [gY] at he
  split at he
  ·rename_i κ sz j off d i hp hx hi
   split at he
   ·rename_i e ll j' tt mm xs e' l hc ho mq
    revert he
    generalize hb:(sz.beq (mm+1) && off.beq mm)=b
    generalize Ty.dec e' e=dc
    intro he
    cases b with
    |false=>cases dc<;>cases he
    |true=>
    cases dc with
    |isFalse _=>cases he
    |isTrue hee=>
     subst hee
     cases he
     have hjj:j'=j:=hh ⟨j'=j,inferInstance⟩ (by simp)
     subst hjj
     simp only [Bool.and_eq_true] at hb
     have his:=Nat.eq_of_beq_eq_true hc
     have hsz:=Nat.eq_of_beq_eq_true hb.1
     have hoff:=(Nat.eq_of_beq_eq_true hb.2).symm
     subst hsz hoff
     have hpv:=h.cu p
     rw [hp] at hpv
     have jy:=h.cu x
     rw [hx] at jy
     have jy:a.eval x=(R d).aF:=jy
     obtain ⟨hj,o1,n1,c1,q1,q2⟩:=hpv
     obtain ⟨hlen,⟨_,hl,_⟩|⟨o2,c2,cells,el,r1,r2,r3,r4,_⟩⟩:=h.ob κ _ ho
     ·rw [hlen,hl] at hj;simp at hj
     rw [hlen] at hj
     rw [r1] at q1
     cases q1
     have hle:o1+cw mm j'+1<=cells.size:=by
      have:=Nat.mul_le_mul_right (mm+1) (Nat.succ_le_of_lt (Nat.lt_of_lt_of_le hj r2))
      rw [Nat.succ_mul] at this
      unfold cw;omega
     obtain ⟨g1,g2⟩:=gZ (P:=P) (R:=R) (Pr:=Pr) hT hi r3 (o:=o1+cw mm j') (v:=(R d).aF) (xs:=[.own d]) (x:=.one (.own d)) rfl (by show _=_;rfl) (by simp [his]) (by omega) (by simp)
     have hcells:(R d).aF.cells= #[(R d).aF]:=rfl
     rw [hcells] at g1
     generalize eW:(cells.toList.take (o1+cw mm j')++ (#[(R d).aF]:Array Value).toList++cells.toList.drop (o1+cw mm j'+ (#[(R d).aF]:Array Value).toList.length)).toArray=cur at g1
     have hi2:=h.zg ho hj mq r1 r3 (cur:=cur) (λ q=>by
      rw [<-eW]
      simp only [List.getElem?_toArray]
      by_cases q1:q <o1+cw mm j'
      ·rw [if_neg (by omega),List.append_assoc,List.getElem?_append_left (by simp;omega),List.getElem?_take,if_pos q1];simp
      ·have dz:(cells.toList.take (o1+cw mm j')).length=o1+cw mm j':=by simp;omega
       by_cases q2:q=o1+cw mm j'
       ·subst q2
        rw [if_pos rfl,List.append_assoc,List.getElem?_append_right (by omega),dz]
        simp
       ·rw [if_neg q2,List.getElem?_append_right (by simp only [List.length_append,dz];simp;omega),List.getElem?_drop]
        simp only [List.length_append,dz]
        simp only [List.length_cons,List.length_nil]
        rw [show o1+cw mm j'+(0+1)+(q - (o1+cw mm j'+(0+1)))=q by omega]
        simp) (by rw [<-eW];simp;omega)
     have lQ:v'=bA:=by
      rcases hv with e|⟨_,_,_,e,_⟩
      ·exact e
      ·cases e
     have hrun:(execOp a.eval ⟨dst,.store t p x,ty,pos,after,guard⟩).run P w=.ok .skip (w.setRow (R κ).blk cur):=by
      have e1:a.eval p=.pointer (some ⟨(R κ).blk,o1+cw mm j',none⟩):=by rw [q2];simp [cw,Nat.add_assoc]
      simp [execOp,e1,jy,g1]
     unfold Oper.wp
     rw [hrun]
     exact hn undef R Pr _ (hi2.put dst v' undef (by rw [lQ];trivial) (λ ah bq=>by rw [lQ] at bq;cases bq))
   ·cases he
  ·cases he
 |range t x=>
  simp only [gY] at he
  split at he
  ·rename_i d κ hx
   split at he
   ·rename_i K V l it ho mq hok
    split at he
    ·rename_i y hy
     cases he
     obtain ⟨kt,vt,hun,_,_⟩:=iy hT hy
     have jy:=h.cu x
     rw [hx] at jy
     have jy:a.eval x=.map (some (R κ).blk):=jy
     obtain ⟨es,clock,g1,⟨g2,lP⟩,g3,g4,_⟩:=h.ob κ _ ho
     have lQ:v'=aQ (.ptr d 0):=by
      rcases hv with e|⟨_,_,_,e,_⟩
      ·exact e
      ·cases e
     have mo:d≠κ:=λ e=>by rw [e,ho] at mq;cases mq
     have h1:=h.world (w':=w.alloc (.mapIter (some (R κ).blk) clock #[] clock)) (λ b hb=>bH w _ b hb) ⟨by simp,rfl,rfl,rfl,(by first|exact Nat.le_refl _|exact Nat.le_succ _|exact Nat.le_add_right _ _)⟩ (λ _ h=>h) (λ _ h _=>h) (λ b hb=>by have:=h.pr b hb;simp;omega)
     have h2:=h1.add d (.tok κ) ⟨w.heap.size,none,0,0⟩ mq hok rfl trivial (λ κ aa=>by cases aa) (λ z=>z.elim)
     have hR:(λ af=>if af=d then (⟨w.heap.size,none,0,0⟩:RL) else R af) κ=R κ:=if_neg (λ z=>mo z.symm)
     have yT:(σ.aK d (some (.tok κ))).ob κ=some (.map K V l it):=by rw [St.aL,if_neg (λ z=>mo z.1)];exact ho
     have hd2:(σ.aK d (some (.tok κ))).ob d=some (.tok κ):=by rw [St.aL,if_pos ⟨rfl,ct hok⟩]
     have hlt:(R κ).blk <w.heap.size:=az.lt (o:=.map K V l it) trivial (h.ob κ _ ho)
     have h3:=h2.upd κ _ (.map K V l (some (d,l,none))) yT (w':=w.alloc (.mapIter (some (R κ).blk) clock #[] clock)) (R':=λ af=>if af=d then ⟨w.heap.size,none,0,0⟩ else R af) (λ _ _=>rfl) (.inl rfl) (λ _ _ _=>rfl) (Grow.refl _) (λ _=>.inr ⟨trivial,rfl⟩)
      ⟨es,clock,by simp only [hR];rw [bH w _ _ hlt];exact g1,⟨g2,lP⟩,g3,λ i kv en q1 q2=>(g4 i kv en q1 q2).move (λ b hb=>bH w _ b (h.pr b hb)) (λ _ h=>h),λ d' L cur e=>by
        cases e
        refine ⟨clock, #[], ?_,Nat.le_refl _,lP,(rB es.toList l g3).symm,λ kv z=>by cases z⟩
        simp only [if_true,hR]
        exact cO w _⟩ (λ af aa=>by
         simp only [Ob.refs,List.mem_singleton] at aa
         subst aa
         rw [hd2];simp) (λ b hb=>by
         obtain ⟨d',L,e,rfl⟩:=hb
         cases e
         simp only [if_true]
         refine ⟨λ z=>by have:=h.pr _ z;omega,λ z=>by have:=(h.fz _ z).1;have:=h.sm.sz;omega,by simp only [hR];omega,λ ah o1 hne iq=> ?_⟩
         rw [St.aL] at iq
         split at iq
         ·rename_i hc
          cases iq
          exact ⟨λ z=>z.elim,λ z=>z⟩
         ·rename_i hc
          have hk1:ah≠d:=λ e=>by
           rw [e,mq] at iq;cases iq
          have yc:=h.ob ah o1 iq
          have eo:(λ af=>if af=d then (⟨w.heap.size,none,0,0⟩:RL) else R af) ah=R ah:=if_neg hk1
          refine ⟨λ aq e=> ?_,λ hi=> ?_⟩
          ·simp only [if_neg hk1] at e
           have dK:real R ah o1:=(cm eo o1).1 aq
           have:=az.lt dK yc
           omega
          ·have hi':=hi.back (w:=w) (R:=R) eo (λ aq=>bH w _ _ (az.lt aq yc)) (λ aH h2=>if_neg (λ (e:aH=d)=>h.wo ah o1 aH iq h2 (by rw [e];exact mq)))
           have:=yc.eF hi'
           omega)
     unfold Oper.wp
     have hrun:(execOp a.eval ⟨some d,.range t x,ty,pos,after,guard⟩).run P w=.ok (.value (.pointer (some ⟨w.heap.size,0,none⟩))) (w.alloc (.mapIter (some (R κ).blk) clock #[] clock)):=by
      have e:execOp a.eval ⟨some d,.range t x,ty,pos,after,guard⟩=(do pure (.value (<-Instr.range t (a.eval x)))):=rfl
      rw [e,jy,Sem.run_bind,run_range_map w t kt vt _ es clock hun g1];rfl
     rw [hrun]
     refine hn _ _ Pr _ (h3.put (some d) v' _ ?_ (λ ah bq=> ?_))
     ·rw [lQ];show _=_;simp
     ·rw [lQ] at bq
      have:ah=d:=by simpa [AV.refs,Cp.refs,C.refs] using bq
      subst this
      rw [St.aL]
      split
      ·simp
      ·rw [hd2];simp
    ·cases he
   ·cases he
  ·cases he
 |_=>simp only [gY] at he;cases he
theorem xF (hT:bC P T) (hE:bR P E) (dW:dH P E) (aZ:∀b,b <w0.heap.size->Fz b\/av b) (h:Inv w0 Fz av Lo R Pr σ a w) {o:Oper} {σ1:St} {v v':AV} {F:bg} (hp:Pre T Y E o σ σ1 v F) (hv:j3 v v') {next:Act->World->Prop} {Q:Exit->Act->World->Prop}
 (hn:∀u R' ak w',Inv w0 Fz av Lo R' ak (σ1.put o.dst v') (a.put o.dst u) w'->next (a.put o.dst u) w'):o.wp P a w next Q:=by
 cases hp with
 |val out ho hh=>
  obtain ⟨u,k1,k2,k3⟩:=wN hT h.ob h.cu ho hh
  unfold Oper.wp
  rw [k1]
  refine hn u R Pr w (h.put o.dst v' u (hv.rep k2) λ κ aa=> ?_)
  rcases k3 κ (hv.refs aa) with ⟨x,_,hx⟩|⟨af,_,ob,h1,h2⟩
  ·exact h.y6 x hx
  ·exact h.wo af ob κ h1 h2
 |ef e he hh g S B hg=>exact lZ hT aZ h he hh hv hn
 |bJ aJ e he hh=>exact lZ hT aZ (gK aJ h aZ) he hh hv hn
 |row cs σ2 v he hh=>exact xG hT h he hh hv hn
 |lift aJ c σ2 hl hc e he hh=>exact lZ hT aZ (yp (gK aJ h aZ) hl hc) he hh hv hn
 |rX f aN κ args acc ks σ2 x0 xs y r v ns hc hpre hfn hpost=>
  obtain ⟨dst,op,ty,pos,after,guard⟩:=o
  cases op with
  |call c=>
   obtain ⟨callee,cC,argTypes⟩:=c
   cases callee with
   |value x=>
    simp only [eH] at hc
    split at hc
    ·rename_i f' caps hf
     split at hc
     ·rename_i BE hg
      split at hc
      ·rename_i af rest hh
       cases hc
       obtain ⟨ps,hx,hps⟩:=lV hf (h.cu x)
       have hargs:an (aA w R Pr) (cC.toList.map σ.ρ++caps) (cC.map a.eval++ps.toArray).toList:=by
        rw [Array.toList_append,Array.toList_map]
        exact (dG _ λ y _=>h.cu y).append hps
       generalize fD:(cC.map a.eval++ps.toArray).toList=us at hargs
       obtain ⟨u0,j0,hd,Aq,sq⟩:=wY hh (hargs.drop aN.pos)
       have hlen:aN.pos <us.length:=by
        rcases Nat.lt_or_ge aN.pos us.length with g|g
        ·exact g
        ·rw [List.drop_eq_nil_of_le g] at hd;cases hd
       have hvs:an (aA w R Pr) ((cC.toList.map σ.ρ++caps).take aN.pos++rest) (us.take aN.pos++j0):=(hargs.take aN.pos).append sq
       have jQ:=tV (hE.eO hg) h aZ hvs hpre hfn hpost
       have x7:=dW.eO hg
       unfold Oper.wp
       have hrun:(execOp a.eval ⟨dst,.call ⟨.value x,cC,argTypes⟩,ty,pos,after,guard⟩).run P w=.ok (.enter f (cC.map a.eval++ps.toArray)) w:=by
        simp only [execOp,resolve,hx,Deferred.ofValue,Sem.run_bind,Sem.run_pure,Result.andThen_ok,invoke]
        have:=x7 (cC.map a.eval++ps.toArray) w
        simpa using this
       rw [hrun]
       have gh:(us.take aN.pos).length=aN.pos:=by simp;omega
       have vc:((us.take aN.pos++j0).take aN.pos++dP R κ aN.ls::(us.take aN.pos++j0).drop aN.pos).toArray=cC.map a.eval++ps.toArray:=by
        rw [List.take_left' gh,List.drop_left' gh, <-Aq, <-hd,List.take_append_drop, <-fD,Array.toArray_toList]
       rw [vc] at jQ
       refine Calls.mono jQ ?_
       rintro e w' ⟨u,R',ak,rfl,k1,k2,k3⟩
       exact hn u R' ak w' (k1.put dst v' u (hv.rep k2) λ κ aa=>k3 κ (hv.refs aa))
      ·cases hc
     ·cases hc
    ·cases hc
   |_=>simp only [eH] at hc;cases hc
  |_=>simp only [eH] at hc;cases hc
 |call f aN args acc σ1' σ2 xs r v ns hc hpre hfn hpost=>
  obtain ⟨dst,op,ty,pos,after,guard⟩:=o
  cases op with
  |call c=>
   obtain ⟨callee,cC,argTypes⟩:=c
   cases callee with
   |value x=>
    simp only [fK] at hc
    split at hc
    ·rename_i f' caps hf
     split at hc
     ·rename_i BE hg
      cases hc
      obtain ⟨ps,hx,hps⟩:=lV hf (h.cu x)
      have hargs:an (aA w R Pr) (cC.toList.map σ.ρ++caps) (cC.map a.eval++ps.toArray).toList:=by
       rw [Array.toList_append,Array.toList_map]
       exact (dG _ λ y _=>h.cu y).append hps
      have vc:((cC.map a.eval++ps.toArray).toList).toArray=cC.map a.eval++ps.toArray:=Array.toArray_toList
      unfold Oper.wp
      have BO:(execOp a.eval ⟨dst,.call ⟨.value x,cC,argTypes⟩,ty,pos,after,guard⟩).run P w=(callFunc f (cC.map a.eval++ps.toArray)).run P w:=by
       simp only [execOp,resolve,hx,Deferred.ofValue,Sem.run_bind,Sem.run_pure,Result.andThen_ok,invoke,Array.empty_append]
      rcases Env.zf hg with hg|hg
      rotate_left
      ·obtain ⟨u,q1,v1,R',ak,q2,k1,k2,k3⟩:=oU (C:=zA P f) (λ args w Q Q' ⟨v,q1,q2⟩ hq=>⟨v,q1,hq _ _ q2⟩) (hE.iH hg) h aZ hargs hpre hfn hpost
       cases q2
       rw [vc] at q1
       rw [BO,q1]
       exact hn u R' ak w (k1.put dst v' u (hv.rep k2) λ κ aa=>k3 κ (hv.refs aa))
      have jQ:=oU (C:=Calls P f) (λ _ _ _ _ hc hq=>Calls.mono hc hq) (hE.get hg) h aZ hargs hpre hfn hpost
      have x7:=dW.get hg
      have hrun:(execOp a.eval ⟨dst,.call ⟨.value x,cC,argTypes⟩,ty,pos,after,guard⟩).run P w=.ok (.enter f (cC.map a.eval++ps.toArray)) w:=by
       simp only [execOp,resolve,hx,Deferred.ofValue,Sem.run_bind,Sem.run_pure,Result.andThen_ok,invoke]
       have:=x7 (cC.map a.eval++ps.toArray) w
       simpa using this
      rw [hrun]
      rw [vc] at jQ
      refine Calls.mono jQ ?_
      rintro e w' ⟨u,R',ak,rfl,k1,k2,k3⟩
      exact hn u R' ak w' (k1.put dst v' u (hv.rep k2) λ κ aa=>k3 κ (hv.refs aa))
     ·cases hc
    ·cases hc
   |_=>simp only [fK] at hc;cases hc
  |_=>simp only [fK] at hc;cases hc
end
end Go.Rx
