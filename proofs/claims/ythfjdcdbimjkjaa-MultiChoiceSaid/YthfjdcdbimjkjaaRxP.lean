/- Reflection, part P: one operation: what it asks, what it touches, what it does. -/
import Derived.Test.YthfjdcdbimjkjaaRxO
set_option linter.unusedVariables false
set_option linter.unusedSimpArgs false
set_option linter.unusedSectionVars false
namespace Go.Rx
structure bg where
 acc:List Nat
 upd:List Nat
 mg:Bool
 kl:Option Nat
 rs:List Nat
 vr:List Nat
 os:List Nat
 ur:List Nat
abbrev ft (acc upd:List Nat) (mg:Bool):bg:=⟨acc,upd,mg,none,[],[],[],[]⟩
def fJ {α:Type}:List DP->Option α->Option α
 | [],r=>r
 |x::l,r=>@ite _ x.p x.d (fJ l r) none
theorem eH {α:Type}:∀{l:List DP} {r:Option α} {y:α},fJ l r=some y->cw l/\r=some y
 | [],_,_,h=>⟨(λ _ hx=>(by cases hx)),h⟩
 |x::l,r,y,h=>by
  simp only [fJ] at h
  by_cases hp:x.p
  ·rw [if_pos hp] at h
   obtain ⟨h1,h2⟩:=eH h
   exact ⟨λ z hz=>by rcases List.mem_cons.1 hz with rfl|hz;exact hp;exact h1 z hz,h2⟩
  ·rw [if_neg hp] at h;cases h
def x9 {α:Type} (lit:Bool) (v:AV) (K:AV->Option α):Option α:=
 match lit,v with
 |true,.cp (.one (.prop p d))=>@ite _ p d (K (aN (.lit true))) (K (aN (.lit false)))
 |_,v=>K v
def jZ (v v':AV):Prop:=v'=v\/∃(p:Prop) (d:Decidable p) (b:Bool),v=aN (.prop p d)/\v'=aN (.lit b)/\b=@decide p d
theorem xe {α:Type} {lit:Bool} {v:AV} {K:AV->Option α} {y:α} (h:x9 lit v K=some y):∃v',jZ v v'/\K v'=some y:=by
 unfold x9 at h
 split at h
 ·rename_i p d
  by_cases hp:p
  ·rw [if_pos hp] at h;exact ⟨_,.inr ⟨p,d,true,rfl,rfl,by simp [hp]⟩,h⟩
  ·rw [if_neg hp] at h;exact ⟨_,.inr ⟨p,d,false,rfl,rfl,by simp [hp]⟩,h⟩
 ·exact ⟨v,.inl rfl,h⟩
theorem jZ.rep {w:World} {R:Nat->RL} {Pr:Nat->Prop} {v v':AV} {u:Value} (h:jZ v v') (hr:aA w R Pr v u):aA w R Pr v' u:=by
 rcases h with rfl|⟨p,d,b,rfl,rfl,rfl⟩
 ·exact hr
 ·exact hr
theorem jZ.refs {v v':AV} (h:jZ v v') {κ:Nat} (hk:κ∈v'.refs):κ∈v.refs:=by
 rcases h with rfl|⟨p,d,b,rfl,rfl,rfl⟩
 ·exact hk
 ·cases hk
section
variable (T:bh) (Y:dY) (E:Env)
def yZ (σ:St):Op->List Nat
 | .store _ _ x=>(σ.ρ x).refs
 | .buildSlice _ _ parts=>parts.toList.flatMap λ p=>(σ.ρ p.2).refs
 |_=>[]
def nA (σ:St):Op->Option (DP×St)
 | .store _ _ (.tmp s)=>match σ.get s with
   | .cp (.one (.val false e l))=>some (⟨List.isEmpty (bW false l)=false,inferInstance⟩,σ.put (some s) (.cp (.one (.val true e (Bf true (bW false l))))))
   |_=>none
 |_=>none
def kN:AV->Option (FuncId×List AV)
 | .cp (.one (.fn f aJ))=>some (f,aJ.map λ κ=>aN (.ptr κ 0))
 | .cp (.one (.dat (.cL f e) x))=>some (f,(e.cells x).map aN)
 |_=>none
def fI (σ:St):Op->Option (FuncId×oL×List AV)
 | .call c=>match c.callee with
   | .value x=>match kN (σ.ρ x) with
     |some (f,caps)=>match E.get f with
      |some aR=>some (f,aR,c.args.toList.map σ.ρ++caps)
      |none=>none
     |_=>none
   |_=>none
 |_=>none
def vk:List LO->List AV->Option (Nat×List AV)
 | .box _::_,.cp (.one (.ptr κ 0))::r=>some (κ,r)
 | .row _::_,.cp (.one (.own κ))::r=>some (κ,r)
 | .rows _::_,.cp (.one (.own κ))::r=>some (κ,r)
 | .map _ _::_,.cp (.one (.mp κ))::r=>some (κ,r)
 |_,_=>none
def eG (σ:St):Op->Option (FuncId×kG×Nat×List AV)
 | .call c=>match c.callee with
   | .value x=>match kN (σ.ρ x) with
     |some (f,caps)=>match E.fV f with
      |some aR=>match vk aR.ls ((c.args.toList.map σ.ρ++caps).drop aR.pos) with
       |some (κ,r)=>some (f,aR,κ,(c.args.toList.map σ.ρ++caps).take aR.pos++r)
       |none=>none
      |none=>none
     |_=>none
   |_=>none
 |_=>none
def bn:Option (Nat×Ob)->List Nat
 |some (κ,_)=>[κ]
 |none=>[]
def St.dS (σ:St) (e:bK):St:=
 let σ1:=match e.kill with
  |some κ=>σ.kill κ
  |none=>σ
 match e.upd with
  |some (κ,o)=>σ1.aK κ (some o)
  |none=>σ1
def jX (σ:St) (κ:Nat):List Nat:=(List.range σ.tmps.length).filter λ t=>(σ.get t).refs.contains κ
def St.bG (σ:St):Option Nat->St
 |some κ=>σ.kill κ
 |none=>σ
def sr (σ:St) (kl:Option Nat) (S U:List Nat):Prop:=∀κ,kl=some κ->(∀t,t∉S->κ∉(σ.get t).refs)/\∀q,q∉U->∀o,σ.ob q=some o->κ∉o.refs
def hD (σ:St) (κ:Nat):List Nat:=(List.range σ.objs.length).filter λ q=>match σ.ob q with
 |some o=>o.refs.contains κ
 |none=>false
theorem lI {σ:St} {κ q:Nat}:q∈hD σ κ↔∃o,σ.ob q=some o/\κ∈o.refs:=by
 unfold hD
 rw [List.mem_filter]
 constructor
 ·rintro ⟨_,h⟩
  cases ho:σ.ob q with
  |none=>rw [ho] at h;cases h
  |some o=>rw [ho] at h;exact ⟨o,rfl,by simpa using h⟩
 ·rintro ⟨o,ho,h⟩
  exact ⟨List.mem_range.2 (cW (by rw [ho];simp)),by rw [ho];simpa using h⟩
def nj (σ:St) (e:bK):bg:=match e.kill with
 |none=>ft e.acc (bn e.upd) false
 |some κ=>⟨hD σ κ++e.acc,hD σ κ++bn e.upd,false,some κ,jX σ κ,[],[],[]⟩
def gW (σ:St) (dst:Option Nat):Op->Option (List DP×St×AV)
 | .load t p=>match σ.ρ p,dst,T.get t with
   | .cp (.one (.dN κ sz j off)),some d,some i=>match i.d,σ.ob κ,σ.ob d,fC d σ.objs.length with
     | .slice _,some (.rows e ll none tt mm xs),none,true=>match sz.beq (mm+1) && off.beq mm with
       |true=>some ([],(σ.aK κ (some (.rows e ll (some j) tt mm xs))).aK d (some (.vec e (ll.getD j []))),aN (.own d))
       |false=>none
     |_,_,_,_=>none
   |_,_,_=>none
 | .store t p x=>match σ.ρ p,σ.ρ x,T.get t with
   | .cp (.one (.dN κ sz j off)),.cp (.one (.own d)),some i=>match i.size.beq 1,σ.ob κ,σ.ob d with
     |true,some (.rows e ll (some j') tt mm xs),some (.vec e' l)=>match sz.beq (mm+1) && off.beq mm,Ty.dec e' e with
      |true,isTrue h=>some ([⟨j'=j,inferInstance⟩],(σ.gone d).aK κ (some (.rows e (ll.set j (h▸l)) none tt mm xs)),bB)
      |_,_=>none
     |_,_,_=>none
   |_,_,_=>none
 | .range t x=>match dst,σ.ρ x with
   |some d,.cp (.one (.mp κ))=>match σ.ob κ,σ.ob d,fC d σ.objs.length with
    |some (.map K V l _),none,true=>match iG T t K V with
     |some _=>some ([],(σ.aK d (some (.tok κ))).aK κ (some (.map K V l (some (d,l,none)))),aN (.ptr d 0))
     |none=>none
    |_,_,_=>none
   |_,_=>none
 |_=>none
def jg (σ:St) (dst:Option Nat):Op->bg
 | .load t p=>match σ.ρ p,dst with
   | .cp (.one (.dN κ sz j off)),some d=>ft [κ,d] [κ,d] false
   |_,_=>ft [] [] true
 |_=>ft [] [] true
def yc {α:Type} (o:Oper) (σ:St) (K:St->AV->bg->Option α):Option α:=
 match jr T Y σ.ρ σ.ob σ.objs.length o.dst o.op with
 |some e=>fJ e.conds (K (σ.dS e) e.v (nj σ e))
 |none=>match sM T σ.ρ σ.ob o.op with
  |some out=>fJ out.conds (K σ out.v (ft out.acc [] false))
  |none=>match fI E σ o.op with
   |some (f,aR,args)=>match iX σ aR args with
    |some (acc,σ1,xs)=>(aR.fn xs).bind λ r=>match gG σ1 o.dst aR.rs r with
     |some (σ2,v,ns)=>K σ2 v (ft (acc++ns.map (·.1)) (ns.map (·.1)) (!(acc.isEmpty || aR.rs.all RT.bT)))
     |none=>none
    |none=>none
   |none=>match eG E σ o.op with
    |some (f,aR,κ,args)=>match gH σ aR κ args with
     |some (acc,ks,x,xs)=>(aR.fn x xs).bind λ q=>match gd (bC acc σ) o.dst κ ks aR.aT aR.ls aR.rs q.1 q.2 with
      |some (σ2,v,ns)=>K σ2 v (ft (κ::(ks++(acc++ns.map (·.1)))) (κ::(ks++ns.map (·.1))) (!(acc.isEmpty && aR.aT)))
      |none=>none
     |none=>none
    |none=>match gW T σ o.dst o.op with
     |some (cs,σ2,v)=>fJ cs (K σ2 v (jg σ o.dst o.op))
     |none=>match yZ σ o.op with
      | []=>match nA σ o.op with
        |some (c,σ2)=>match jr T Y σ2.ρ σ2.ob σ2.objs.length o.dst o.op with
         |some e=>fJ (c::e.conds) (K (σ2.dS e) e.v (ft [] [] true))
         |none=>none
        |none=>none
      |κ::aJ=>match jr T Y (bC (κ::aJ) σ).ρ (bC (κ::aJ) σ).ob (bC (κ::aJ) σ).objs.length o.dst o.op with
       |some e=>fJ e.conds (K ((bC (κ::aJ) σ).dS e) e.v (ft [] [] true))
       |none=>match nA (bC (κ::aJ) σ) o.op with
        |some (c,σ2)=>match jr T Y σ2.ρ σ2.ob σ2.objs.length o.dst o.op with
         |some e=>fJ (c::e.conds) (K (σ2.dS e) e.v (ft [] [] true))
         |none=>none
        |none=>none
inductive Pre (o:Oper) (σ:St):St->AV->bg->Prop where
 |val (out:Out) (h:sM T σ.ρ σ.ob o.op=some out) (hh:cw out.conds):Pre o σ σ out.v (ft out.acc [] false)
 |ec (e:bK) (h:jr T Y σ.ρ σ.ob σ.objs.length o.dst o.op=some e) (hh:cw e.conds) (g:Bool) (S B:List Nat) (hg:g=false->sr σ e.kill S (B++bn e.upd)/\∀q∈B,σ.ob q≠none):Pre o σ (σ.dS e) e.v ⟨B++e.acc,B++bn e.upd,g,e.kill,S,[],[],[]⟩
 |call (f:FuncId) (aR:oL) (args:List AV) (acc:List Nat) (σ1 σ2:St) (xs:DL aR.sig) (r:eP aR.rs) (v:AV) (ns:List (Nat×Ob)) (h:fI E σ o.op=some (f,aR,args)) (hpre:iX σ aR args=some (acc,σ1,xs)) (hfn:aR.fn xs=some r)
   (hpost:gG σ1 o.dst aR.rs r=some (σ2,v,ns)):Pre o σ σ2 v (ft (acc++ns.map (·.1)) (ns.map (·.1)) (!(acc.isEmpty || aR.rs.all RT.bT)))
 |rR (f:FuncId) (aR:kG) (κ:Nat) (args:List AV) (acc ks:List Nat) (σ2:St) (x:cu aR.ls) (xs:DL aR.sig) (y:cu aR.ls) (r:eP aR.rs) (v:AV) (ns:List (Nat×Ob)) (h:eG E σ o.op=some (f,aR,κ,args)) (hpre:gH σ aR κ args=some (acc,ks,x,xs)) (hfn:aR.fn x xs=some (y,r))
   (hpost:gd (bC acc σ) o.dst κ ks aR.aT aR.ls aR.rs y r=some (σ2,v,ns)):Pre o σ σ2 v (ft (κ::(ks++(acc++ns.map (·.1)))) (κ::(ks++ns.map (·.1))) (!(acc.isEmpty && aR.aT)))
 |bJ (aJ:List Nat) (e:bK) (h:jr T Y (bC aJ σ).ρ (bC aJ σ).ob (bC aJ σ).objs.length o.dst o.op=some e) (hh:cw e.conds):Pre o σ ((bC aJ σ).dS e) e.v (ft [] [] true)
 |lift (aJ:List Nat) (c:DP) (σ2:St) (hl:nA (bC aJ σ) o.op=some (c,σ2)) (hc:c.p) (e:bK) (h:jr T Y σ2.ρ σ2.ob σ2.objs.length o.dst o.op=some e) (hh:cw e.conds):Pre o σ (σ2.dS e) e.v (ft [] [] true)
 |row (cs:List DP) (σ2:St) (v:AV) (h:gW T σ o.dst o.op=some (cs,σ2,v)) (hh:cw cs):Pre o σ σ2 v (jg σ o.dst o.op)
theorem vN {σ:St} {κ:Nat}:∀t,t∉jX σ κ->κ∉(σ.get t).refs:=λ t ht hk=>ht (by
 unfold jX
 refine List.mem_filter.2 ⟨?_,by simpa using hk⟩
 rcases Nat.lt_or_ge t σ.tmps.length with g|g
 ·exact List.mem_range.2 g
 ·unfold St.get at hk
  rw [List.getD_eq_getElem?_getD,List.getElem?_eq_none g] at hk
  simp [AV.refs,Cp.refs,C.refs] at hk)
theorem zu {o:Oper} {σ:St} {e:bK} (h:jr T Y σ.ρ σ.ob σ.objs.length o.dst o.op=some e) (hh:cw e.conds):Pre T Y E o σ (σ.dS e) e.v (nj σ e):=by
 cases hk:e.kill with
 |none=>
  have:=Pre.ec (T:=T) (Y:=Y) (E:=E) e h hh false [] [] (λ _=>⟨λ κ aa=>(by rw [hk] at aa;cases aa),λ _ hq=>by cases hq⟩)
  unfold nj
  rw [hk] at this ⊢
  exact this
 |some κ=>
  have:=Pre.ec (T:=T) (Y:=Y) (E:=E) e h hh false (jX σ κ) (hD σ κ) (λ hg=>⟨λ af aa=>by
   rw [hk] at aa;cases aa
   exact ⟨vN,λ q hq o ho hr=>hq (List.mem_append_left _ (lI.2 ⟨o,ho,hr⟩))⟩,λ q hq=>by
   obtain ⟨o,ho,_⟩:=lI.1 hq
   rw [ho];simp⟩)
  unfold nj
  rw [hk] at this ⊢
  exact this
theorem xm {α:Type} {o:Oper} {σ:St} {K:St->AV->bg->Option α} {y:α} (h:yc T Y E o σ K=some y):∃σ1 v F,Pre T Y E o σ σ1 v F/\K σ1 v F=some y:=by
 unfold yc at h
 split at h
 ·rename_i e he
  obtain ⟨h1,h2⟩:=eH h
  exact ⟨_,_,_,zu T Y E he h1,h2⟩
 ·split at h
  ·rename_i out ho
   obtain ⟨h1,h2⟩:=eH h
   exact ⟨_,_,_,.val out ho h1,h2⟩
  ·split at h
   ·rename_i f aR args hc
    split at h
    ·rename_i acc σ1 xs hp
     obtain ⟨r,hr,h⟩:=Option.bind_eq_some_iff.1 h
     split at h
     ·rename_i σ2 v ns hq
      exact ⟨_,_,_,.call f aR args acc σ1 σ2 xs r v ns hc hp hr hq,h⟩
     ·cases h
    ·cases h
   ·have Bb:∀aJ,(match nA (bC aJ σ) o.op with
     |some (c,σ2)=>match jr T Y σ2.ρ σ2.ob σ2.objs.length o.dst o.op with
      |some e=>fJ (c::e.conds) (K (σ2.dS e) e.v (ft [] [] true))
      |none=>none
     |none=>none)=some y->∃σ1 v F,Pre T Y E o σ σ1 v F/\K σ1 v F=some y:=λ aJ h=>by
     split at h
     ·rename_i c σ2 hl
      split at h
      ·rename_i e he
       obtain ⟨h1,h2⟩:=eH h
       exact ⟨_,_,_,.lift aJ c σ2 hl (h1 c (by simp)) e he (λ z hz=>h1 z (by simp [hz])),h2⟩
      ·cases h
     ·cases h
    split at h
    ·rename_i f aR κ args hc
     split at h
     ·rename_i acc ks x xs hp
      obtain ⟨⟨y',r⟩,hr,h⟩:=Option.bind_eq_some_iff.1 h
      split at h
      ·rename_i σ2 v ns hq
       exact ⟨_,_,_,.rR f aR κ args acc ks σ2 x xs y' r v ns hc hp hr hq,h⟩
      ·cases h
     ·cases h
    ·split at h
     ·rename_i cs σ2 v hr
      obtain ⟨h1,h2⟩:=eH h
      exact ⟨_,_,_,.row cs σ2 v hr h1,h2⟩
     ·split at h
      ·exact Bb [] h
      ·rename_i κ aJ _
       split at h
       ·rename_i e he
        obtain ⟨h1,h2⟩:=eH h
        exact ⟨_,_,_,.bJ (κ::aJ) e he h1,h2⟩
       ·exact Bb (κ::aJ) h
end
def vT (P:Program) (f:FuncId):Prop:=∀(args:Array Value) (w:World),(callFunc f args).run P w=.ok (.enter f args) w
def eO (P:Program):Env->Prop
 | []=>True
 | (f,_)::r=>vT P f/\eO P r
theorem eO.get {P:Program}:∀{E:Env} {f:FuncId} {c:oL},eO P E->E.get f=some c->vT P f
 | [],_,_,_,h=>by cases h
 | (g,.c d)::r,f,c,h,hg=>by
   simp only [Env.get] at hg
   split at hg
   ·rename_i e;subst e;exact h.1
   ·exact eO.get h.2 hg
 | (g,.b d)::r,f,c,h,hg=>eO.get (E:=r) h.2 hg
theorem eO.fV {P:Program}:∀{E:Env} {f:FuncId} {c:kG},eO P E->E.fV f=some c->vT P f
 | [],_,_,_,h=>by cases h
 | (g,.b d)::r,f,c,h,hg=>by
   simp only [Env.fV] at hg
   split at hg
   ·rename_i e;subst e;exact h.1
   ·exact eO.fV h.2 hg
 | (g,.c d)::r,f,c,h,hg=>eO.fV (E:=r) h.2 hg
section
variable {w0:World} {Fz av:Nat->Prop} {Lo:Nat->RL} {R:Nat->RL} {Pr:Nat->Prop} {σ:St} {a:Act} {w:World}
variable {P:Program} {T:bh} {Y:dY} {E:Env}
theorem x8 (h:Inv w0 Fz av Lo R Pr σ a w) {op:Op} {c:DP} {σ2:St} (hl:nA σ op=some (c,σ2)) (hc:c.p):Inv w0 Fz av Lo R Pr σ2 a w:=by
 unfold nA at hl
 split at hl
 ·rename_i t p s
  split at hl
  ·rename_i e l hg
   cases hl
   have hv:=h.tm s
   rw [hg] at hv
   have Cu:au w R Pr (.val false e l) (a.tmps.getD s undef):=hv
   obtain ⟨A,cap,k1,k2,_,k4⟩:=Cu
   have hne:bW false l≠[]:=λ e=>by simp [e] at hc
   have hA:A≠none:=by
    obtain ⟨blk,off,cells,el,fr,h1,_⟩:=k4 hne
    rw [h1];simp
   have hi:=h.put (some s) (.cp (.one (.val true e (Bf true (bW false l))))) (a.tmps.getD s undef) ⟨A,cap,k1,k2,hA,k4⟩ (λ κ aa=>by cases aa)
   have ha:a.put (some s) (a.tmps.getD s undef)=a:=by
    have ht:s <a.tmps.size:=by
     rcases Nat.lt_or_ge s a.tmps.size with g|g
     ·exact g
     ·have Ba:a.tmps.getD s undef=.slice A (bW false l).length cap:=by simpa using k1
      rw [Array.getD_eq_getD_getElem?,Array.getElem?_eq_none g] at Ba;simp [undef] at Ba
    cases a with
    |mk tm df=>
     simp only [Act.put]
     congr 1
     have ht':s <tm.size:=ht
     apply Array.ext
     ·simp
     ·intro i h1 h2
      rw [Array.getElem_setIfInBounds]
      split
      ·rename_i e;subst e;simp [Array.getD,ht']
      ·rfl
   rw [ha] at hi
   exact hi
  ·cases hl
 ·cases hl
theorem lX (hT:bA P T) (aZ:∀b,b <w0.heap.size->Fz b\/av b) (h:Inv w0 Fz av Lo R Pr σ a w) {o:Oper} {e:bK} {v':AV} (he:jr T Y σ.ρ σ.ob σ.objs.length o.dst o.op=some e) (hh:cw e.conds) (hv:jZ e.v v') {next:Act->World->Prop} {Q:Exit->Act->World->Prop}
 (hn:∀u R' ak w',Inv w0 Fz av Lo R' ak ((σ.dS e).put o.dst v') (a.put o.dst u) w'->next (a.put o.dst u) w'):o.wp P a w next Q:=by
 obtain ⟨n,u,w',R',ak,k1,k2,k3⟩:=wG hT aZ h he hh
 have hsplit:Inv w0 Fz av Lo R' ak ((σ.dS e).put o.dst v') (a.put o.dst u) w':=by
  have e1:σ.ec o.dst e=(σ.dS e).put o.dst e.v:=rfl
  rw [e1] at k3
  rcases hv with rfl|⟨p,d,b,lN,qY,Cv⟩
  ·exact k3
  ·
   cases hd:o.dst with
   |none=>rw [hd] at k3;exact k3
   |some d1=>
    rw [hd] at k3
    have e2:(σ.dS e).put (some d1) v'=((σ.dS e).put (some d1) e.v).put (some d1) v':=by
     simp [St.put,List.set_set]
    have e3:a.put (some d1) u=(a.put (some d1) u).put (some d1) u:=by
     simp [Act.put]
    rw [e2,e3]
    by_cases hlt:@LT.lt Nat _ d1 (σ.dS e).tmps.length
    ·refine k3.put (some d1) v' u ?_ (λ κ aa=>by rw [qY] at aa;cases aa)
     have:=k3.tm d1
     rw [St.iZ,if_pos ⟨rfl,hlt⟩,Act.sP] at this
     have hsz:=k3.sz
     have hsz':@LT.lt Nat _ d1 a.tmps.size:=by
      simp only [St.put,Act.put,List.length_set,Array.size_setIfInBounds] at hsz;omega
     rw [if_pos ⟨rfl,hsz'⟩] at this
     exact jZ.rep (.inr ⟨p,d,b,lN,qY,Cv⟩) this
    ·have e4:((σ.dS e).put (some d1) e.v).put (some d1) v'=(σ.dS e).put (some d1) e.v:=by
      simp only [St.put,List.set_set]
      rw [List.set_eq_of_length_le (by omega),List.set_eq_of_length_le (by omega)]
     rw [e4, <-e3];exact k3
 unfold Oper.wp
 rw [k1]
 rcases k2 with rfl|⟨rfl,rfl⟩
 ·exact hn u R' ak w' hsplit
 ·exact hn undef R' ak w' hsplit
theorem lT {w:World} {R:Nat->RL} {Pr:Nat->Prop} {v:AV} {f:FuncId} {caps:List AV} {u:Value} (h:kN v=some (f,caps)) (hr:aA w R Pr v u):∃ps:List Value,u=.func (.func f) #[] ps.toArray/\an (aA w R Pr) caps ps:=by
 unfold kN at h
 split at h
 ·rename_i g aJ
  cases h
  exact ⟨_,hr,dG _ λ κ _=>rfl⟩
 ·rename_i g e x
  cases h
  obtain ⟨v',ps,h1,h2,h3⟩:=hr
  have h1:u=v':=by simpa using h1
  refine ⟨ps,h1.trans h2, ?_⟩
  exact (bu (R:=R) h3).cU λ c _ b hb=>hb
 ·cases h
theorem rm {α:Type}:∀(es:List MapEntry) (l:List α),es.length=l.length->bl es l #[] =l
 | [],[],_=>rfl
 |e::es,x::l,h=>by
  have e0: (#[] :Array Nat).contains e.born=false:=by simp
  rw [bl,e0,rm es l (by simpa using h)]
 | [],_::_,h=>by simp at h
 |_::_,[],h=>by simp at h
theorem wP {w:World} {R:Nat->RL} {Pr:Nat->Prop} {ls:List LO} {l rest:List AV} {us:List Value} {κ:Nat} (h:vk ls l=some (κ,rest)) (hr:an (aA w R Pr) l us):∃u0 jY,us=u0::jY/\u0=dO R κ ls/\an (aA w R Pr) rest jY:=by
 unfold vk at h
 split at h
 ·cases h
  cases us with
  |nil=>exact hr.elim
  |cons u us=>exact ⟨u,us,rfl,hr.1,hr.2⟩
 ·cases h
  cases us with
  |nil=>exact hr.elim
  |cons u us=>exact ⟨u,us,rfl,hr.1,hr.2⟩
 ·cases h
  cases us with
  |nil=>exact hr.elim
  |cons u us=>exact ⟨u,us,rfl,hr.1,hr.2⟩
 ·cases h
  cases us with
  |nil=>exact hr.elim
  |cons u us=>exact ⟨u,us,rfl,hr.1,hr.2⟩
 ·cases h
theorem xw (hT:bA P T) (h:Inv w0 Fz av Lo R Pr σ a w) {o:Oper} {cs:List DP} {σ2:St} {v v':AV} (he:gW T σ o.dst o.op=some (cs,σ2,v)) (hh:cw cs) (hv:jZ v v') {next:Act->World->Prop} {Q:Exit->Act->World->Prop}
 (hn:∀u R' ak w',Inv w0 Fz av Lo R' ak (σ2.put o.dst v') (a.put o.dst u) w'->next (a.put o.dst u) w'):o.wp P a w next Q:=by
 obtain ⟨dst,op,ty,pos,after,guard⟩:=o
 simp only at he hn ⊢
 cases op with
 |load t p=>
  simp only [gW] at he
  split at he
  ·rename_i κ sz j off d i hp hi
   split at he
   ·rename_i yu e ll tt mm xs hd ho mj hc
    split at he
    case h_2=>cases he
    rename_i uk
    cases he
    simp only [Bool.and_eq_true] at uk
    have hsz:=Nat.eq_of_beq_eq_true uk.1
    have hoff:=(Nat.eq_of_beq_eq_true uk.2).symm
    subst hsz hoff
    have hpv:=h.ct p
    rw [hp] at hpv
    obtain ⟨hj,o1,n1,c1,q1,q2⟩:=hpv
    have hlen:=(h.ob κ _ ho).1
    rw [hlen] at hj
    obtain ⟨loc,o2,n2,c2,cells,el,r1,r2,r3,hi2⟩:=h.zc ho hj mj hc
    rw [r1] at q1
    cases q1
    have lN:v'=aN (.own d):=by
     rcases hv with e|⟨_,_,_,e,_⟩
     ·exact e
     ·cases e
    obtain ⟨u,k1,k2,_⟩:=jd (P:=P) (R:=λ af=>if af=d then loc else R af) (Pr:=Pr) (o:=o1+cv mm j) (off:=0) (us:=[loc.aG]) (cs:=[.own d]) (x:=.one (.own d)) hT hi r2 (λ c u hu=>by
     cases c with
     |zero=>simp only [List.getElem?_cons_zero] at hu;cases hu;exact r3
     |succ c=>simp at hu) ⟨by show _=_;simp,trivial⟩ (by unfold gD;rw [hd];rfl)
    have hu:a.eval p=.pointer (some ⟨(R κ).blk,o1+cv mm j+0,none⟩):=by rw [q2];simp [cv,Nat.add_assoc]
    rw [<-hu] at k1
    unfold Oper.wp
    have hrun:(execOp a.eval ⟨some d,.load t p,ty,pos,after,guard⟩).run P w=.ok (.value u) w:=by
     simp [execOp,k1]
    rw [hrun]
    refine hn u _ Pr w (hi2.put (some d) v' u (by rw [lN];exact k2) (λ ah bq=> ?_))
    rw [lN] at bq
    have:ah=d:=by simpa [AV.refs,Cp.refs,C.refs] using bq
    subst this
    rw [St.aL,if_pos ⟨rfl,by have:=cr hc;simpa [St.aK] using this⟩]
    simp
   ·cases he
  ·cases he
 |store t p x=>
  simp only [gW] at he
  split at he
  ·rename_i κ sz j off d i hp hx hi
   split at he
   ·rename_i e ll j' tt mm xs e' l hc ho mj
    revert he
    generalize hb:(sz.beq (mm+1) && off.beq mm)=b
    generalize Ty.dec e' e=dc
    intro he
    cases b with
    |false=>cases dc<;>cases he
    |true=>
    cases dc with
    |isFalse _=>cases he
    |isTrue hee=>
     subst hee
     cases he
     have hjj:j'=j:=hh ⟨j'=j,inferInstance⟩ (by simp)
     subst hjj
     simp only [Bool.and_eq_true] at hb
     have his:=Nat.eq_of_beq_eq_true hc
     have hsz:=Nat.eq_of_beq_eq_true hb.1
     have hoff:=(Nat.eq_of_beq_eq_true hb.2).symm
     subst hsz hoff
     have hpv:=h.ct p
     rw [hp] at hpv
     have jx:=h.ct x
     rw [hx] at jx
     have jx:a.eval x=(R d).aG:=jx
     obtain ⟨hj,o1,n1,c1,q1,q2⟩:=hpv
     obtain ⟨hlen,⟨_,hl,_⟩|⟨o2,c2,cells,el,r1,r2,r3,r4,_⟩⟩:=h.ob κ _ ho
     ·rw [hlen,hl] at hj;simp at hj
     rw [hlen] at hj
     rw [r1] at q1
     cases q1
     have hle:o1+cv mm j'+1<=cells.size:=by
      have:=Nat.mul_le_mul_right (mm+1) (Nat.succ_le_of_lt (Nat.lt_of_lt_of_le hj r2))
      rw [Nat.succ_mul] at this
      unfold cv;omega
     obtain ⟨g1,g2⟩:=gY (P:=P) (R:=R) (Pr:=Pr) hT hi r3 (o:=o1+cv mm j') (v:=(R d).aG) (xs:=[.own d]) (x:=.one (.own d)) rfl (by show _=_;rfl) (by simp [his]) (by omega) (by simp)
     have hcells:(R d).aG.cells= #[(R d).aG]:=rfl
     rw [hcells] at g1
     generalize eV:(cells.toList.take (o1+cv mm j')++ (#[(R d).aG]:Array Value).toList++cells.toList.drop (o1+cv mm j'+ (#[(R d).aG]:Array Value).toList.length)).toArray=cur at g1
     have hi2:=h.y3 ho hj mj r1 r3 (cur:=cur) (λ q=>by
      rw [<-eV]
      simp only [List.getElem?_toArray]
      by_cases q1:q <o1+cv mm j'
      ·rw [if_neg (by omega),List.append_assoc,List.getElem?_append_left (by simp;omega),List.getElem?_take,if_pos q1];simp
      ·have dz:(cells.toList.take (o1+cv mm j')).length=o1+cv mm j':=by simp;omega
       by_cases q2:q=o1+cv mm j'
       ·subst q2
        rw [if_pos rfl,List.append_assoc,List.getElem?_append_right (by omega),dz]
        simp
       ·rw [if_neg q2,List.getElem?_append_right (by simp only [List.length_append,dz];simp;omega),List.getElem?_drop]
        simp only [List.length_append,dz]
        simp only [List.length_cons,List.length_nil]
        rw [show o1+cv mm j'+(0+1)+(q - (o1+cv mm j'+(0+1)))=q by omega]
        simp) (by rw [<-eV];simp;omega)
     have lN:v'=bB:=by
      rcases hv with e|⟨_,_,_,e,_⟩
      ·exact e
      ·cases e
     have hrun:(execOp a.eval ⟨dst,.store t p x,ty,pos,after,guard⟩).run P w=.ok .skip (w.setRow (R κ).blk cur):=by
      have e1:a.eval p=.pointer (some ⟨(R κ).blk,o1+cv mm j',none⟩):=by rw [q2];simp [cv,Nat.add_assoc]
      simp [execOp,e1,jx,g1]
     unfold Oper.wp
     rw [hrun]
     exact hn undef R Pr _ (hi2.put dst v' undef (by rw [lN];trivial) (λ ah bq=>by rw [lN] at bq;cases bq))
   ·cases he
  ·cases he
 |range t x=>
  simp only [gW] at he
  split at he
  ·rename_i d κ hx
   split at he
   ·rename_i K V l it ho mj hok
    split at he
    ·rename_i y hy
     cases he
     obtain ⟨kt,vt,hun,_,_⟩:=iw hT hy
     have jx:=h.ct x
     rw [hx] at jx
     have jx:a.eval x=.map (some (R κ).blk):=jx
     obtain ⟨es,clock,g1,⟨g2,lM⟩,g3,g4,_⟩:=h.ob κ _ ho
     have lN:v'=aN (.ptr d 0):=by
      rcases hv with e|⟨_,_,_,e,_⟩
      ·exact e
      ·cases e
     have mh:d≠κ:=λ e=>by rw [e,ho] at mj;cases mj
     have h1:=h.world (w':=w.alloc (.mapIter (some (R κ).blk) clock #[] clock)) (λ b hb=>bF w _ b hb) ⟨by simp,rfl,rfl,rfl,(by first|exact Nat.le_refl _|exact Nat.le_succ _|exact Nat.le_add_right _ _)⟩ (λ _ h=>h) (λ _ h _=>h) (λ b hb=>by have:=h.pr b hb;simp;omega)
     have h2:=h1.add d (.tok κ) ⟨w.heap.size,none,0,0⟩ mj hok rfl trivial (λ κ aa=>by cases aa) (λ z=>z.elim)
     have hR:(λ af=>if af=d then (⟨w.heap.size,none,0,0⟩:RL) else R af) κ=R κ:=if_neg (λ z=>mh z.symm)
     have yI:(σ.aK d (some (.tok κ))).ob κ=some (.map K V l it):=by rw [St.aL,if_neg (λ z=>mh z.1)];exact ho
     have hd2:(σ.aK d (some (.tok κ))).ob d=some (.tok κ):=by rw [St.aL,if_pos ⟨rfl,cr hok⟩]
     have hlt:(R κ).blk <w.heap.size:=az.lt (o:=.map K V l it) trivial (h.ob κ _ ho)
     have h3:=h2.upd κ _ (.map K V l (some (d,l,none))) yI (w':=w.alloc (.mapIter (some (R κ).blk) clock #[] clock)) (R':=λ af=>if af=d then ⟨w.heap.size,none,0,0⟩ else R af) (λ _ _=>rfl) (.inl rfl) (λ _ _ _=>rfl) (Grow.refl _) (λ _=>.inr ⟨trivial,rfl⟩)
      ⟨es,clock,by simp only [hR];rw [bF w _ _ hlt];exact g1,⟨g2,lM⟩,g3,λ i kv en q1 q2=>(g4 i kv en q1 q2).move (λ b hb=>bF w _ b (h.pr b hb)) (λ _ h=>h),λ d' L cur e=>by
        cases e
        refine ⟨clock, #[], ?_,Nat.le_refl _,lM,(rm es.toList l g3).symm,λ kv z=>by cases z⟩
        simp only [if_true,hR]
        exact cA w _⟩ (λ af aa=>by
         simp only [Ob.refs,List.mem_singleton] at aa
         subst aa
         rw [hd2];simp) (λ b hb=>by
         obtain ⟨d',L,e,rfl⟩:=hb
         cases e
         simp only [if_true]
         refine ⟨λ z=>by have:=h.pr _ z;omega,λ z=>by have:=(h.fz _ z).1;have:=h.sm.sz;omega,by simp only [hR];omega,λ ah o1 hne ij=> ?_⟩
         rw [St.aL] at ij
         split at ij
         ·rename_i hc
          cases ij
          exact ⟨λ z=>z.elim,λ z=>z⟩
         ·rename_i hc
          have hk1:ah≠d:=λ e=>by
           rw [e,mj] at ij;cases ij
          have xX:=h.ob ah o1 ij
          have ej:(λ af=>if af=d then (⟨w.heap.size,none,0,0⟩:RL) else R af) ah=R ah:=if_neg hk1
          refine ⟨λ aq e=> ?_,λ hi=> ?_⟩
          ·simp only [if_neg hk1] at e
           have dJ:real R ah o1:=(ck ej o1).1 aq
           have:=az.lt dJ xX
           omega
          ·have hi':=hi.back (w:=w) (R:=R) ej (λ aq=>bF w _ _ (az.lt aq xX)) (λ aH h2=>if_neg (λ (e:aH=d)=>h.wo ah o1 aH ij h2 (by rw [e];exact mj)))
           have:=xX.eE hi'
           omega)
     unfold Oper.wp
     have hrun:(execOp a.eval ⟨some d,.range t x,ty,pos,after,guard⟩).run P w=.ok (.value (.pointer (some ⟨w.heap.size,0,none⟩))) (w.alloc (.mapIter (some (R κ).blk) clock #[] clock)):=by
      have e:execOp a.eval ⟨some d,.range t x,ty,pos,after,guard⟩=(do pure (.value (<-Instr.range t (a.eval x)))):=rfl
      rw [e,jx,Sem.run_bind,run_range_map w t kt vt _ es clock hun g1];rfl
     rw [hrun]
     refine hn _ _ Pr _ (h3.put (some d) v' _ ?_ (λ ah bq=> ?_))
     ·rw [lN];show _=_;simp
     ·rw [lN] at bq
      have:ah=d:=by simpa [AV.refs,Cp.refs,C.refs] using bq
      subst this
      rw [St.aL]
      split
      ·simp
      ·rw [hd2];simp
    ·cases he
   ·cases he
  ·cases he
 |_=>simp only [gW] at he;cases he
theorem xu (hT:bA P T) (hE:dg P E) (dV:eO P E) (aZ:∀b,b <w0.heap.size->Fz b\/av b) (h:Inv w0 Fz av Lo R Pr σ a w) {o:Oper} {σ1:St} {v v':AV} {F:bg} (hp:Pre T Y E o σ σ1 v F) (hv:jZ v v') {next:Act->World->Prop} {Q:Exit->Act->World->Prop}
 (hn:∀u R' ak w',Inv w0 Fz av Lo R' ak (σ1.put o.dst v') (a.put o.dst u) w'->next (a.put o.dst u) w'):o.wp P a w next Q:=by
 cases hp with
 |val out ho hh=>
  obtain ⟨u,k1,k2,k3⟩:=wF hT h.ob h.ct ho hh
  unfold Oper.wp
  rw [k1]
  refine hn u R Pr w (h.put o.dst v' u (hv.rep k2) λ κ aa=> ?_)
  rcases k3 κ (hv.refs aa) with ⟨x,_,hx⟩|⟨af,_,ob,h1,h2⟩
  ·exact h.yR x hx
  ·exact h.wo af ob κ h1 h2
 |ec e he hh g S B hg=>exact lX hT aZ h he hh hv hn
 |bJ aJ e he hh=>exact lX hT aZ (gI aJ h aZ) he hh hv hn
 |row cs σ2 v he hh=>exact xw hT h he hh hv hn
 |lift aJ c σ2 hl hc e he hh=>exact lX hT aZ (x8 (gI aJ h aZ) hl hc) he hh hv hn
 |rR f aR κ args acc ks σ2 x0 xs y r v ns hc hpre hfn hpost=>
  obtain ⟨dst,op,ty,pos,after,guard⟩:=o
  cases op with
  |call c=>
   obtain ⟨callee,dh,argTypes⟩:=c
   cases callee with
   |value x=>
    simp only [eG] at hc
    split at hc
    ·rename_i f' caps hf
     split at hc
     ·rename_i Bn hg
      split at hc
      ·rename_i af rest hh
       cases hc
       obtain ⟨ps,hx,hps⟩:=lT hf (h.ct x)
       have hargs:an (aA w R Pr) (dh.toList.map σ.ρ++caps) (dh.map a.eval++ps.toArray).toList:=by
        rw [Array.toList_append,Array.toList_map]
        exact (dG _ λ y _=>h.ct y).append hps
       generalize fB:(dh.map a.eval++ps.toArray).toList=us at hargs
       obtain ⟨u0,jY,hd,Ab,rW⟩:=wP hh (hargs.drop aR.pos)
       have hlen:aR.pos <us.length:=by
        rcases Nat.lt_or_ge aR.pos us.length with g|g
        ·exact g
        ·rw [List.drop_eq_nil_of_le g] at hd;cases hd
       have hvs:an (aA w R Pr) ((dh.toList.map σ.ρ++caps).take aR.pos++rest) (us.take aR.pos++jY):=(hargs.take aR.pos).append rW
       have jO:=tN (hE.fV hg) h aZ hvs hpre hfn hpost
       have xT:=dV.fV hg
       unfold Oper.wp
       have hrun:(execOp a.eval ⟨dst,.call ⟨.value x,dh,argTypes⟩,ty,pos,after,guard⟩).run P w=.ok (.enter f (dh.map a.eval++ps.toArray)) w:=by
        simp only [execOp,resolve,hx,Deferred.ofValue,Sem.run_bind,Sem.run_pure,Result.andThen_ok,invoke]
        have:=xT (dh.map a.eval++ps.toArray) w
        simpa using this
       rw [hrun]
       have gh:(us.take aR.pos).length=aR.pos:=by simp;omega
       have xM:((us.take aR.pos++jY).take aR.pos++dO R κ aR.ls::(us.take aR.pos++jY).drop aR.pos).toArray=dh.map a.eval++ps.toArray:=by
        rw [List.take_left' gh,List.drop_left' gh, <-Ab, <-hd,List.take_append_drop, <-fB,Array.toArray_toList]
       rw [xM] at jO
       refine Calls.mono jO ?_
       rintro e w' ⟨u,R',ak,rfl,k1,k2,k3⟩
       exact hn u R' ak w' (k1.put dst v' u (hv.rep k2) λ κ aa=>k3 κ (hv.refs aa))
      ·cases hc
     ·cases hc
    ·cases hc
   |_=>simp only [eG] at hc;cases hc
  |_=>simp only [eG] at hc;cases hc
 |call f aR args acc σ1' σ2 xs r v ns hc hpre hfn hpost=>
  obtain ⟨dst,op,ty,pos,after,guard⟩:=o
  cases op with
  |call c=>
   obtain ⟨callee,dh,argTypes⟩:=c
   cases callee with
   |value x=>
    simp only [fI] at hc
    split at hc
    ·rename_i f' caps hf
     split at hc
     ·rename_i Bn hg
      cases hc
      obtain ⟨ps,hx,hps⟩:=lT hf (h.ct x)
      have hargs:an (aA w R Pr) (dh.toList.map σ.ρ++caps) (dh.map a.eval++ps.toArray).toList:=by
       rw [Array.toList_append,Array.toList_map]
       exact (dG _ λ y _=>h.ct y).append hps
      have jO:=uP (hE.get hg) h aZ hargs hpre hfn hpost
      have xT:=dV.get hg
      unfold Oper.wp
      have hrun:(execOp a.eval ⟨dst,.call ⟨.value x,dh,argTypes⟩,ty,pos,after,guard⟩).run P w=.ok (.enter f (dh.map a.eval++ps.toArray)) w:=by
       simp only [execOp,resolve,hx,Deferred.ofValue,Sem.run_bind,Sem.run_pure,Result.andThen_ok,invoke]
       have:=xT (dh.map a.eval++ps.toArray) w
       simpa using this
      rw [hrun]
      have xM:((dh.map a.eval++ps.toArray).toList).toArray=dh.map a.eval++ps.toArray:=Array.toArray_toList
      rw [xM] at jO
      refine Calls.mono jO ?_
      rintro e w' ⟨u,R',ak,rfl,k1,k2,k3⟩
      exact hn u R' ak w' (k1.put dst v' u (hv.rep k2) λ κ aa=>k3 κ (hv.refs aa))
     ·cases hc
    ·cases hc
   |_=>simp only [fI] at hc;cases hc
  |_=>simp only [fI] at hc;cases hc
end
end Go.Rx
