/- Reflection, part T: regions that draw their order: operations that do not touch each other may change places. -/
import Derived.Test.YtollcjadobpfdaaGreatRxS
set_option linter.unusedVariables false
set_option linter.unusedSimpArgs false
set_option linter.unusedSectionVars false
namespace Go.Rx
theorem j4:∀{ns:List (Nat×Ob)} {σ σ':St},σ.cF ns=some σ'->σ'=σ.aG ns/\∀κ∈ns.map (·.1),κ <σ.objs.length
 | [],σ,σ',h=>by simp only [St.cF] at h;cases h;exact ⟨rfl,λ κ aa=>by cases aa⟩
 | (κ,o)::ns,σ,σ',h=>by
   obtain ⟨h1,h2,h3⟩:=ec h
   obtain ⟨h4,h5⟩:=j4 h3
   refine ⟨h4,λ af aa=> ?_⟩
   rcases List.mem_cons.1 aa with rfl|aa
   ·exact ct h1
   ·have:=h5 af aa
    simpa [St.aK] using this
theorem kL:∀{ns:List (Nat×Ob)} {σ σ1 σ':St},σ.cF ns=some σ'->σ1.objs.length=σ.objs.length->(∀κ∈ns.map (·.1),σ1.ob κ=σ.ob κ)->σ1.cF ns=some (σ1.aG ns)
 | [],σ,σ1,σ',h,hl,ha=>rfl
 | (κ,o)::ns,σ,σ1,σ',h,hl,ha=>by
   obtain ⟨h1,h2,h3⟩:=ec h
   have h4:(σ1.aK κ (some o)).cF ns=some ((σ1.aK κ (some o)).aG ns):=by
    refine kL h3 (by simp [St.aK,hl]) λ af aa=> ?_
    rw [St.aL,St.aL,hl,ha af (by simp only [List.map_cons,List.mem_cons];exact .inr aa)]
   unfold St.cF
   have h5:fE κ σ1.objs.length=true:=by rw [hl];exact h1
   rw [h5,ha κ (by simp),h2]
   exact h4
theorem oo {ob aW:Nat->Option Ob} {c:C} (h:∀κ∈(cN ob c).1,aW κ=ob κ):cN aW c=cN ob c:=by
 cases c with
 |own κ=>
  have:aW κ=ob κ:=h κ (by
   simp only [cN]
   split<;>exact List.mem_singleton.2 rfl)
  simp only [cN,this]
 |_=>rfl
theorem gF {ob aW:Nat->Option Ob}:∀{cs:List C},(∀κ∈(cg ob cs).1,aW κ=ob κ)->cg aW cs=cg ob cs
 | [],_=>rfl
 |c::cs,h=>by
  simp only [cg]
  rw [oo (λ κ aa=>h κ (List.mem_append_left _ aa)),gF (λ κ aa=>h κ (List.mem_append_right _ aa))]
theorem uk {ob aW:Nat->Option Ob} {p:PT} {v:AV} {acc:List Nat} {x:p.2.D} (h:toArg ob p v=some (acc,x)) (ha:∀κ∈acc,aW κ=ob κ):toArg aW p v=some (acc,x):=by
 cases v with
 |bO _=>simp [toArg] at h
 |cp c=>
  simp only [toArg] at h ⊢
  split at h
  ·rename_i cs h1 h2 h3
   split at h
   ·rename_i y hy
    cases h
    rw [gF ha,hy]
   ·cases h
  ·rename_i cs h1 h2 h3
   split at h
   ·rename_i y hy
    cases h
    rw [gF ha,hy]
   ·cases h
  ·cases h
theorem mY {ob aW:Nat->Option Ob} {c:C} (h:∀κ∈(dF ob c).1,aW κ=ob κ):dF aW c=dF ob c:=by
 cases c with
 |mp κ=>
  have e:aW κ=ob κ:=by
   refine h κ ?_
   simp only [dF]
   split<;>exact List.mem_singleton.2 rfl
  simp only [dF,e]
 |own κ=>
  have e:aW κ=ob κ:=by
   refine h κ ?_
   simp only [dF]
   split
   ·exact List.mem_singleton.2 rfl
   ·exact List.mem_singleton.2 rfl
   ·simp only [cN]
    split<;>exact List.mem_singleton.2 rfl
  simp only [dF,cN,e]
 |_=>exact oo h
theorem fV {ob aW:Nat->Option Ob}:∀{cs:List C},(∀κ∈(ck ob cs).1,aW κ=ob κ)->ck aW cs=ck ob cs
 | [],_=>rfl
 |c::cs,h=>by
  simp only [ck]
  rw [mY (λ κ aa=>h κ (List.mem_append_left _ aa)),fV (λ κ aa=>h κ (List.mem_append_right _ aa))]
theorem sL {ob aW:Nat->Option Ob}:∀{e:Ty} {aJ:List Nat} {acc:List Nat} {x:e.D},bI ob e aJ=some (acc,x)->(∀κ∈acc,aW κ=ob κ)->bI aW e aJ=some (acc,x):=λ {e}=>by
 induction e with
 |ptr e _=>
  intro aJ acc x h ha
  match aJ,h with
  | [κ],h=>
    simp only [bI] at h
    split at h
    ·rename_i cs ho
     split at h
     ·rename_i y hy
      cases h
      simp only [bI,ha κ (List.mem_cons_self ..),ho]
      rw [fV (λ κ aa=>ha κ (List.mem_cons_of_mem _ aa)),hy]
     ·cases h
    ·rename_i e' x' ho
     have hk:κ∈acc:=by
      revert h
      cases Ty.dec e' e with
      |isFalse _=>intro h;cases h
      |isTrue he=>intro h;cases h;exact List.mem_cons_self ..
     simp only [bI,ha κ hk,ho]
     exact h
    ·cases h
  | [],h=>simp [bI] at h
  |_::_::_,h=>simp [bI] at h
 |pair a b _ ihb=>
  intro aJ acc x h ha
  cases a with
  |ptr e=>
   match aJ,h with
   |κ::aJ,h=>
    simp only [bI] at h
    split at h
    ·rename_i cs acc' r ho hr
     split at h
     ·rename_i y hy
      cases h
      have hr':=ihb hr (λ κ aa=>ha κ (List.mem_cons_of_mem _ (List.mem_append_right _ aa)))
      simp only [bI,ha κ (List.mem_cons_self ..),ho,hr']
      rw [fV (λ κ aa=>ha κ (List.mem_cons_of_mem _ (List.mem_append_left _ aa))),hy]
     ·cases h
    ·rename_i e' x' acc' r ho hr
     have hk:κ∈acc/\∀af∈acc',af∈acc:=by
      revert h
      cases Ty.dec e' e with
      |isFalse _=>intro h;cases h
      |isTrue he=>intro h;cases h;exact ⟨List.mem_cons_self ..,λ af aa=>List.mem_cons_of_mem _ aa⟩
     have hr':=ihb hr (λ κ aa=>ha κ (hk.2 κ aa))
     simp only [bI,ha κ hk.1,ho,hr']
     exact h
    ·cases h
   | [],h=>simp [bI] at h
  |_=>simp [bI] at h
 |_=>intro aJ acc x h;simp [bI] at h
theorem tI {ob aW:Nat->Option Ob} {e:Ty} {c:Cp} {acc:List Nat} {x:e.D} (h:iA ob e c=some (acc,x)) (ha:∀κ∈acc,aW κ=ob κ):iA aW e c=some (acc,x):=by
 unfold iA at h
 split at h
 ·rename_i e κ
  split at h
  ·rename_i cs ho
   split at h
   ·rename_i y hy
    cases h
    simp only [iA,ha κ (List.mem_cons_self ..),ho]
    rw [fV (λ κ aa=>ha κ (List.mem_cons_of_mem _ aa)),hy]
   ·cases h
  ·cases h
 ·cases h
theorem tu {ob aW:Nat->Option Ob} {e:Ty} {c:Cp} {acc:List Nat} {x:e.D} (h:mapArg ob e c=some (acc,x)) (ha:∀κ∈acc,aW κ=ob κ):mapArg aW e c=some (acc,x):=by
 unfold mapArg at h ⊢
 split at h
 ·rename_i K V κ
  split at h
  ·rename_i K' V' l it ho
   have hk:κ∈acc:=by
    revert h
    cases Ty.dec (.map K' V') (.map K V) with
    |isFalse _=>intro h;cases h
    |isTrue he=>intro h;injection he with e1 e2;subst e1 e2;cases h;exact List.mem_cons_self ..
   simp only [ha κ hk,ho]
   exact h
  ·cases h
 ·rename_i f e g aJ
  split at h
  ·rename_i hg
   obtain ⟨⟨acc',y⟩,hy,e1⟩:=Option.map_eq_some_iff.1 h
   cases e1
   simp only [hg,sL hy ha,Option.map_some]
  ·cases h
 ·rename_i e κ
  split at h
  ·rename_i acc' e' l ho
   have hacc:acc'=acc:=by
    revert h
    cases Ty.dec e' e with
    |isFalse _=>intro h;cases h
    |isTrue he=>intro h;subst he;cases h;rfl
   subst hacc
   rw [mY (λ af aa=>ha af (by rw [ho] at aa;exact aa)),ho]
   exact h
  ·cases h
 ·exact tI h ha
theorem A7 {ob aW:Nat->Option Ob} (h:∀κ,aW κ=ob κ):aW=ob:=funext h
theorem tS {ob aW:Nat->Option Ob} {p:PT} {v:AV} {acc:List Nat} {x:p.2.D} (h:kG ob p v=some (acc,x)) (ha:∀κ∈acc,aW κ=ob κ):kG aW p v=some (acc,x):=by
 unfold kG at h ⊢
 split at h
 ·rename_i r hr
  cases h
  rw [uk hr ha]
 ·rename_i hn0
  split at h
  ·rename_i c hp1
   have hn:toArg aW p (.cp c)=none:=by
    obtain ⟨p1,p2⟩:=p
    simp only at hp1 h x
    subst hp1
    unfold mapArg at h
    split at h
    ·simp only [toArg,gO,bV,cg,cN,Ty.of]
    ·simp only [toArg,gO,bV,cg,cN,Ty.of]
    ·rename_i e κ _
     have e1:aW κ=ob κ:=by
      refine ha κ ?_
      revert h
      split
      ·rename_i acc' e' l ho
       cases Ty.dec e' e with
       |isFalse _=>intro h;cases h
       |isTrue he=>
        intro h;subst he;cases h
        have:=congrArg Prod.fst ho
        simp only at this
        rw [<-this]
        simp only [dF]
        split
        ·exact List.mem_singleton.2 rfl
        ·exact List.mem_singleton.2 rfl
        ·simp only [cN]
         split<;>exact List.mem_singleton.2 rfl
      ·intro h;cases h
     simp only [toArg,gO,bV,cg,cN,e1] at hn0 ⊢
     exact hn0
    ·unfold iA at h
     split at h
     ·simp only [toArg,gO,bV,cg,cN,Ty.of]
     ·cases h
   rw [hn]
   simp only [hp1]
   exact tu h ha
  ·cases h
theorem th {ob aW:Nat->Option Ob} {acc:List Nat} (ha:∀κ∈acc,aW κ=ob κ):acc.all (eX aW)=acc.all (eX ob):=by
 induction acc with
 |nil=>rfl
 |cons κ r ih=>
  simp only [List.all_cons]
  rw [ih (λ af aa=>ha af (List.mem_cons_of_mem _ aa))]
  unfold eX
  rw [ha κ (List.mem_cons_self ..)]
theorem jG {ob aW:Nat->Option Ob}:∀{sig:List PT} {vs:List AV} {acc:List Nat} {xs:DL sig},dY ob sig vs=some (acc,xs)->(∀κ∈acc,aW κ=ob κ)->dY aW sig vs=some (acc,xs)
 | [],[],_,_,h,_=>h
 |p::sig,v::vs,acc,xs,h,ha=>by
  simp only [dY] at h ⊢
  split at h
  ·rename_i k1 x k2 ys h1 h2
   cases h
   rw [tS h1 (λ κ aa=>ha κ (List.mem_append_left _ aa)),jG h2 (λ κ aa=>ha κ (List.mem_append_right _ aa))]
  ·cases h
 | [],_::_,_,_,h,_=>by simp [dY] at h
 |_::_,[],_,_,h,_=>by simp [dY] at h
section
variable {T:bh} {Y:dZ} {E:Env}
theorem sK {σ σ':St} {op:Op} {f:FuncId} {aN:jH} {args:List AV} (h:fK E σ op=some (f,aN,args)) (hρ:∀x∈op.operands.toList,σ'.ρ x=σ.ρ x):fK E σ' op=some (f,aN,args):=by
 cases op with
 |call c=>
  obtain ⟨callee,cC,at_⟩:=c
  cases callee with
  |value x=>
   simp only [fK] at h ⊢
   rw [hρ x (by simp [Op.operands,Call.operands]),List.map_congr_left (λ y hy=>hρ y (by simp [Op.operands,Call.operands];exact .inr (by simpa using hy)))]
   exact h
  |_=>simp only [fK] at h;cases h
 |_=>simp only [fK] at h;cases h
theorem rO {σ σ':St} {op:Op} {f:FuncId} {aN:kI} {κ:Nat} {args:List AV} (h:eH E σ op=some (f,aN,κ,args)) (hρ:∀x∈op.operands.toList,σ'.ρ x=σ.ρ x):eH E σ' op=some (f,aN,κ,args):=by
 cases op with
 |call c=>
  obtain ⟨callee,cC,at_⟩:=c
  cases callee with
  |value x=>
   simp only [eH] at h ⊢
   rw [hρ x (by simp [Op.operands,Call.operands]),List.map_congr_left (λ y hy=>hρ y (by simp [Op.operands,Call.operands];exact .inr (by simpa using hy)))]
   exact h
  |_=>simp only [eH] at h;cases h
 |_=>simp only [eH] at h;cases h
theorem lD:∀(us:List (Nat×Ob)) (l m:List (Option Ob)),l.length=m.length->∀κ,l.getD κ none=m.getD κ none->(aU l us).getD κ none=(aU m us).getD κ none
 | [],l,m,_,κ,h=>h
 | (af,o)::us,l,m,hl,κ,h=>by
   show (aU (l.set af (some o)) us).getD κ none=(aU (m.set af (some o)) us).getD κ none
   refine lD us _ _ (by simpa using hl) κ ?_
   rw [bE,bE,hl,h]
theorem j9 {ob aW:Nat->Option Ob}:∀{ks:List Nat} {fs:List LF} {cs:List C} {x:nN fs},cM ob ks fs cs=some ([],x)->cM aW ks fs cs=some ([],x)
 |ks,[],[],x,h=>by simpa [cM] using h
 |ks,[],_::_,x,h=>by simp [cM] at h
 |ks,.d τ::r,cs,x,h=>by
  simp only [cM] at h ⊢
  split at h
  ·rename_i x1 a1 y1 h1 h2
   have q1:(cg ob (cs.take τ.n)).1++a1=[]:=congrArg (λ z=>z.1) (Option.some.inj h)
   have q2:((x1,y1):nN (.d τ::r))=x:=congrArg (λ z=>z.2) (Option.some.inj h)
   obtain ⟨q3,rfl⟩:=List.append_eq_nil_iff.1 q1
   have e:=gF (ob:=ob) (aW:=aW) (cs:=cs.take τ.n) (λ κ aa=>by rw [q3] at aa;cases aa)
   rw [e,h1,j9 h2, <-q2,q3]
   rfl
  ·cases h
 |k::ks,.o::r,c::cs,x,h=>by
  cases c with
  |own κ=>
   simp only [cM] at h ⊢
   split at h
   ·exact j9 (fs:=r) h
   ·cases h
  |_=>simp [cM] at h
 | [],.o::r,_,x,h=>by simp [cM] at h
 |_::_,.o::r,[],x,h=>by simp [cM] at h
theorem uj {ob aW:Nat->Option Ob} {ks:List Nat} {κ:Nat} {o:LO} {x:o.D} (h:dS ob ks κ o=some ([],x)) (ha:aW κ=ob κ):dS aW ks κ o=some ([],x):=by
 cases o with
 |box fs=>
  cases ho:ob κ with
  |none=>simp only [dS,ho] at h;exact absurd h (by simp)
  |some o1=>
   cases o1 with
   |box cs=>simp only [dS,ha,ho] at h ⊢; exact j9 h
   |_=>simp only [dS,ho] at h;exact absurd h (by simp)
 |row e=>simp only [dS,ha] at h ⊢; exact h
 |rows e=>simp only [dS,ha] at h ⊢; exact h
 |map K V=>simp only [dS,ha] at h ⊢; exact h
theorem om {ob aW:Nat->Option Ob} {ks:List Nat}:∀{aJ:List Nat} {ls:List LO} {x:cv ls},cE ob ks aJ ls=some ([],x)->(∀κ∈aJ,aW κ=ob κ)->cE aW ks aJ ls=some ([],x)
 | [],[],x,h,_=>h
 |κ::aJ,o::ls,x,h,ha=>by
  simp only [cE] at h ⊢
  split at h
  ·rename_i a x1 b y1 h1 h2
   have q1:a++b=[]:=congrArg (λ z=>z.1) (Option.some.inj h)
   have q2:((x1,y1):cv (o::ls))=x:=congrArg (λ z=>z.2) (Option.some.inj h)
   obtain ⟨rfl,rfl⟩:=List.append_eq_nil_iff.1 q1
   rw [uj h1 (ha κ (List.mem_cons_self ..)),om h2 (λ af aa=>ha af (List.mem_cons_of_mem _ aa)), <-q2]
   rfl
  ·cases h
 | [],_::_,_,h,_=>by simp [cE] at h
 |_::_,[],_,h,_=>by simp [cE] at h
theorem AF (σ:St) (κ:Nat) (o:Ob) (us:List (Nat×Ob)):(σ.aK κ (some o)).aG us=σ.aG ((κ,o)::us):=rfl
theorem k8 {κ:Nat} {v:AV} (h:κ∉v.refs):iP κ v=v:=by
 have hc:∀c:C,κ∉c.refs->fT κ c=c:=λ c hc=>by
  unfold fT
  rw [if_neg (by simpa using hc)]
 have hp:∀x:Cp,κ∉x.refs->iw κ x=x:=λ x hx=>by
  cases x with
  |one c=>simp only [iw];rw [hc c hx]
  |agg cs=>
   simp only [iw]
   congr 1
   exact (List.map_congr_left λ c zS=>hc c (λ z=>hx (List.mem_flatMap.2 ⟨c,zS,z⟩))).trans (List.map_id' cs)
 cases v with
 |cp x=>simp only [iP];rw [hp x h]
 |bO vs=>
  simp only [iP]
  congr 1
  exact (List.map_congr_left λ x hx=>hp x (λ z=>h (List.mem_flatMap.2 ⟨x,hx,z⟩))).trans (List.map_id' vs)
theorem qy {σ:St} {κ:Nat} (af:Nat) (h:∀o,σ.ob af=some o->κ∉o.refs):(σ.kill κ).ob af=σ.ob af:=by
 rw [dx]
 cases ho:σ.ob af with
 |none=>rfl
 |some o=>
  have hn:=h o ho
  cases o with
  |box cs=>
   simp only [bS]
   congr 2
   refine (List.map_congr_left λ c hc=> ?_).trans (List.map_id' cs)
   unfold fT
   rw [if_neg]
   intro z
   exact hn (List.mem_flatMap.2 ⟨c,hc,by simpa using z⟩)
  |map K V l it=>
   cases it with
   |none=>rfl
   |some p=>
    obtain ⟨d,L⟩:=p
    have hd:d.beq κ=false:=by
     cases hb:d.beq κ with
     |false=>rfl
     |true=>
      have:=Nat.eq_of_beq_eq_true hb
      subst this
      exact absurd (List.mem_singleton.2 rfl) hn
    simp only [bS,hd]
  |_=>rfl
theorem ym {κ:Nat} {o:Option Ob} (h:o≠none):bS κ o≠none:=by
 cases o with
 |none=>exact absurd rfl h
 |some o=>
  cases o with
  |map K V l it=>
   cases it with
   |none=>simp [bS]
   |some p=>
    simp only [bS]
    split<;>simp
  |_=>simp [bS]
theorem tQ (g:Nat->Ob):∀(B:List Nat) (l:List (Option Ob)),(∀q∈B,l.getD q none=some (g q))->aU l (B.map λ q=>(q,g q))=l
 | [],_,_=>rfl
 |q::B,l,h=>by
  have hq:=h q (List.mem_cons_self ..)
  have e:l.set q (some (g q))=l:=by
   rcases Nat.lt_or_ge q l.length with c|c
   ·rw [List.getD_eq_getElem?_getD,List.getElem?_eq_getElem c] at hq
    have hq:l[q]=some (g q):=hq
    rw [<-hq];exact List.set_getElem_self c
   ·exact List.set_eq_of_length_le c
  show aU (l.set q (some (g q))) (B.map λ q=>(q,g q))=l
  rw [e]
  exact tQ g B l (λ q' uE=>h q' (List.mem_cons_of_mem _ uE))
theorem uG {σ:St} {κ:Nat} {x:Operand} (h:∀t,x=.tmp t->κ∉(σ.get t).refs):(σ.kill κ).ρ x=σ.ρ x:=by
 cases x with
 |tmp t=>exact (fW κ t).trans (k8 (h t rfl))
 |_=>rfl
theorem tq {σ:St} {κ:Nat} {d:Option Nat} {v:AV} (h:κ∉v.refs):(σ.put d v).kill κ=(σ.kill κ).put d v:=by
 cases d with
 |none=>rfl
 |some d=>simp only [St.put,St.kill,List.map_set,k8 h]
theorem rz (σ:St) (kl:Option Nat):(σ.bF kl).tmps.length=σ.tmps.length/\(σ.bF kl).objs.length=σ.objs.length:=by
 cases kl with
 |none=>exact ⟨rfl,rfl⟩
 |some κ=>simp [St.bF,St.kill]
theorem xE {o:Oper} {σ σ1:St} {v:AV} {F:bg} (h:Pre T Y E o σ σ1 v F) (hg:F.mj=false):∃us:List (Nat×Ob),us.map (·.1)=F.upd/\(∀κ∈F.upd,κ∈F.acc)/\σ1=(σ.bF F.kl).aG us/\sB σ F.kl F.rs F.upd/\
 ∀σ':St,σ'.tmps.length=σ.tmps.length->σ'.objs.length=σ.objs.length->(∀x∈o.op.operands.toList,σ'.ρ x=σ.ρ x)->(∀κ∈F.acc,σ'.ob κ=σ.ob κ)->sB σ' F.kl F.rs F.upd->Pre T Y E o σ' ((σ'.bF F.kl).aG us) v F:=by
 cases h with
 |val out ho hh=>exact ⟨[],rfl,(λ κ aa=>(by cases aa)),rfl,(λ κ aa=>(by cases aa)),λ σ' _ _ h3 h4 _=>.val out (wM ho h3 h4) hh⟩
 |ef e he hh g S B hg0=>
  obtain ⟨hfree,hB⟩:=hg0 hg
  have BX:=(qV (σ':=σ) rfl he (λ _ _=>rfl) (λ _ _=>rfl)).2 trivial
  have zV:∀τ:St,(∀q∈B,τ.ob q=σ.ob q)->τ.dU e=(τ.bF e.kill).aG ((B.map λ q=>(q,((σ.bF e.kill).ob q).getD (.box [])))++(match e.upd with|some p=>[p] |none=>[])):=λ τ Br=>by
   have e1:τ.dU e=(τ.bF e.kill).aG (match e.upd with|some p=>[p] |none=>[]):=by
    unfold St.dU St.bF
    cases e.kill<;>cases e.upd<;>rfl
   have hk:∀q∈B,(τ.bF e.kill).ob q=some (((σ.bF e.kill).ob q).getD (.box [])):=λ q hq=>by
    have h1:(τ.bF e.kill).ob q=(σ.bF e.kill).ob q:=by
     unfold St.bF
     cases e.kill with
     |none=>exact Br q hq
     |some κ=>simp only [dx,Br q hq]
    have h2:(σ.bF e.kill).ob q≠none:=by
     unfold St.bF
     cases e.kill with
     |none=>exact hB q hq
     |some κ=>simp only [dx];exact ym (hB q hq)
    rw [h1]
    cases ho:(σ.bF e.kill).ob q with
    |none=>exact absurd ho h2
    |some o=>rfl
   rw [e1]
   unfold St.aG
   congr 1
   have:=tQ (λ q=>((σ.bF e.kill).ob q).getD (.box [])) B (τ.bF e.kill).objs hk
   unfold aU at this ⊢
   rw [List.foldl_append,this]
  refine ⟨(B.map λ q=>(q,((σ.bF e.kill).ob q).getD (.box [])))++(match e.upd with|some p=>[p] |none=>[]), ?_,λ κ aa=> ?_,zV σ (λ _ _=>rfl),hfree,λ σ' _ h2 h3 h4 h5=> ?_⟩
  ·rw [List.map_append,List.map_map]
   congr 1
   ·exact List.map_id' B
   ·cases e.upd<;>rfl
  ·rcases List.mem_append.1 aa with aa|aa
   ·exact List.mem_append_left _ aa
   ·exact List.mem_append_right _ (BX κ aa).1
  ·have Bb:∀q∈B,σ'.ob q=σ.ob q:=λ q hq=>h4 q (List.mem_append_left _ hq)
   have:=Pre.ef (E:=E) (o:=o) (σ:=σ') e (qV h2 he h3 (λ κ aa=>h4 κ (List.mem_append_right _ aa))).1 hh g S B (λ _=>⟨h5,λ q hq=>by rw [Bb q hq];exact hB q hq⟩)
   rw [zV σ' Bb] at this
   exact this
 |call f aN args acc σ1' σ2 xs r v ns hc hpre hfn hpost=>
  have vJ:dY σ.ob aN.sig args=some (acc,xs)/\σ1'=jO aN.rs acc σ/\(acc.all (eX σ.ob) || aN.rs.all RT.bU)=true:=by
   unfold iZ at hpre
   split at hpre
   ·rename_i C6 Dr h1
    split at hpre
    ·rename_i h2;cases hpre;exact ⟨h1,rfl,h2⟩
    ·cases hpre
   ·cases hpre
  have xh:∀τ:St,jO aN.rs acc τ=τ:=λ τ=>by
   cases acc with
   |nil=>rfl
   |cons a l=>
    have:aN.rs.all RT.bU=true:=by simpa using hg
    simp only [jO,this]
  have h1:σ1'=σ:=by rw [vJ.2.1,xh]
  subst h1
  unfold gI at hpost
  split at hpost
  ·rename_i cs CT hr
   split at hpost
   ·rename_i σ3 ha
    cases hpost
    obtain ⟨k1,k2⟩:=j4 ha
    refine ⟨ns,rfl,λ κ aa=>List.mem_append_right _ aa,k1,(λ κ aa=>(by cases aa)),λ σ' g1 g2 g3 g4 _=> ?_⟩
    refine .call f aN args acc σ' _ xs r _ ns (sK hc g3) ?_ hfn ?_
    ·unfold iZ
     rw [jG vJ.1 (λ κ aa=>g4 κ (List.mem_append_left _ aa))]
     simp only [xh,th (λ κ aa=>g4 κ (List.mem_append_left _ aa)),vJ.2.2]
    ·unfold gI
     rw [g1,hr]
     simp only
     rw [kL ha g2 (λ κ aa=>g4 κ (List.mem_append_right _ aa))]
     rfl
   ·cases hpost
  ·cases hpost
 |rX f aN κ args acc ks σ2 x0 xs y r v ns hc hpre hfn hpost=>
  have hg2:acc=[]/\aN.aT=true:=by
   cases acc with
   |nil=>exact ⟨rfl,by simpa using hg⟩
   |cons _ _=>simp at hg
  obtain ⟨hacc,qw⟩:=hg2
  subst hacc
  simp only [bB] at hpost
  have hlen:(κ::ks).length=aN.ls.length/\bW σ.ob κ aN.ls=ks:=by
   unfold gJ at hpre
   split at hpre
   ·rename_i k1 x1 k2 xN q1 q2
    split at hpre
    ·obtain ⟨_,q4,_⟩:k1++k2=[]/\bW σ.ob κ aN.ls=ks/\x1=x0/\xN=xs:=by simpa using hpre
     exact ⟨q4▸iF q1,q4⟩
    ·cases hpre
   ·cases hpre
  have hlo:loose aN.aT aN.ls κ ks=[]:=by rw [qw];rfl
  unfold gd at hpost
  rw [hlo] at hpost
  split at hpost
  ·rename_i cs CT hr _
   simp only [bT] at hpost
   split at hpost
   ·rename_i σ3 ha
    cases hpost
    obtain ⟨k1,k2⟩:=j4 ha
    refine ⟨aX ks (κ::ks) aN.ls y++ns,by rw [List.map_append,gj y hlen.1];rfl,λ af aa=>by
     simp only [List.mem_cons,List.mem_append,List.nil_append] at aa ⊢; exact aa,by rw [k1];simp only [St.bF,St.aG,aU,List.foldl_append],(λ κ aa=>(by cases aa)),λ σ' g1 g2 g3 g4 _=> ?_⟩
    refine .rX f aN κ args [] ks _ x0 xs y r _ ns (rO hc g3) ?_ hfn ?_
    ·unfold gJ at hpre ⊢
     have hrow:bW σ'.ob κ aN.ls=bW σ.ob κ aN.ls:=by
      unfold bW
      rw [g4 κ (by simp)]
     rw [hrow]
     split at hpre
     ·rename_i k1 x1 k2 xN q1 q2
      split at hpre
      ·rename_i q6
       obtain ⟨q3,q4,q5,q7⟩:k1++k2=[]/\bW σ.ob κ aN.ls=ks/\x1=x0/\xN=xs:=by simpa using hpre
       obtain ⟨rfl,rfl⟩:=List.append_eq_nil_iff.1 q3
       subst q5 q7
       rw [om q1 (λ ah bq=>g4 ah (by
        rw [q4] at bq
        rcases List.mem_cons.1 bq with e|e
        ·rw [e];exact List.mem_cons_self ..
        ·exact List.mem_cons_of_mem _ (List.mem_append_left _ e))),jG q2 (λ κ aa=>by cases aa)]
       simp only
       rw [show ([]:List Nat).all (eX σ'.ob)=([]:List Nat).all (eX σ.ob) from rfl,q6,q4]
       rfl
      ·cases hpre
     ·cases hpre
    ·unfold gd
     rw [hlo]
     simp only [bB,bT,List.all_nil]
     rw [g1,hr]
     simp only
     rw [kL ha (by simp [St.aG,gl,g2]) (λ af aa=> ?_)]
     ·simp only [St.bF,St.aG,aU,List.foldl_append]
     ·by_cases g:af∈(aX ks (κ::ks) aN.ls y).map (·.1)
      ·obtain ⟨⟨q1,q2⟩,q3,q4⟩:=List.mem_map.1 g
       simp only at q4
       subst q4
       show (aU σ'.objs _).getD q1 none=(aU σ.objs _).getD q1 none
       exact lD (aX ks (κ::ks) aN.ls y) σ'.objs σ.objs g2 q1 (g4 q1 (by simp only [List.mem_cons,List.mem_append];exact .inr (.inr (.inr aa))))
      ·rw [cR _ _ _ g,cR _ _ _ g]
       exact g4 af (by simp only [List.mem_cons,List.mem_append];exact .inr (.inr (.inr aa)))
   ·cases hpost
  ·cases hpost
 |bJ aJ e he hh=>cases hg
 |row cs σ2 v he hh=>
  obtain ⟨dst,op,ty,pos,after,guard⟩:=o
  simp only at he hg ⊢
  cases op with
  |load t p=>
   have Dh:=he
   simp only [gY] at he
   split at he
   ·rename_i κ sz j off d i hp hi
    split at he
    ·rename_i yH e ll tt mm xs hd ho mq hc
     split at he
     case h_2=>cases he
     rename_i uB
     cases he
     have hF:ji σ (some d) (.load t p)=ft [κ,d] [κ,d] false:=by simp only [ji,hp]
     rw [hF]
     refine ⟨[(κ,.rows e ll (some j) tt mm xs),(d,.vec e (ll.getD j []))],rfl,λ _ h=>h,rfl,(λ κ aa=>(by cases aa)),λ σ' g1 g2 g3 g4 _=> ?_⟩
     have Bi:σ'.ρ p=σ.ρ p:=g3 p (by simp [Op.operands])
     have e1:σ'.ob κ=σ.ob κ:=g4 κ (by simp)
     have e2:σ'.ob d=σ.ob d:=g4 d (by simp)
     have:=Pre.row (T:=T) (Y:=Y) (E:=E) (o:=⟨some d,.load t p,ty,pos,after,guard⟩) (σ:=σ') [] ((σ'.aK κ (some (.rows e ll (some j) tt mm xs))).aK d (some (.vec e (ll.getD j [])))) (aQ (.own d)) (by
      simp only [gY,Bi,hp,hi,hd,e1,e2,ho,mq,g2,hc,uB]) hh
     have Cj:ji σ' (some d) (.load t p)=ft [κ,d] [κ,d] false:=by simp only [ji,Bi,hp]
     simp only at this
     rw [Cj] at this
     exact this
    ·cases he
   ·cases he
  |store t p x=>cases hg
  |range t x=>cases hg
  |_=>simp only [gY] at he;cases he
 |lift aJ c σ2 hl hc e he hh=>cases hg
def Av (F G:bg):Prop:=∀κ,F.kl=some κ->G.kl=none/\κ∉G.ur/\κ∉G.vr/\∀t∈F.rs,t∉G.os
def kR (F G:bg):Prop:=F.mj=false/\G.mj=false/\(∀κ∈F.upd,κ∉G.acc)/\(∀κ∈G.upd,κ∉F.acc)/\Av F G/\Av G F
theorem kH {σ:St} {d:Option Nat} {v:AV} {x:Operand} (h:∀e,d=some e->x≠ .tmp e):(σ.put d v).ρ x=σ.ρ x:=by
 cases d with
 |none=>rfl
 |some e=>
  cases x with
  |tmp t=>
   have hne: ¬(e=t/\e <σ.tmps.length):=λ z=>h e rfl (by rw [z.1])
   show (σ.put (some e) v).get t=σ.get t
   rw [St.jd,if_neg hne]
  |_=>rfl
theorem gm (σ:St) (us:List (Nat×Ob)) (x:Operand):(σ.aG us).ρ x=σ.ρ x:=by cases x<;>rfl
theorem sX {all:List Oper} {σ σ':St} {j:Nat} (h:∀o d,all[j]?=some o->o.dst=some d->σ'.get d=σ.get d):dV all σ' j=dV all σ j:=by
 unfold dV
 cases ho:all[j]? with
 |none=>rfl
 |some o=>
  simp only
  cases hd:o.dst with
  |none=>rfl
  |some d=>simp only [h o d ho hd]
theorem jX:∀(us:List (Nat×Ob)) (l m:List (Option Ob)),l.length=m.length->∀κ,κ∈us.map (·.1)->(aU l us).getD κ none=(aU m us).getD κ none
 | [],_,_,_,κ,h=>by cases h
 | (af,o)::us,l,m,hl,κ,h=>by
   show (aU (l.set af (some o)) us).getD κ none=(aU (m.set af (some o)) us).getD κ none
   by_cases g:κ∈us.map (·.1)
   ·exact jX us _ _ (by simpa using hl) κ g
   ·have e:κ=af:=by
     rcases List.mem_cons.1 (show κ∈af::us.map (·.1) from h) with e|e
     ·exact e
     ·exact absurd e g
    subst e
    refine lD us _ _ (by simpa using hl) κ ?_
    rw [bE,bE,hl]
    by_cases c:κ <m.length
    ·rw [if_pos ⟨rfl,c⟩,if_pos ⟨rfl,c⟩]
    ·rw [if_neg (λ z=>c z.2),if_neg (λ z=>c z.2),List.getD_eq_getElem?_getD,List.getD_eq_getElem?_getD,List.getElem?_eq_none (by omega),List.getElem?_eq_none (by omega)]
theorem yl {κ:Nat} {o:Ob} (h:κ∉o.refs):bS κ (some o)=some o:=by
 have:=qy (σ:=⟨[],[some o]⟩) (κ:=κ) 0 (λ o' ho=>by
  have e:some o=some o':=ho
  cases e;exact h)
 simpa [St.kill,St.ob] using this
theorem nV {σ:St} {κ:Nat} {us:List (Nat×Ob)} (hu:∀q∈us.map (·.1),∀o,(σ.aG us).ob q=some o->κ∉o.refs):(σ.aG us).kill κ=(σ.kill κ).aG us:=by
 have e:(aU σ.objs us).map (bS κ)=aU (σ.objs.map (bS κ)) us:=by
  have hl:((aU σ.objs us).map (bS κ)).length=(aU (σ.objs.map (bS κ)) us).length:=by simp [gl]
  refine List.ext_getElem hl λ q h1 h2=> ?_
  have hq:q <(aU σ.objs us).length:=by simpa using h1
  have g1:((aU σ.objs us).map (bS κ)).getD q none=(aU (σ.objs.map (bS κ)) us).getD q none:=by
   have e0:∀l:List (Option Ob),(l.map (bS κ)).getD q none=bS κ (l.getD q none):=λ l=>by
    rw [List.getD_eq_getElem?_getD,List.getD_eq_getElem?_getD,List.getElem?_map]
    cases l[q]?<;>rfl
   rw [e0]
   by_cases c:q∈us.map (·.1)
   ·rw [jX us (σ.objs.map (bS κ)) σ.objs (by simp) q c]
    cases ho:(aU σ.objs us).getD q none with
    |none=>rfl
    |some o=>exact yl (hu q c o ho)
   ·rw [iD us _ q c,iD us _ q c,e0]
  rw [List.getD_eq_getElem?_getD,List.getD_eq_getElem?_getD,List.getElem?_eq_getElem h1,List.getElem?_eq_getElem h2] at g1
  exact g1
 exact congrArg (λ o=>(⟨σ.tmps.map (iP κ),o⟩:St)) e
theorem og {all:List Oper} {o:Oper} {σ σ1:St} {F:bg} (h:fQ T Y E all o σ σ1 F) (hg:F.mj=false):∃(us:List (Nat×Ob)) (v:AV),us.map (·.1)=F.upd/\(∀κ∈F.upd,κ∈F.acc)/\σ1=((σ.bF F.kl).aG us).put o.dst v/\sB σ F.kl F.rs F.upd/\(∀κ∈mL σ o.dst,κ∈F.vr)/\(∀κ∈v.refs,κ∈F.vr)/\(∀t∈o.looksAt all.toArray++ou o.dst,t∈F.os)/\(∀κ∈F.upd,∀o,σ.ob κ=some o\/((σ.bF F.kl).aG us).ob κ=some o->∀r∈o.refs,r∈F.ur)/\
 ∀σ':St,σ'.tmps.length=σ.tmps.length->σ'.objs.length=σ.objs.length->(∀x,(∀t,x=.tmp t->t∈o.looksAt all.toArray)->σ'.ρ x=σ.ρ x)->(∀κ∈F.acc,σ'.ob κ=σ.ob κ)->sB σ' F.kl F.rs F.upd->(∀κ∈mL σ' o.dst,κ∈F.vr)->fQ T Y E all o σ' (((σ'.bF F.kl).aG us).put o.dst v) F:=by
 have yP:∀(σ':St) (j:Nat) (b:Bool),o.guard=some (j,b)->(∀x,(∀t,x=.tmp t->t∈o.looksAt all.toArray)->σ'.ρ x=σ.ρ x)->dV all σ' j=dV all σ j:=λ σ' j b hgd hl=>by
  refine sX λ o' d ho hd=> ?_
  have:=hl (.tmp d) (λ t ht=>by
   cases ht
   unfold Oper.looksAt
   rw [hgd]
   refine List.mem_append_right _ ?_
   simp [ho,hd])
  exact this
 have vI:∀(σ':St),(∀x,(∀t,x=.tmp t->t∈o.looksAt all.toArray)->σ'.ρ x=σ.ρ x)->∀x∈o.op.operands.toList,σ'.ρ x=σ.ρ x:=λ σ' hl x hx=>hl x (λ t ht=>by
  subst ht
  exact List.mem_append_left _ (List.mem_filterMap.2 ⟨.tmp t,hx,rfl⟩))
 cases h with
 |run hgd σ1 v v' F hp hv V S hV hS U hU=>
  obtain ⟨us,h1,h2,rfl,h3,h4⟩:=xE hp hg
  refine ⟨us,v',h1,h2,rfl,h3,hV.1,hV.2,hS,hU,λ σ' k1 k2 k3 k4 k5 k6=>.run ?_ _ v v' F (h4 σ' k1 k2 (vI σ' k3) k4 k5) hv V S ⟨k6,hV.2⟩ hS U (λ κ aa o ho=>hU κ aa o ?_)⟩
  rotate_left
  ·rcases ho with ho|ho
   ·exact .inl (by rw [<-k4 κ (h2 κ aa)];exact ho)
   ·refine .inr ?_
    rw [<-ho]
    refine (jX us _ _ ?_ κ (by rw [h1];exact aa)).symm
    have e1:=(rz σ' F.kl).2
    have e2:=(rz σ F.kl).2
    omega
  rcases hgd with hgd|⟨j,b,hgd,hs⟩
  ·exact .inl hgd
  ·exact .inr ⟨j,b,hgd,by rw [yP σ' j b hgd k3];exact hs⟩
 |skip j b b' hgd hs hne V S hV hS=>
  exact ⟨[],.bO [],rfl,λ κ aa=>(by cases aa),rfl,(λ κ aa=>(by cases aa)),hV,(λ κ aa=>(by cases aa)),hS,(λ κ aa=>(by cases aa)),λ σ' k1 k2 k3 k4 _ k6=>.skip j b b' hgd (by rw [yP σ' j b hgd k3];exact hs) hne V S k6 hS⟩
theorem put_comm {σ:St} {d e:Option Nat} {v u:AV} (h:∀x,d=some x->e≠some x):(σ.put d v).put e u=(σ.put e u).put d v:=by
 cases d with
 |none=>rfl
 |some x=>
  cases e with
  |none=>rfl
  |some y=>
   have:x≠y:=λ g=>h x rfl (by rw [g])
   simp only [St.put]
   rw [List.set_comm _ _ this]
theorem qE {σ:St} {d:Option Nat} {v:AV} {t:Nat} (h:d≠some t):(σ.put d v).get t=σ.get t:=by
 cases d with
 |none=>rfl
 |some d=>rw [St.jd,if_neg (λ z=>h (by rw [z.1]))]
theorem gP {σ:St} {d e:Option Nat} {v:AV} (h:∀x,d=some x->e≠some x):mL (σ.put d v) e=mL σ e:=by
 cases e with
 |none=>rfl
 |some t=>simp only [mL];rw [qE (λ z=>h t z rfl)]
theorem A6 (σ:St):σ.aG []=σ:=rfl
theorem fC (σ:St) (d:Option Nat) (v:AV) (us:List (Nat×Ob)):(σ.put d v).aG us=(σ.aG us).put d v:=by cases d<;>rfl
theorem jg (σ:St) (us:List (Nat×Ob)) (d:Option Nat) (v:AV):((σ.aG us).put d v).tmps.length=σ.tmps.length/\((σ.aG us).put d v).objs.length=σ.objs.length:=by
 cases d<;>simp [St.put,St.aG,gl]
theorem jh (σ:St) (us:List (Nat×Ob)) (d:Option Nat) (v:AV) (κ:Nat) (h:κ∉us.map (·.1)):((σ.aG us).put d v).ob κ=σ.ob κ:=by
 rw [St.pW,cR _ _ _ h]
theorem B2 {o:Oper} {ops:Array Oper} {d:Nat} (h:o.dst=some d):d∈o.looksAt ops++ou o.dst:=by
 rw [h];exact List.mem_append_right _ (List.mem_singleton.2 rfl)
theorem vX {all:List Oper} {oi oj:Oper} {σ qi v7:St} {Fi Fj:bg} (hi:fQ T Y E all oi σ qi Fi) (hj:fQ T Y E all oj qi v7 Fj) (hap:oi.apart all.toArray oj=true) (hd:kR Fi Fj):
 ∃xO,fQ T Y E all oj σ xO Fj/\fQ T Y E all oi xO v7 Fi:=by
 obtain ⟨a1,a2,a3⟩:=Oper.apart_spec hap
 have a4:∀d,oj.dst=some d->oi.dst≠some d:=λ d h h'=>a2 d h' h
 obtain ⟨us,v,u1,u2,rfl,uf,uo,uv,ul,ur,u4⟩:=og hi hd.1
 obtain ⟨ws,y,w1,w2,rfl,wf,wo,wv,wl,wr,w4⟩:=og hj hd.2.1
 cases hki:Fi.kl with
 |some κ=>
  obtain ⟨d1,d2,d3,d4⟩:=hd.2.2.2.2.1 κ hki
  rw [d1] at w4 wr ⊢
  rw [hki] at u4 uf w4 wo wf wr
  simp only [St.bF] at u4 w4 wo wr ⊢
  obtain ⟨f1,f2⟩:=uf κ rfl
  have hno:∀t,t∈oj.looksAt all.toArray++ou oj.dst->κ∉(σ.get t).refs:=λ t ht=>f1 t (λ h=>d4 t h (wl t ht))
  have hl:=jg (σ.kill κ) us oi.dst v
  have jS:(σ.kill κ).tmps.length=σ.tmps.length/\(σ.kill κ).objs.length=σ.objs.length:=by simp [St.kill]
  have hj':=w4 σ (by rw [hl.1,jS.1]) (by rw [hl.2,jS.2]) (λ x hx=>by
   rw [kH (λ e he mB=>a1 e he (hx e mB)),gm,uG (λ t ht=>hno t (List.mem_append_left _ (hx t ht)))]) (λ af aD=>by
   rw [jh _ _ _ _ _ (λ h=>hd.2.2.1 af (u1▸h) aD),qy af (f2 af (λ h=>hd.2.2.1 af h aD))]) (λ _ h=>by cases h) (λ af aD=>wo af (by
   rw [gP a2]
   cases hdj:oj.dst with
   |none=>rw [hdj] at aD;cases aD
   |some d=>
    rw [hdj] at aD
    show af∈((σ.kill κ).get d).refs
    rw [fW,k8 (hno d (by rw [hdj];exact List.mem_append_right _ (List.mem_singleton.2 rfl)))]
    exact aD))
  refine ⟨_,hj', ?_⟩
  have hwk:∀q∈ws.map (·.1),∀o,(σ.aG ws).ob q=some o->κ∉o.refs:=λ q hq o ho hk=>by
   refine d2 (wr q (w1▸hq) o (.inr ?_) κ hk)
   rw [<-ho]
   exact jX ws _ _ (by rw [hl.2,jS.2]) q hq
  have gh:=jg σ ws oj.dst y
  have hi':=u4 ((σ.aG ws).put oj.dst y) gh.1 gh.2 (λ x hx=>by
   rw [kH (λ e he mB=>a3 e he (hx e mB)),gm]) (λ af aD=>jh _ _ _ _ _ (λ h=>hd.2.2.2.1 af (w1▸h) aD)) (λ af aD=>by
   cases aD
   refine ⟨λ t ht=> ?_,λ q hq o ho=> ?_⟩
   case refine_2=>
    rw [St.pW] at ho
    by_cases c:q∈ws.map (·.1)
    ·exact hwk q c o ho
    ·rw [cR _ _ _ c] at ho;exact f2 q hq o ho
   by_cases e:oj.dst=some t
   ·rw [e,St.jd]
    split
    ·exact λ h=>d3 (wv κ h)
    ·exact f1 t ht
   ·rw [qE e];exact f1 t ht) (λ af aD=>uo af (by rw [gP a4] at aD;exact aD))
  have heq:(((((σ.aG ws).put oj.dst y).kill κ).aG us).put oi.dst v)=((((σ.kill κ).aG us).put oi.dst v).aG ws).put oj.dst y:=by
   rw [tq (λ h=>d3 (wv κ h)),nV hwk,fC,fC,put_comm (d:=oj.dst) (e:=oi.dst) a4]
   congr 2
   exact congrArg (λ o=>(⟨(σ.kill κ).tmps,o⟩:St)) (iV ws us (σ.kill κ).objs (λ af aa aD=>hd.2.2.1 af (u1▸aD) (w2 af (w1▸aa))))
  rw [heq] at hi'
  exact hi'
 |none=>
  rw [hki] at u4 uf w4 wo wf wr ur
  simp only [St.bF] at u4 w4 wo wf wr ur ⊢
  cases hkj:Fj.kl with
  |some κ=>
   obtain ⟨d1,d2,d3,d4⟩:=hd.2.2.2.2.2 κ hkj
   rw [hkj] at w4 wf
   simp only [St.bF] at w4 ⊢
   obtain ⟨f1,f2⟩:=wf κ rfl
   have hold:∀q∈us.map (·.1),∀o,σ.ob q=some o->κ∉o.refs:=λ q hq o ho hk=>d2 (ur q (u1▸hq) o (.inl ho) κ hk)
   have hnew:∀q∈us.map (·.1),∀o,(σ.aG us).ob q=some o->κ∉o.refs:=λ q hq o ho hk=>d2 (ur q (u1▸hq) o (.inr ho) κ hk)
   have f2:∀q,q∉Fj.upd->∀o,σ.ob q=some o->κ∉o.refs:=λ q hq o ho=>by
    by_cases c:q∈us.map (·.1)
    ·exact hold q c o ho
    ·exact f2 q hq o (by rw [St.pW,cR _ _ _ c];exact ho)
   have hl:=jg σ us oi.dst v
   have f0:∀t,t∉Fj.rs->κ∉(σ.get t).refs:=λ t ht=>by
    by_cases e:oi.dst=some t
    ·exact λ h=>d3 (uo κ (by rw [e];exact h))
    ·have:=f1 t ht
     rw [qE e] at this;exact this
   have hj':=w4 σ hl.1.symm hl.2.symm (λ x hx=>by rw [kH (λ e he mB=>a1 e he (hx e mB)),gm]) (λ af aD=>(jh σ us oi.dst v af (λ h=>hd.2.2.1 af (u1▸h) aD)).symm) (λ af aD=>by cases aD;exact ⟨f0,f2⟩) (λ af aD=>wo af (by rw [gP a2];exact aD))
   refine ⟨_,hj', ?_⟩
   have hno:∀t,t∈oi.looksAt all.toArray++ou oi.dst->κ∉(σ.get t).refs:=λ t ht=>f0 t (λ h=>d4 t h (ul t ht))
   have gh:=jg (σ.kill κ) ws oj.dst y
   have jS:(σ.kill κ).tmps.length=σ.tmps.length/\(σ.kill κ).objs.length=σ.objs.length:=by simp [St.kill]
   have hi':=u4 (((σ.kill κ).aG ws).put oj.dst y) (by rw [gh.1,jS.1]) (by rw [gh.2,jS.2]) (λ x hx=>by
    rw [kH (λ e he mB=>a3 e he (hx e mB)),gm,uG (λ t ht=>hno t (List.mem_append_left _ (hx t ht)))]) (λ af aD=>by
    rw [jh _ _ _ _ _ (λ h=>hd.2.2.2.1 af (w1▸h) aD),qy af (f2 af (λ h=>hd.2.2.2.1 af h aD))]) (λ _ h=>by cases h) (λ af aD=>uo af (by
    rw [gP a4] at aD
    cases hdi:oi.dst with
    |none=>rw [hdi] at aD;cases aD
    |some d=>
     rw [hdi] at aD
     have aD:af∈((σ.kill κ).get d).refs:=aD
     rw [fW,k8 (hno d (by rw [hdi];exact List.mem_append_right _ (List.mem_singleton.2 rfl)))] at aD
     exact aD))
   have heq:((((σ.kill κ).aG ws).put oj.dst y).aG us).put oi.dst v=((((σ.aG us).put oi.dst v).kill κ).aG ws).put oj.dst y:=by
    rw [tq (λ h=>d3 (uv κ h)),nV hnew,fC,fC,put_comm (d:=oj.dst) (e:=oi.dst) a4]
    congr 2
    exact congrArg (λ o=>(⟨(σ.kill κ).tmps,o⟩:St)) (iV ws us (σ.kill κ).objs (λ af aa aD=>hd.2.2.1 af (u1▸aD) (w2 af (w1▸aa))))
   rw [heq] at hi'
   exact hi'
  |none=>
   rw [hkj] at w4
   simp only [St.bF] at w4 ⊢
   have hl:=jg σ us oi.dst v
   have hj':=w4 σ hl.1.symm hl.2.symm (λ x hx=>by
    rw [kH (λ e he mB=>a1 e he (hx e mB)),gm]) (λ κ aa=>(jh σ us oi.dst v κ (λ h=>hd.2.2.1 κ (u1▸h) aa)).symm) (λ _ h=>by cases h) (λ af aD=>wo af (by rw [gP a2];exact aD))
   refine ⟨_,hj', ?_⟩
   have gh:=jg σ ws oj.dst y
   have hi':=u4 ((σ.aG ws).put oj.dst y) gh.1 gh.2 (λ x hx=>by
    rw [kH (λ e he mB=>a3 e he (hx e mB)),gm]) (λ κ aa=>jh σ ws oj.dst y κ (λ h=>hd.2.2.2.1 κ (w1▸h) aa)) (λ _ h=>by cases h) (λ af aD=>uo af (by rw [gP a4] at aD;exact aD))
   have heq:(((σ.aG ws).put oj.dst y).aG us).put oi.dst v=(((σ.aG us).put oi.dst v).aG ws).put oj.dst y:=by
    rw [fC,fC]
    rw [put_comm (d:=oj.dst) (e:=oi.dst) a4]
    congr 2
    exact congrArg (λ o=>(⟨σ.tmps,o⟩:St)) (iV ws us σ.objs (λ κ aa aD=>hd.2.2.1 κ (u1▸aD) (w2 κ (w1▸aa))))
   rw [heq] at hi'
   exact hi'
end
end Go.Rx
