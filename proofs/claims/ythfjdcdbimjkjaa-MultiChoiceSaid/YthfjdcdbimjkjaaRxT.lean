/- Reflection, part T: regions that draw their order: operations that do not touch each other may change places. -/
import Derived.Test.YthfjdcdbimjkjaaRxS
set_option linter.unusedVariables false
set_option linter.unusedSimpArgs false
set_option linter.unusedSectionVars false
namespace Go.Rx
theorem j0:∀{ns:List (Nat×Ob)} {σ σ':St},σ.cF ns=some σ'->σ'=σ.aF ns/\∀κ∈ns.map (·.1),κ <σ.objs.length
 | [],σ,σ',h=>by simp only [St.cF] at h;cases h;exact ⟨rfl,λ κ aa=>by cases aa⟩
 | (κ,o)::ns,σ,σ',h=>by
   obtain ⟨h1,h2,h3⟩:=dZ h
   obtain ⟨h4,h5⟩:=j0 h3
   refine ⟨h4,λ af aa=> ?_⟩
   rcases List.mem_cons.1 aa with rfl|aa
   ·exact cr h1
   ·have:=h5 af aa
    simpa [St.aK] using this
theorem kJ:∀{ns:List (Nat×Ob)} {σ σ1 σ':St},σ.cF ns=some σ'->σ1.objs.length=σ.objs.length->(∀κ∈ns.map (·.1),σ1.ob κ=σ.ob κ)->σ1.cF ns=some (σ1.aF ns)
 | [],σ,σ1,σ',h,hl,ha=>rfl
 | (κ,o)::ns,σ,σ1,σ',h,hl,ha=>by
   obtain ⟨h1,h2,h3⟩:=dZ h
   have h4:(σ1.aK κ (some o)).cF ns=some ((σ1.aK κ (some o)).aF ns):=by
    refine kJ h3 (by simp [St.aK,hl]) λ af aa=> ?_
    rw [St.aL,St.aL,hl,ha af (by simp only [List.map_cons,List.mem_cons];exact .inr aa)]
   unfold St.cF
   have h5:fC κ σ1.objs.length=true:=by rw [hl];exact h1
   rw [h5,ha κ (by simp),h2]
   exact h4
theorem oh {ob aW:Nat->Option Ob} {c:C} (h:∀κ∈(cN ob c).1,aW κ=ob κ):cN aW c=cN ob c:=by
 cases c with
 |own κ=>
  have:aW κ=ob κ:=h κ (by
   simp only [cN]
   split<;>exact List.mem_singleton.2 rfl)
  simp only [cN,this]
 |_=>rfl
theorem gE {ob aW:Nat->Option Ob}:∀{cs:List C},(∀κ∈(b9 ob cs).1,aW κ=ob κ)->b9 aW cs=b9 ob cs
 | [],_=>rfl
 |c::cs,h=>by
  simp only [b9]
  rw [oh (λ κ aa=>h κ (List.mem_append_left _ aa)),gE (λ κ aa=>h κ (List.mem_append_right _ aa))]
theorem tY {ob aW:Nat->Option Ob} {p:PT} {v:AV} {acc:List Nat} {x:p.2.D} (h:toArg ob p v=some (acc,x)) (ha:∀κ∈acc,aW κ=ob κ):toArg aW p v=some (acc,x):=by
 cases v with
 |bO _=>simp [toArg] at h
 |cp c=>
  simp only [toArg] at h ⊢
  split at h
  ·rename_i cs h1 h2 h3
   split at h
   ·rename_i y hy
    cases h
    rw [gE ha,hy]
   ·cases h
  ·rename_i cs h1 h2 h3
   split at h
   ·rename_i y hy
    cases h
    rw [gE ha,hy]
   ·cases h
  ·cases h
theorem mW {ob aW:Nat->Option Ob} {c:C} (h:∀κ∈(dF ob c).1,aW κ=ob κ):dF aW c=dF ob c:=by
 cases c with
 |mp κ=>
  have e:aW κ=ob κ:=by
   refine h κ ?_
   simp only [dF]
   split<;>exact List.mem_singleton.2 rfl
  simp only [dF,e]
 |own κ=>
  have e:aW κ=ob κ:=by
   refine h κ ?_
   simp only [dF]
   split
   ·exact List.mem_singleton.2 rfl
   ·exact List.mem_singleton.2 rfl
   ·simp only [cN]
    split<;>exact List.mem_singleton.2 rfl
  simp only [dF,cN,e]
 |_=>exact oh h
theorem fU {ob aW:Nat->Option Ob}:∀{cs:List C},(∀κ∈(cg ob cs).1,aW κ=ob κ)->cg aW cs=cg ob cs
 | [],_=>rfl
 |c::cs,h=>by
  simp only [cg]
  rw [mW (λ κ aa=>h κ (List.mem_append_left _ aa)),fU (λ κ aa=>h κ (List.mem_append_right _ aa))]
theorem sF {ob aW:Nat->Option Ob}:∀{e:Ty} {aJ:List Nat} {acc:List Nat} {x:e.D},bI ob e aJ=some (acc,x)->(∀κ∈acc,aW κ=ob κ)->bI aW e aJ=some (acc,x):=λ {e}=>by
 induction e with
 |ptr e _=>
  intro aJ acc x h ha
  match aJ,h with
  | [κ],h=>
    simp only [bI] at h
    split at h
    ·rename_i cs ho
     split at h
     ·rename_i y hy
      cases h
      simp only [bI,ha κ (List.mem_cons_self ..),ho]
      rw [fU (λ κ aa=>ha κ (List.mem_cons_of_mem _ aa)),hy]
     ·cases h
    ·rename_i e' x' ho
     have hk:κ∈acc:=by
      revert h
      cases Ty.dec e' e with
      |isFalse _=>intro h;cases h
      |isTrue he=>intro h;cases h;exact List.mem_cons_self ..
     simp only [bI,ha κ hk,ho]
     exact h
    ·cases h
  | [],h=>simp [bI] at h
  |_::_::_,h=>simp [bI] at h
 |pair a b _ ihb=>
  intro aJ acc x h ha
  cases a with
  |ptr e=>
   match aJ,h with
   |κ::aJ,h=>
    simp only [bI] at h
    split at h
    ·rename_i cs acc' r ho hr
     split at h
     ·rename_i y hy
      cases h
      have hr':=ihb hr (λ κ aa=>ha κ (List.mem_cons_of_mem _ (List.mem_append_right _ aa)))
      simp only [bI,ha κ (List.mem_cons_self ..),ho,hr']
      rw [fU (λ κ aa=>ha κ (List.mem_cons_of_mem _ (List.mem_append_left _ aa))),hy]
     ·cases h
    ·rename_i e' x' acc' r ho hr
     have hk:κ∈acc/\∀af∈acc',af∈acc:=by
      revert h
      cases Ty.dec e' e with
      |isFalse _=>intro h;cases h
      |isTrue he=>intro h;cases h;exact ⟨List.mem_cons_self ..,λ af aa=>List.mem_cons_of_mem _ aa⟩
     have hr':=ihb hr (λ κ aa=>ha κ (hk.2 κ aa))
     simp only [bI,ha κ hk.1,ho,hr']
     exact h
    ·cases h
   | [],h=>simp [bI] at h
  |_=>simp [bI] at h
 |_=>intro aJ acc x h;simp [bI] at h
theorem tB {ob aW:Nat->Option Ob} {e:Ty} {c:Cp} {acc:List Nat} {x:e.D} (h:iz ob e c=some (acc,x)) (ha:∀κ∈acc,aW κ=ob κ):iz aW e c=some (acc,x):=by
 unfold iz at h
 split at h
 ·rename_i e κ
  split at h
  ·rename_i cs ho
   split at h
   ·rename_i y hy
    cases h
    simp only [iz,ha κ (List.mem_cons_self ..),ho]
    rw [fU (λ κ aa=>ha κ (List.mem_cons_of_mem _ aa)),hy]
   ·cases h
  ·cases h
 ·cases h
theorem tc {ob aW:Nat->Option Ob} {e:Ty} {c:Cp} {acc:List Nat} {x:e.D} (h:mapArg ob e c=some (acc,x)) (ha:∀κ∈acc,aW κ=ob κ):mapArg aW e c=some (acc,x):=by
 unfold mapArg at h ⊢
 split at h
 ·rename_i K V κ
  split at h
  ·rename_i K' V' l it ho
   have hk:κ∈acc:=by
    revert h
    cases Ty.dec (.map K' V') (.map K V) with
    |isFalse _=>intro h;cases h
    |isTrue he=>intro h;injection he with e1 e2;subst e1 e2;cases h;exact List.mem_cons_self ..
   simp only [ha κ hk,ho]
   exact h
  ·cases h
 ·rename_i f e g aJ
  split at h
  ·rename_i hg
   obtain ⟨⟨acc',y⟩,hy,e1⟩:=Option.map_eq_some_iff.1 h
   cases e1
   simp only [hg,sF hy ha,Option.map_some]
  ·cases h
 ·rename_i e κ
  split at h
  ·rename_i acc' e' l ho
   have hacc:acc'=acc:=by
    revert h
    cases Ty.dec e' e with
    |isFalse _=>intro h;cases h
    |isTrue he=>intro h;subst he;cases h;rfl
   subst hacc
   rw [mW (λ af aa=>ha af (by rw [ho] at aa;exact aa)),ho]
   exact h
  ·cases h
 ·exact tB h ha
theorem AQ {ob aW:Nat->Option Ob} (h:∀κ,aW κ=ob κ):aW=ob:=funext h
theorem tK {ob aW:Nat->Option Ob} {p:PT} {v:AV} {acc:List Nat} {x:p.2.D} (h:kE ob p v=some (acc,x)) (ha:∀κ∈acc,aW κ=ob κ):kE aW p v=some (acc,x):=by
 unfold kE at h ⊢
 split at h
 ·rename_i r hr
  cases h
  rw [tY hr ha]
 ·rename_i hn0
  split at h
  ·rename_i c hp1
   have hn:toArg aW p (.cp c)=none:=by
    obtain ⟨p1,p2⟩:=p
    simp only at hp1 h x
    subst hp1
    unfold mapArg at h
    split at h
    ·simp only [toArg,gM,bU,b9,cN,Ty.of]
    ·simp only [toArg,gM,bU,b9,cN,Ty.of]
    ·rename_i e κ _
     have e1:aW κ=ob κ:=by
      refine ha κ ?_
      revert h
      split
      ·rename_i acc' e' l ho
       cases Ty.dec e' e with
       |isFalse _=>intro h;cases h
       |isTrue he=>
        intro h;subst he;cases h
        have:=congrArg Prod.fst ho
        simp only at this
        rw [<-this]
        simp only [dF]
        split
        ·exact List.mem_singleton.2 rfl
        ·exact List.mem_singleton.2 rfl
        ·simp only [cN]
         split<;>exact List.mem_singleton.2 rfl
      ·intro h;cases h
     simp only [toArg,gM,bU,b9,cN,e1] at hn0 ⊢
     exact hn0
    ·unfold iz at h
     split at h
     ·simp only [toArg,gM,bU,b9,cN,Ty.of]
     ·cases h
   rw [hn]
   simp only [hp1]
   exact tc h ha
  ·cases h
theorem s7 {ob aW:Nat->Option Ob} {acc:List Nat} (ha:∀κ∈acc,aW κ=ob κ):acc.all (eW aW)=acc.all (eW ob):=by
 induction acc with
 |nil=>rfl
 |cons κ r ih=>
  simp only [List.all_cons]
  rw [ih (λ af aa=>ha af (List.mem_cons_of_mem _ aa))]
  unfold eW
  rw [ha κ (List.mem_cons_self ..)]
theorem jF {ob aW:Nat->Option Ob}:∀{sig:List PT} {vs:List AV} {acc:List Nat} {xs:DL sig},dX ob sig vs=some (acc,xs)->(∀κ∈acc,aW κ=ob κ)->dX aW sig vs=some (acc,xs)
 | [],[],_,_,h,_=>h
 |p::sig,v::vs,acc,xs,h,ha=>by
  simp only [dX] at h ⊢
  split at h
  ·rename_i k1 x k2 ys h1 h2
   cases h
   rw [tK h1 (λ κ aa=>ha κ (List.mem_append_left _ aa)),jF h2 (λ κ aa=>ha κ (List.mem_append_right _ aa))]
  ·cases h
 | [],_::_,_,_,h,_=>by simp [dX] at h
 |_::_,[],_,_,h,_=>by simp [dX] at h
section
variable {T:bh} {Y:dY} {E:Env}
theorem sE {σ σ':St} {op:Op} {f:FuncId} {aR:oL} {args:List AV} (h:fI E σ op=some (f,aR,args)) (hρ:∀x∈op.operands.toList,σ'.ρ x=σ.ρ x):fI E σ' op=some (f,aR,args):=by
 cases op with
 |call c=>
  obtain ⟨callee,dh,at_⟩:=c
  cases callee with
  |value x=>
   simp only [fI] at h ⊢
   rw [hρ x (by simp [Op.operands,Call.operands]),List.map_congr_left (λ y hy=>hρ y (by simp [Op.operands,Call.operands];exact .inr (by simpa using hy)))]
   exact h
  |_=>simp only [fI] at h;cases h
 |_=>simp only [fI] at h;cases h
theorem rI {σ σ':St} {op:Op} {f:FuncId} {aR:kG} {κ:Nat} {args:List AV} (h:eG E σ op=some (f,aR,κ,args)) (hρ:∀x∈op.operands.toList,σ'.ρ x=σ.ρ x):eG E σ' op=some (f,aR,κ,args):=by
 cases op with
 |call c=>
  obtain ⟨callee,dh,at_⟩:=c
  cases callee with
  |value x=>
   simp only [eG] at h ⊢
   rw [hρ x (by simp [Op.operands,Call.operands]),List.map_congr_left (λ y hy=>hρ y (by simp [Op.operands,Call.operands];exact .inr (by simpa using hy)))]
   exact h
  |_=>simp only [eG] at h;cases h
 |_=>simp only [eG] at h;cases h
theorem lB:∀(us:List (Nat×Ob)) (l m:List (Option Ob)),l.length=m.length->∀κ,l.getD κ none=m.getD κ none->(aU l us).getD κ none=(aU m us).getD κ none
 | [],l,m,_,κ,h=>h
 | (af,o)::us,l,m,hl,κ,h=>by
   show (aU (l.set af (some o)) us).getD κ none=(aU (m.set af (some o)) us).getD κ none
   refine lB us _ _ (by simpa using hl) κ ?_
   rw [bE,bE,hl,h]
theorem j7 {ob aW:Nat->Option Ob}:∀{ks:List Nat} {fs:List LF} {cs:List C} {x:nL fs},cM ob ks fs cs=some ([],x)->cM aW ks fs cs=some ([],x)
 |ks,[],[],x,h=>by simpa [cM] using h
 |ks,[],_::_,x,h=>by simp [cM] at h
 |ks,.d τ::r,cs,x,h=>by
  simp only [cM] at h ⊢
  split at h
  ·rename_i x1 a1 y1 h1 h2
   have q1:(b9 ob (cs.take τ.n)).1++a1=[]:=congrArg (λ z=>z.1) (Option.some.inj h)
   have q2:((x1,y1):nL (.d τ::r))=x:=congrArg (λ z=>z.2) (Option.some.inj h)
   obtain ⟨q3,rfl⟩:=List.append_eq_nil_iff.1 q1
   have e:=gE (ob:=ob) (aW:=aW) (cs:=cs.take τ.n) (λ κ aa=>by rw [q3] at aa;cases aa)
   rw [e,h1,j7 h2, <-q2,q3]
   rfl
  ·cases h
 |k::ks,.o::r,c::cs,x,h=>by
  cases c with
  |own κ=>
   simp only [cM] at h ⊢
   split at h
   ·exact j7 (fs:=r) h
   ·cases h
  |_=>simp [cM] at h
 | [],.o::r,_,x,h=>by simp [cM] at h
 |_::_,.o::r,[],x,h=>by simp [cM] at h
theorem tX {ob aW:Nat->Option Ob} {ks:List Nat} {κ:Nat} {o:LO} {x:o.D} (h:dR ob ks κ o=some ([],x)) (ha:aW κ=ob κ):dR aW ks κ o=some ([],x):=by
 cases o with
 |box fs=>
  cases ho:ob κ with
  |none=>simp only [dR,ho] at h;exact absurd h (by simp)
  |some o1=>
   cases o1 with
   |box cs=>simp only [dR,ha,ho] at h ⊢; exact j7 h
   |_=>simp only [dR,ho] at h;exact absurd h (by simp)
 |row e=>simp only [dR,ha] at h ⊢; exact h
 |rows e=>simp only [dR,ha] at h ⊢; exact h
 |map K V=>simp only [dR,ha] at h ⊢; exact h
theorem og {ob aW:Nat->Option Ob} {ks:List Nat}:∀{aJ:List Nat} {ls:List LO} {x:cu ls},cE ob ks aJ ls=some ([],x)->(∀κ∈aJ,aW κ=ob κ)->cE aW ks aJ ls=some ([],x)
 | [],[],x,h,_=>h
 |κ::aJ,o::ls,x,h,ha=>by
  simp only [cE] at h ⊢
  split at h
  ·rename_i a x1 b y1 h1 h2
   have q1:a++b=[]:=congrArg (λ z=>z.1) (Option.some.inj h)
   have q2:((x1,y1):cu (o::ls))=x:=congrArg (λ z=>z.2) (Option.some.inj h)
   obtain ⟨rfl,rfl⟩:=List.append_eq_nil_iff.1 q1
   rw [tX h1 (ha κ (List.mem_cons_self ..)),og h2 (λ af aa=>ha af (List.mem_cons_of_mem _ aa)), <-q2]
   rfl
  ·cases h
 | [],_::_,_,h,_=>by simp [cE] at h
 |_::_,[],_,h,_=>by simp [cE] at h
theorem Ao (σ:St) (κ:Nat) (o:Ob) (us:List (Nat×Ob)):(σ.aK κ (some o)).aF us=σ.aF ((κ,o)::us):=rfl
theorem kY {κ:Nat} {v:AV} (h:κ∉v.refs):iN κ v=v:=by
 have hc:∀c:C,κ∉c.refs->fS κ c=c:=λ c hc=>by
  unfold fS
  rw [if_neg (by simpa using hc)]
 have hp:∀x:Cp,κ∉x.refs->iu κ x=x:=λ x hx=>by
  cases x with
  |one c=>simp only [iu];rw [hc c hx]
  |agg cs=>
   simp only [iu]
   congr 1
   exact (List.map_congr_left λ c zD=>hc c (λ z=>hx (List.mem_flatMap.2 ⟨c,zD,z⟩))).trans (List.map_id' cs)
 cases v with
 |cp x=>simp only [iN];rw [hp x h]
 |bO vs=>
  simp only [iN]
  congr 1
  exact (List.map_congr_left λ x hx=>hp x (λ z=>h (List.mem_flatMap.2 ⟨x,hx,z⟩))).trans (List.map_id' vs)
theorem qt {σ:St} {κ:Nat} (af:Nat) (h:∀o,σ.ob af=some o->κ∉o.refs):(σ.kill κ).ob af=σ.ob af:=by
 rw [dx]
 cases ho:σ.ob af with
 |none=>rfl
 |some o=>
  have hn:=h o ho
  cases o with
  |box cs=>
   simp only [bR]
   congr 2
   refine (List.map_congr_left λ c hc=> ?_).trans (List.map_id' cs)
   unfold fS
   rw [if_neg]
   intro z
   exact hn (List.mem_flatMap.2 ⟨c,hc,by simpa using z⟩)
  |map K V l it=>
   cases it with
   |none=>rfl
   |some p=>
    obtain ⟨d,L⟩:=p
    have hd:d.beq κ=false:=by
     cases hb:d.beq κ with
     |false=>rfl
     |true=>
      have:=Nat.eq_of_beq_eq_true hb
      subst this
      exact absurd (List.mem_singleton.2 rfl) hn
    simp only [bR,hd]
  |_=>rfl
theorem x7 {κ:Nat} {o:Option Ob} (h:o≠none):bR κ o≠none:=by
 cases o with
 |none=>exact absurd rfl h
 |some o=>
  cases o with
  |map K V l it=>
   cases it with
   |none=>simp [bR]
   |some p=>
    simp only [bR]
    split<;>simp
  |_=>simp [bR]
theorem tJ (g:Nat->Ob):∀(B:List Nat) (l:List (Option Ob)),(∀q∈B,l.getD q none=some (g q))->aU l (B.map λ q=>(q,g q))=l
 | [],_,_=>rfl
 |q::B,l,h=>by
  have hq:=h q (List.mem_cons_self ..)
  have e:l.set q (some (g q))=l:=by
   rcases Nat.lt_or_ge q l.length with c|c
   ·rw [List.getD_eq_getElem?_getD,List.getElem?_eq_getElem c] at hq
    have hq:l[q]=some (g q):=hq
    rw [<-hq];exact List.set_getElem_self c
   ·exact List.set_eq_of_length_le c
  show aU (l.set q (some (g q))) (B.map λ q=>(q,g q))=l
  rw [e]
  exact tJ g B l (λ q' uu=>h q' (List.mem_cons_of_mem _ uu))
theorem uy {σ:St} {κ:Nat} {x:Operand} (h:∀t,x=.tmp t->κ∉(σ.get t).refs):(σ.kill κ).ρ x=σ.ρ x:=by
 cases x with
 |tmp t=>exact (fW κ t).trans (kY (h t rfl))
 |_=>rfl
theorem s9 {σ:St} {κ:Nat} {d:Option Nat} {v:AV} (h:κ∉v.refs):(σ.put d v).kill κ=(σ.kill κ).put d v:=by
 cases d with
 |none=>rfl
 |some d=>simp only [St.put,St.kill,List.map_set,kY h]
theorem q9 (σ:St) (kl:Option Nat):(σ.bG kl).tmps.length=σ.tmps.length/\(σ.bG kl).objs.length=σ.objs.length:=by
 cases kl with
 |none=>exact ⟨rfl,rfl⟩
 |some κ=>simp [St.bG,St.kill]
theorem xq {o:Oper} {σ σ1:St} {v:AV} {F:bg} (h:Pre T Y E o σ σ1 v F) (hg:F.mg=false):∃us:List (Nat×Ob),us.map (·.1)=F.upd/\(∀κ∈F.upd,κ∈F.acc)/\σ1=(σ.bG F.kl).aF us/\sr σ F.kl F.rs F.upd/\
 ∀σ':St,σ'.tmps.length=σ.tmps.length->σ'.objs.length=σ.objs.length->(∀x∈o.op.operands.toList,σ'.ρ x=σ.ρ x)->(∀κ∈F.acc,σ'.ob κ=σ.ob κ)->sr σ' F.kl F.rs F.upd->Pre T Y E o σ' ((σ'.bG F.kl).aF us) v F:=by
 cases h with
 |val out ho hh=>exact ⟨[],rfl,(λ κ aa=>(by cases aa)),rfl,(λ κ aa=>(by cases aa)),λ σ' _ _ h3 h4 _=>.val out (wE ho h3 h4) hh⟩
 |ec e he hh g S B hg0=>
  obtain ⟨hfree,hB⟩:=hg0 hg
  have BF:=(qQ (σ':=σ) rfl he (λ _ _=>rfl) (λ _ _=>rfl)).2 trivial
  have zH:∀τ:St,(∀q∈B,τ.ob q=σ.ob q)->τ.dS e=(τ.bG e.kill).aF ((B.map λ q=>(q,((σ.bG e.kill).ob q).getD (.box [])))++(match e.upd with|some p=>[p] |none=>[])):=λ τ A9=>by
   have e1:τ.dS e=(τ.bG e.kill).aF (match e.upd with|some p=>[p] |none=>[]):=by
    unfold St.dS St.bG
    cases e.kill<;>cases e.upd<;>rfl
   have hk:∀q∈B,(τ.bG e.kill).ob q=some (((σ.bG e.kill).ob q).getD (.box [])):=λ q hq=>by
    have h1:(τ.bG e.kill).ob q=(σ.bG e.kill).ob q:=by
     unfold St.bG
     cases e.kill with
     |none=>exact A9 q hq
     |some κ=>simp only [dx,A9 q hq]
    have h2:(σ.bG e.kill).ob q≠none:=by
     unfold St.bG
     cases e.kill with
     |none=>exact hB q hq
     |some κ=>simp only [dx];exact x7 (hB q hq)
    rw [h1]
    cases ho:(σ.bG e.kill).ob q with
    |none=>exact absurd ho h2
    |some o=>rfl
   rw [e1]
   unfold St.aF
   congr 1
   have:=tJ (λ q=>((σ.bG e.kill).ob q).getD (.box [])) B (τ.bG e.kill).objs hk
   unfold aU at this ⊢
   rw [List.foldl_append,this]
  refine ⟨(B.map λ q=>(q,((σ.bG e.kill).ob q).getD (.box [])))++(match e.upd with|some p=>[p] |none=>[]), ?_,λ κ aa=> ?_,zH σ (λ _ _=>rfl),hfree,λ σ' _ h2 h3 h4 h5=> ?_⟩
  ·rw [List.map_append,List.map_map]
   congr 1
   ·exact List.map_id' B
   ·cases e.upd<;>rfl
  ·rcases List.mem_append.1 aa with aa|aa
   ·exact List.mem_append_left _ aa
   ·exact List.mem_append_right _ (BF κ aa).1
  ·have AU:∀q∈B,σ'.ob q=σ.ob q:=λ q hq=>h4 q (List.mem_append_left _ hq)
   have:=Pre.ec (E:=E) (o:=o) (σ:=σ') e (qQ h2 he h3 (λ κ aa=>h4 κ (List.mem_append_right _ aa))).1 hh g S B (λ _=>⟨h5,λ q hq=>by rw [AU q hq];exact hB q hq⟩)
   rw [zH σ' AU] at this
   exact this
 |call f aR args acc σ1' σ2 xs r v ns hc hpre hfn hpost=>
  have vA:dX σ.ob aR.sig args=some (acc,xs)/\σ1'=jM aR.rs acc σ/\(acc.all (eW σ.ob) || aR.rs.all RT.bT)=true:=by
   unfold iX at hpre
   split at hpre
   ·rename_i CS Dc h1
    split at hpre
    ·rename_i h2;cases hpre;exact ⟨h1,rfl,h2⟩
    ·cases hpre
   ·cases hpre
  have wY:∀τ:St,jM aR.rs acc τ=τ:=λ τ=>by
   cases acc with
   |nil=>rfl
   |cons a l=>
    have:aR.rs.all RT.bT=true:=by simpa using hg
    simp only [jM,this]
  have h1:σ1'=σ:=by rw [vA.2.1,wY]
  subst h1
  unfold gG at hpost
  split at hpost
  ·rename_i cs CF hr
   split at hpost
   ·rename_i σ3 ha
    cases hpost
    obtain ⟨k1,k2⟩:=j0 ha
    refine ⟨ns,rfl,λ κ aa=>List.mem_append_right _ aa,k1,(λ κ aa=>(by cases aa)),λ σ' g1 g2 g3 g4 _=> ?_⟩
    refine .call f aR args acc σ' _ xs r _ ns (sE hc g3) ?_ hfn ?_
    ·unfold iX
     rw [jF vA.1 (λ κ aa=>g4 κ (List.mem_append_left _ aa))]
     simp only [wY,s7 (λ κ aa=>g4 κ (List.mem_append_left _ aa)),vA.2.2]
    ·unfold gG
     rw [g1,hr]
     simp only
     rw [kJ ha g2 (λ κ aa=>g4 κ (List.mem_append_right _ aa))]
     rfl
   ·cases hpost
  ·cases hpost
 |rR f aR κ args acc ks σ2 x0 xs y r v ns hc hpre hfn hpost=>
  have hg2:acc=[]/\aR.aT=true:=by
   cases acc with
   |nil=>exact ⟨rfl,by simpa using hg⟩
   |cons _ _=>simp at hg
  obtain ⟨hacc,qq⟩:=hg2
  subst hacc
  simp only [bC] at hpost
  have hlen:(κ::ks).length=aR.ls.length/\bV σ.ob κ aR.ls=ks:=by
   unfold gH at hpre
   split at hpre
   ·rename_i k1 x1 k2 xC q1 q2
    split at hpre
    ·obtain ⟨_,q4,_⟩:k1++k2=[]/\bV σ.ob κ aR.ls=ks/\x1=x0/\xC=xs:=by simpa using hpre
     exact ⟨q4▸iE q1,q4⟩
    ·cases hpre
   ·cases hpre
  have hlo:loose aR.aT aR.ls κ ks=[]:=by rw [qq];rfl
  unfold gd at hpost
  rw [hlo] at hpost
  split at hpost
  ·rename_i cs CF hr _
   simp only [bS] at hpost
   split at hpost
   ·rename_i σ3 ha
    cases hpost
    obtain ⟨k1,k2⟩:=j0 ha
    refine ⟨aX ks (κ::ks) aR.ls y++ns,by rw [List.map_append,gj y hlen.1];rfl,λ af aa=>by
     simp only [List.mem_cons,List.mem_append,List.nil_append] at aa ⊢; exact aa,by rw [k1];simp only [St.bG,St.aF,aU,List.foldl_append],(λ κ aa=>(by cases aa)),λ σ' g1 g2 g3 g4 _=> ?_⟩
    refine .rR f aR κ args [] ks _ x0 xs y r _ ns (rI hc g3) ?_ hfn ?_
    ·unfold gH at hpre ⊢
     have hrow:bV σ'.ob κ aR.ls=bV σ.ob κ aR.ls:=by
      unfold bV
      rw [g4 κ (by simp)]
     rw [hrow]
     split at hpre
     ·rename_i k1 x1 k2 xC q1 q2
      split at hpre
      ·rename_i q6
       obtain ⟨q3,q4,q5,q7⟩:k1++k2=[]/\bV σ.ob κ aR.ls=ks/\x1=x0/\xC=xs:=by simpa using hpre
       obtain ⟨rfl,rfl⟩:=List.append_eq_nil_iff.1 q3
       subst q5 q7
       rw [og q1 (λ ah bq=>g4 ah (by
        rw [q4] at bq
        rcases List.mem_cons.1 bq with e|e
        ·rw [e];exact List.mem_cons_self ..
        ·exact List.mem_cons_of_mem _ (List.mem_append_left _ e))),jF q2 (λ κ aa=>by cases aa)]
       simp only
       rw [show ([]:List Nat).all (eW σ'.ob)=([]:List Nat).all (eW σ.ob) from rfl,q6,q4]
       rfl
      ·cases hpre
     ·cases hpre
    ·unfold gd
     rw [hlo]
     simp only [bC,bS,List.all_nil]
     rw [g1,hr]
     simp only
     rw [kJ ha (by simp [St.aF,gl,g2]) (λ af aa=> ?_)]
     ·simp only [St.bG,St.aF,aU,List.foldl_append]
     ·by_cases g:af∈(aX ks (κ::ks) aR.ls y).map (·.1)
      ·obtain ⟨⟨q1,q2⟩,q3,q4⟩:=List.mem_map.1 g
       simp only at q4
       subst q4
       show (aU σ'.objs _).getD q1 none=(aU σ.objs _).getD q1 none
       exact lB (aX ks (κ::ks) aR.ls y) σ'.objs σ.objs g2 q1 (g4 q1 (by simp only [List.mem_cons,List.mem_append];exact .inr (.inr (.inr aa))))
      ·rw [cQ _ _ _ g,cQ _ _ _ g]
       exact g4 af (by simp only [List.mem_cons,List.mem_append];exact .inr (.inr (.inr aa)))
   ·cases hpost
  ·cases hpost
 |bJ aJ e he hh=>cases hg
 |row cs σ2 v he hh=>
  obtain ⟨dst,op,ty,pos,after,guard⟩:=o
  simp only at he hg ⊢
  cases op with
  |load t p=>
   have C3:=he
   simp only [gW] at he
   split at he
   ·rename_i κ sz j off d i hp hi
    split at he
    ·rename_i yu e ll tt mm xs hd ho mj hc
     split at he
     case h_2=>cases he
     rename_i uk
     cases he
     have hF:jg σ (some d) (.load t p)=ft [κ,d] [κ,d] false:=by simp only [jg,hp]
     rw [hF]
     refine ⟨[(κ,.rows e ll (some j) tt mm xs),(d,.vec e (ll.getD j []))],rfl,λ _ h=>h,rfl,(λ κ aa=>(by cases aa)),λ σ' g1 g2 g3 g4 _=> ?_⟩
     have A1:σ'.ρ p=σ.ρ p:=g3 p (by simp [Op.operands])
     have e1:σ'.ob κ=σ.ob κ:=g4 κ (by simp)
     have e2:σ'.ob d=σ.ob d:=g4 d (by simp)
     have:=Pre.row (T:=T) (Y:=Y) (E:=E) (o:=⟨some d,.load t p,ty,pos,after,guard⟩) (σ:=σ') [] ((σ'.aK κ (some (.rows e ll (some j) tt mm xs))).aK d (some (.vec e (ll.getD j [])))) (aN (.own d)) (by
      simp only [gW,A1,hp,hi,hd,e1,e2,ho,mj,g2,hc,uk]) hh
     have B2:jg σ' (some d) (.load t p)=ft [κ,d] [κ,d] false:=by simp only [jg,A1,hp]
     simp only at this
     rw [B2] at this
     exact this
    ·cases he
   ·cases he
  |store t p x=>cases hg
  |range t x=>cases hg
  |_=>simp only [gW] at he;cases he
 |lift aJ c σ2 hl hc e he hh=>cases hg
def Ag (F G:bg):Prop:=∀κ,F.kl=some κ->G.kl=none/\κ∉G.ur/\κ∉G.vr/\∀t∈F.rs,t∉G.os
def kP (F G:bg):Prop:=F.mg=false/\G.mg=false/\(∀κ∈F.upd,κ∉G.acc)/\(∀κ∈G.upd,κ∉F.acc)/\Ag F G/\Ag G F
theorem kF {σ:St} {d:Option Nat} {v:AV} {x:Operand} (h:∀e,d=some e->x≠ .tmp e):(σ.put d v).ρ x=σ.ρ x:=by
 cases d with
 |none=>rfl
 |some e=>
  cases x with
  |tmp t=>
   have hne: ¬(e=t/\e <σ.tmps.length):=λ z=>h e rfl (by rw [z.1])
   show (σ.put (some e) v).get t=σ.get t
   rw [St.iZ,if_neg hne]
  |_=>rfl
theorem gm (σ:St) (us:List (Nat×Ob)) (x:Operand):(σ.aF us).ρ x=σ.ρ x:=by cases x<;>rfl
theorem sQ {all:List Oper} {σ σ':St} {j:Nat} (h:∀o d,all[j]?=some o->o.dst=some d->σ'.get d=σ.get d):dU all σ' j=dU all σ j:=by
 unfold dU
 cases ho:all[j]? with
 |none=>rfl
 |some o=>
  simp only
  cases hd:o.dst with
  |none=>rfl
  |some d=>simp only [h o d ho hd]
theorem jV:∀(us:List (Nat×Ob)) (l m:List (Option Ob)),l.length=m.length->∀κ,κ∈us.map (·.1)->(aU l us).getD κ none=(aU m us).getD κ none
 | [],_,_,_,κ,h=>by cases h
 | (af,o)::us,l,m,hl,κ,h=>by
   show (aU (l.set af (some o)) us).getD κ none=(aU (m.set af (some o)) us).getD κ none
   by_cases g:κ∈us.map (·.1)
   ·exact jV us _ _ (by simpa using hl) κ g
   ·have e:κ=af:=by
     rcases List.mem_cons.1 (show κ∈af::us.map (·.1) from h) with e|e
     ·exact e
     ·exact absurd e g
    subst e
    refine lB us _ _ (by simpa using hl) κ ?_
    rw [bE,bE,hl]
    by_cases c:κ <m.length
    ·rw [if_pos ⟨rfl,c⟩,if_pos ⟨rfl,c⟩]
    ·rw [if_neg (λ z=>c z.2),if_neg (λ z=>c z.2),List.getD_eq_getElem?_getD,List.getD_eq_getElem?_getD,List.getElem?_eq_none (by omega),List.getElem?_eq_none (by omega)]
theorem x6 {κ:Nat} {o:Ob} (h:κ∉o.refs):bR κ (some o)=some o:=by
 have:=qt (σ:=⟨[],[some o]⟩) (κ:=κ) 0 (λ o' ho=>by
  have e:some o=some o':=ho
  cases e;exact h)
 simpa [St.kill,St.ob] using this
theorem nT {σ:St} {κ:Nat} {us:List (Nat×Ob)} (hu:∀q∈us.map (·.1),∀o,(σ.aF us).ob q=some o->κ∉o.refs):(σ.aF us).kill κ=(σ.kill κ).aF us:=by
 have e:(aU σ.objs us).map (bR κ)=aU (σ.objs.map (bR κ)) us:=by
  have hl:((aU σ.objs us).map (bR κ)).length=(aU (σ.objs.map (bR κ)) us).length:=by simp [gl]
  refine List.ext_getElem hl λ q h1 h2=> ?_
  have hq:q <(aU σ.objs us).length:=by simpa using h1
  have g1:((aU σ.objs us).map (bR κ)).getD q none=(aU (σ.objs.map (bR κ)) us).getD q none:=by
   have e0:∀l:List (Option Ob),(l.map (bR κ)).getD q none=bR κ (l.getD q none):=λ l=>by
    rw [List.getD_eq_getElem?_getD,List.getD_eq_getElem?_getD,List.getElem?_map]
    cases l[q]?<;>rfl
   rw [e0]
   by_cases c:q∈us.map (·.1)
   ·rw [jV us (σ.objs.map (bR κ)) σ.objs (by simp) q c]
    cases ho:(aU σ.objs us).getD q none with
    |none=>rfl
    |some o=>exact x6 (hu q c o ho)
   ·rw [iC us _ q c,iC us _ q c,e0]
  rw [List.getD_eq_getElem?_getD,List.getD_eq_getElem?_getD,List.getElem?_eq_getElem h1,List.getElem?_eq_getElem h2] at g1
  exact g1
 exact congrArg (λ o=>(⟨σ.tmps.map (iN κ),o⟩:St)) e
theorem oa {all:List Oper} {o:Oper} {σ σ1:St} {F:bg} (h:fP T Y E all o σ σ1 F) (hg:F.mg=false):∃(us:List (Nat×Ob)) (v:AV),us.map (·.1)=F.upd/\(∀κ∈F.upd,κ∈F.acc)/\σ1=((σ.bG F.kl).aF us).put o.dst v/\sr σ F.kl F.rs F.upd/\(∀κ∈mJ σ o.dst,κ∈F.vr)/\(∀κ∈v.refs,κ∈F.vr)/\(∀t∈o.looksAt all.toArray++oq o.dst,t∈F.os)/\(∀κ∈F.upd,∀o,σ.ob κ=some o\/((σ.bG F.kl).aF us).ob κ=some o->∀r∈o.refs,r∈F.ur)/\
 ∀σ':St,σ'.tmps.length=σ.tmps.length->σ'.objs.length=σ.objs.length->(∀x,(∀t,x=.tmp t->t∈o.looksAt all.toArray)->σ'.ρ x=σ.ρ x)->(∀κ∈F.acc,σ'.ob κ=σ.ob κ)->sr σ' F.kl F.rs F.upd->(∀κ∈mJ σ' o.dst,κ∈F.vr)->fP T Y E all o σ' (((σ'.bG F.kl).aF us).put o.dst v) F:=by
 have yE:∀(σ':St) (j:Nat) (b:Bool),o.guard=some (j,b)->(∀x,(∀t,x=.tmp t->t∈o.looksAt all.toArray)->σ'.ρ x=σ.ρ x)->dU all σ' j=dU all σ j:=λ σ' j b hgd hl=>by
  refine sQ λ o' d ho hd=> ?_
  have:=hl (.tmp d) (λ t ht=>by
   cases ht
   unfold Oper.looksAt
   rw [hgd]
   refine List.mem_append_right _ ?_
   simp [ho,hd])
  exact this
 have vw:∀(σ':St),(∀x,(∀t,x=.tmp t->t∈o.looksAt all.toArray)->σ'.ρ x=σ.ρ x)->∀x∈o.op.operands.toList,σ'.ρ x=σ.ρ x:=λ σ' hl x hx=>hl x (λ t ht=>by
  subst ht
  exact List.mem_append_left _ (List.mem_filterMap.2 ⟨.tmp t,hx,rfl⟩))
 cases h with
 |run hgd σ1 v v' F hp hv V S hV hS U hU=>
  obtain ⟨us,h1,h2,rfl,h3,h4⟩:=xq hp hg
  refine ⟨us,v',h1,h2,rfl,h3,hV.1,hV.2,hS,hU,λ σ' k1 k2 k3 k4 k5 k6=>.run ?_ _ v v' F (h4 σ' k1 k2 (vw σ' k3) k4 k5) hv V S ⟨k6,hV.2⟩ hS U (λ κ aa o ho=>hU κ aa o ?_)⟩
  rotate_left
  ·rcases ho with ho|ho
   ·exact .inl (by rw [<-k4 κ (h2 κ aa)];exact ho)
   ·refine .inr ?_
    rw [<-ho]
    refine (jV us _ _ ?_ κ (by rw [h1];exact aa)).symm
    have e1:=(q9 σ' F.kl).2
    have e2:=(q9 σ F.kl).2
    omega
  rcases hgd with hgd|⟨j,b,hgd,hs⟩
  ·exact .inl hgd
  ·exact .inr ⟨j,b,hgd,by rw [yE σ' j b hgd k3];exact hs⟩
 |skip j b b' hgd hs hne V S hV hS=>
  exact ⟨[],.bO [],rfl,λ κ aa=>(by cases aa),rfl,(λ κ aa=>(by cases aa)),hV,(λ κ aa=>(by cases aa)),hS,(λ κ aa=>(by cases aa)),λ σ' k1 k2 k3 k4 _ k6=>.skip j b b' hgd (by rw [yE σ' j b hgd k3];exact hs) hne V S k6 hS⟩
theorem put_comm {σ:St} {d e:Option Nat} {v u:AV} (h:∀x,d=some x->e≠some x):(σ.put d v).put e u=(σ.put e u).put d v:=by
 cases d with
 |none=>rfl
 |some x=>
  cases e with
  |none=>rfl
  |some y=>
   have:x≠y:=λ g=>h x rfl (by rw [g])
   simp only [St.put]
   rw [List.set_comm _ _ this]
theorem qz {σ:St} {d:Option Nat} {v:AV} {t:Nat} (h:d≠some t):(σ.put d v).get t=σ.get t:=by
 cases d with
 |none=>rfl
 |some d=>rw [St.iZ,if_neg (λ z=>h (by rw [z.1]))]
theorem gN {σ:St} {d e:Option Nat} {v:AV} (h:∀x,d=some x->e≠some x):mJ (σ.put d v) e=mJ σ e:=by
 cases e with
 |none=>rfl
 |some t=>simp only [mJ];rw [qz (λ z=>h t z rfl)]
theorem AP (σ:St):σ.aF []=σ:=rfl
theorem fA (σ:St) (d:Option Nat) (v:AV) (us:List (Nat×Ob)):(σ.put d v).aF us=(σ.aF us).put d v:=by cases d<;>rfl
theorem je (σ:St) (us:List (Nat×Ob)) (d:Option Nat) (v:AV):((σ.aF us).put d v).tmps.length=σ.tmps.length/\((σ.aF us).put d v).objs.length=σ.objs.length:=by
 cases d<;>simp [St.put,St.aF,gl]
theorem jf (σ:St) (us:List (Nat×Ob)) (d:Option Nat) (v:AV) (κ:Nat) (h:κ∉us.map (·.1)):((σ.aF us).put d v).ob κ=σ.ob κ:=by
 rw [St.pS,cQ _ _ _ h]
theorem BK {o:Oper} {ops:Array Oper} {d:Nat} (h:o.dst=some d):d∈o.looksAt ops++oq o.dst:=by
 rw [h];exact List.mem_append_right _ (List.mem_singleton.2 rfl)
theorem vP {all:List Oper} {oi oj:Oper} {σ qd vS:St} {Fi Fj:bg} (hi:fP T Y E all oi σ qd Fi) (hj:fP T Y E all oj qd vS Fj) (hap:oi.apart all.toArray oj=true) (hd:kP Fi Fj):
 ∃xD,fP T Y E all oj σ xD Fj/\fP T Y E all oi xD vS Fi:=by
 obtain ⟨a1,a2,a3⟩:=Oper.apart_spec hap
 have a4:∀d,oj.dst=some d->oi.dst≠some d:=λ d h h'=>a2 d h' h
 obtain ⟨us,v,u1,u2,rfl,uf,uo,uv,ul,ur,u4⟩:=oa hi hd.1
 obtain ⟨ws,y,w1,w2,rfl,wf,wo,wv,wl,wr,w4⟩:=oa hj hd.2.1
 cases hki:Fi.kl with
 |some κ=>
  obtain ⟨d1,d2,d3,d4⟩:=hd.2.2.2.2.1 κ hki
  rw [d1] at w4 wr ⊢
  rw [hki] at u4 uf w4 wo wf wr
  simp only [St.bG] at u4 w4 wo wr ⊢
  obtain ⟨f1,f2⟩:=uf κ rfl
  have hno:∀t,t∈oj.looksAt all.toArray++oq oj.dst->κ∉(σ.get t).refs:=λ t ht=>f1 t (λ h=>d4 t h (wl t ht))
  have hl:=je (σ.kill κ) us oi.dst v
  have jQ:(σ.kill κ).tmps.length=σ.tmps.length/\(σ.kill κ).objs.length=σ.objs.length:=by simp [St.kill]
  have hj':=w4 σ (by rw [hl.1,jQ.1]) (by rw [hl.2,jQ.2]) (λ x hx=>by
   rw [kF (λ e he mz=>a1 e he (hx e mz)),gm,uy (λ t ht=>hno t (List.mem_append_left _ (hx t ht)))]) (λ af aD=>by
   rw [jf _ _ _ _ _ (λ h=>hd.2.2.1 af (u1▸h) aD),qt af (f2 af (λ h=>hd.2.2.1 af h aD))]) (λ _ h=>by cases h) (λ af aD=>wo af (by
   rw [gN a2]
   cases hdj:oj.dst with
   |none=>rw [hdj] at aD;cases aD
   |some d=>
    rw [hdj] at aD
    show af∈((σ.kill κ).get d).refs
    rw [fW,kY (hno d (by rw [hdj];exact List.mem_append_right _ (List.mem_singleton.2 rfl)))]
    exact aD))
  refine ⟨_,hj', ?_⟩
  have hwk:∀q∈ws.map (·.1),∀o,(σ.aF ws).ob q=some o->κ∉o.refs:=λ q hq o ho hk=>by
   refine d2 (wr q (w1▸hq) o (.inr ?_) κ hk)
   rw [<-ho]
   exact jV ws _ _ (by rw [hl.2,jQ.2]) q hq
  have gh:=je σ ws oj.dst y
  have hi':=u4 ((σ.aF ws).put oj.dst y) gh.1 gh.2 (λ x hx=>by
   rw [kF (λ e he mz=>a3 e he (hx e mz)),gm]) (λ af aD=>jf _ _ _ _ _ (λ h=>hd.2.2.2.1 af (w1▸h) aD)) (λ af aD=>by
   cases aD
   refine ⟨λ t ht=> ?_,λ q hq o ho=> ?_⟩
   case refine_2=>
    rw [St.pS] at ho
    by_cases c:q∈ws.map (·.1)
    ·exact hwk q c o ho
    ·rw [cQ _ _ _ c] at ho;exact f2 q hq o ho
   by_cases e:oj.dst=some t
   ·rw [e,St.iZ]
    split
    ·exact λ h=>d3 (wv κ h)
    ·exact f1 t ht
   ·rw [qz e];exact f1 t ht) (λ af aD=>uo af (by rw [gN a4] at aD;exact aD))
  have heq:(((((σ.aF ws).put oj.dst y).kill κ).aF us).put oi.dst v)=((((σ.kill κ).aF us).put oi.dst v).aF ws).put oj.dst y:=by
   rw [s9 (λ h=>d3 (wv κ h)),nT hwk,fA,fA,put_comm (d:=oj.dst) (e:=oi.dst) a4]
   congr 2
   exact congrArg (λ o=>(⟨(σ.kill κ).tmps,o⟩:St)) (iT ws us (σ.kill κ).objs (λ af aa aD=>hd.2.2.1 af (u1▸aD) (w2 af (w1▸aa))))
  rw [heq] at hi'
  exact hi'
 |none=>
  rw [hki] at u4 uf w4 wo wf wr ur
  simp only [St.bG] at u4 w4 wo wf wr ur ⊢
  cases hkj:Fj.kl with
  |some κ=>
   obtain ⟨d1,d2,d3,d4⟩:=hd.2.2.2.2.2 κ hkj
   rw [hkj] at w4 wf
   simp only [St.bG] at w4 ⊢
   obtain ⟨f1,f2⟩:=wf κ rfl
   have hold:∀q∈us.map (·.1),∀o,σ.ob q=some o->κ∉o.refs:=λ q hq o ho hk=>d2 (ur q (u1▸hq) o (.inl ho) κ hk)
   have hnew:∀q∈us.map (·.1),∀o,(σ.aF us).ob q=some o->κ∉o.refs:=λ q hq o ho hk=>d2 (ur q (u1▸hq) o (.inr ho) κ hk)
   have f2:∀q,q∉Fj.upd->∀o,σ.ob q=some o->κ∉o.refs:=λ q hq o ho=>by
    by_cases c:q∈us.map (·.1)
    ·exact hold q c o ho
    ·exact f2 q hq o (by rw [St.pS,cQ _ _ _ c];exact ho)
   have hl:=je σ us oi.dst v
   have f0:∀t,t∉Fj.rs->κ∉(σ.get t).refs:=λ t ht=>by
    by_cases e:oi.dst=some t
    ·exact λ h=>d3 (uo κ (by rw [e];exact h))
    ·have:=f1 t ht
     rw [qz e] at this;exact this
   have hj':=w4 σ hl.1.symm hl.2.symm (λ x hx=>by rw [kF (λ e he mz=>a1 e he (hx e mz)),gm]) (λ af aD=>(jf σ us oi.dst v af (λ h=>hd.2.2.1 af (u1▸h) aD)).symm) (λ af aD=>by cases aD;exact ⟨f0,f2⟩) (λ af aD=>wo af (by rw [gN a2];exact aD))
   refine ⟨_,hj', ?_⟩
   have hno:∀t,t∈oi.looksAt all.toArray++oq oi.dst->κ∉(σ.get t).refs:=λ t ht=>f0 t (λ h=>d4 t h (ul t ht))
   have gh:=je (σ.kill κ) ws oj.dst y
   have jQ:(σ.kill κ).tmps.length=σ.tmps.length/\(σ.kill κ).objs.length=σ.objs.length:=by simp [St.kill]
   have hi':=u4 (((σ.kill κ).aF ws).put oj.dst y) (by rw [gh.1,jQ.1]) (by rw [gh.2,jQ.2]) (λ x hx=>by
    rw [kF (λ e he mz=>a3 e he (hx e mz)),gm,uy (λ t ht=>hno t (List.mem_append_left _ (hx t ht)))]) (λ af aD=>by
    rw [jf _ _ _ _ _ (λ h=>hd.2.2.2.1 af (w1▸h) aD),qt af (f2 af (λ h=>hd.2.2.2.1 af h aD))]) (λ _ h=>by cases h) (λ af aD=>uo af (by
    rw [gN a4] at aD
    cases hdi:oi.dst with
    |none=>rw [hdi] at aD;cases aD
    |some d=>
     rw [hdi] at aD
     have aD:af∈((σ.kill κ).get d).refs:=aD
     rw [fW,kY (hno d (by rw [hdi];exact List.mem_append_right _ (List.mem_singleton.2 rfl)))] at aD
     exact aD))
   have heq:((((σ.kill κ).aF ws).put oj.dst y).aF us).put oi.dst v=((((σ.aF us).put oi.dst v).kill κ).aF ws).put oj.dst y:=by
    rw [s9 (λ h=>d3 (uv κ h)),nT hnew,fA,fA,put_comm (d:=oj.dst) (e:=oi.dst) a4]
    congr 2
    exact congrArg (λ o=>(⟨(σ.kill κ).tmps,o⟩:St)) (iT ws us (σ.kill κ).objs (λ af aa aD=>hd.2.2.1 af (u1▸aD) (w2 af (w1▸aa))))
   rw [heq] at hi'
   exact hi'
  |none=>
   rw [hkj] at w4
   simp only [St.bG] at w4 ⊢
   have hl:=je σ us oi.dst v
   have hj':=w4 σ hl.1.symm hl.2.symm (λ x hx=>by
    rw [kF (λ e he mz=>a1 e he (hx e mz)),gm]) (λ κ aa=>(jf σ us oi.dst v κ (λ h=>hd.2.2.1 κ (u1▸h) aa)).symm) (λ _ h=>by cases h) (λ af aD=>wo af (by rw [gN a2];exact aD))
   refine ⟨_,hj', ?_⟩
   have gh:=je σ ws oj.dst y
   have hi':=u4 ((σ.aF ws).put oj.dst y) gh.1 gh.2 (λ x hx=>by
    rw [kF (λ e he mz=>a3 e he (hx e mz)),gm]) (λ κ aa=>jf σ ws oj.dst y κ (λ h=>hd.2.2.2.1 κ (w1▸h) aa)) (λ _ h=>by cases h) (λ af aD=>uo af (by rw [gN a4] at aD;exact aD))
   have heq:(((σ.aF ws).put oj.dst y).aF us).put oi.dst v=(((σ.aF us).put oi.dst v).aF ws).put oj.dst y:=by
    rw [fA,fA]
    rw [put_comm (d:=oj.dst) (e:=oi.dst) a4]
    congr 2
    exact congrArg (λ o=>(⟨σ.tmps,o⟩:St)) (iT ws us σ.objs (λ κ aa aD=>hd.2.2.1 κ (u1▸aD) (w2 κ (w1▸aa))))
   rw [heq] at hi'
   exact hi'
end
end Go.Rx
