/- Reflection, part O: a call of a function that has a contract, soundly. -/
import Derived.Test.YtollcjadobpfdaaGreatRxN
set_option linter.unusedVariables false
set_option linter.unusedSimpArgs false
set_option linter.unusedSectionVars false
namespace Go.Rx
section
variable {w0:World} {Fz av:Nat->Prop} {Lo:Nat->RL} {a:Act} {w:World} {Pr:Nat->Prop}
theorem sC {R:Nat->RL} {agg:Bool} {τ:Ty} {x:τ.D} {v:Value} (h:gn w Pr (agg,τ) x v):match agg with
 |true=>bf w R Pr (.agg (τ.cells x)) v
 |false=>∀c,τ.cells x=[c]->bf w R Pr (.one c) v:=by
 cases agg with
 |true=>
  obtain ⟨us,rfl,h1⟩:=h
  exact ⟨us,rfl,bu h1⟩
 |false=>
  intro c hc
  have:=bu (R:=R) (show ay w Pr τ x [v] from h)
  rw [hc] at this
  exact this.1
theorem an.flip {α β:Type} {r:α->β->Prop} {s:β->α->Prop} (hs:∀a b,r a b->s b a):∀{l:List α} {m:List β},an r l m->an s m l
 | [],[],_=>trivial
 |_::_,_::_,h=>⟨hs _ _ h.1,an.flip hs h.2⟩
 | [],_::_,h=>h.elim
 |_::_,[],h=>h.elim
theorem fm {L R:Nat->RL}:∀{l:List Nat} {s n:Nat},l.length=n->(∀(i k:Nat),l[i]?=some k->L (s+i)=R k)->an (λ k k'=>L k'=R k) l (List.range' s n)
 | [],s,n,hl,h=>by subst hl;trivial
 |k::l,s,n,hl,h=>by
  subst hl
  refine ⟨h 0 k rfl,fm (s:=s+1) rfl λ i k' hk=> ?_⟩
  have:=h (i+1) k' (by simpa using hk)
  rw [show s+1+i=s+(i+1) by omega];exact this
theorem oR:∀{us:List (Nat×Ob)} {σ σ':St},σ.cF us=some σ'->(us.map (·.1)).Nodup
 | [],_,_,_=>List.nodup_nil
 | (κ,o)::us,σ,σ',h=>by
   rw [List.map_cons]
   exact List.nodup_cons.2 ⟨oQ h,oR (ec h).2.2⟩
theorem s9:∀{l:List Nat} {i k:Nat},l.Nodup->l[i]?=some k->l.idxOf k=i
 |a::l,0,k,_,hi=>by
  simp only [List.getElem?_cons_zero,Option.some.injEq] at hi
  subst hi
  simp [List.idxOf_cons]
 |a::l,i+1,k,h,hi=>by
  simp only [List.getElem?_cons_succ] at hi
  obtain ⟨h1,h2⟩:=List.nodup_cons.1 h
  have hne:a≠k:=λ e=>h1 (e▸List.mem_of_getElem? hi)
  rw [List.idxOf_cons,s9 h2 hi,show (a == k)=false by simpa using hne];rfl
 | [],i,k,_,hi=>by simp at hi
theorem vL (N d i n:Nat):(iu N d i n).length=n:=by simp [iu]
theorem n9 {ks:List Nat}:∀(aJ:List Nat) (ls:List LO) (x:cv ls) (S:List Nat),ls.all LO.y3=true->eS S (aX ks aJ ls x)
 |κ::aJ,o::ls,x,S,h=>by
  simp only [List.all_cons,Bool.and_eq_true] at h
  refine ⟨λ af aa=> ?_,n9 aJ ls x.2 _ h.2⟩
  cases o with
  |box _=>cases h.1
  |row _=>simp [LO.ob,Ob.refs] at aa
  |rows _=>simp [LO.ob,Ob.refs] at aa
  |map _ _=>simp [LO.ob,Ob.refs] at aa
 |aJ,[],x,S,_=>by cases aJ<;>exact trivial
 | [],_::_,x,S,_=>trivial
theorem eS.mem:∀{us:List (Nat×Ob)} {S:List Nat},eS S us->∀{κ:Nat} {o:Ob},(κ,o)∈us->∀af∈o.refs,af∈S\/af∈us.map (·.1)
 | (ah,o1)::us,S,h,κ,o,hm,af,hk=>by
   rcases List.mem_cons.1 hm with e|hm
   ·cases e;exact .inl (h.1 af hk)
   ·rcases eS.mem h.2 hm af hk with g|g
    ·rcases List.mem_cons.1 g with rfl|g
     ·exact .inr (by simp)
     ·exact .inl g
    ·exact .inr (by simp only [List.map_cons];exact List.mem_cons_of_mem _ g)
theorem eS.snoc {κ:Nat} {o:Ob}:∀{us:List (Nat×Ob)} {S:List Nat},eS S us->(∀af∈o.refs,af∈us.map (·.1)\/af∈S)->eS S (us++[(κ,o)])
 | [],S,_,h=>⟨λ af aa=>(h af aa).elim (λ z=>by cases z) id,trivial⟩
 | (ah,o1)::us,S,hr,h=>⟨hr.1,eS.snoc hr.2 λ af aa=>by
     rcases h af aa with g|g
     ·simp only [List.map_cons,List.mem_cons] at g
      rcases g with rfl|g
      ·exact .inr (List.mem_cons_self ..)
      ·exact .inl g
     ·exact .inr (List.mem_cons_of_mem _ g)⟩
theorem nO:∀{us vs:List (Nat×Ob)} {σ σ':St},σ.cF (us++vs)=some σ'->∃σ1,σ.cF us=some σ1/\σ1.cF vs=some σ'
 | [],_,σ,_,h=>⟨σ,rfl,h⟩
 | (κ,o)::us,vs,σ,σ',h=>by
   obtain ⟨g1,g2,g3⟩:=ec h
   obtain ⟨σ1,k1,k2⟩:=nO g3
   exact ⟨σ1,by simp only [St.cF,g1,g2];exact k1,k2⟩
theorem Sep.yB {R:Nat->RL} {u:Nat×Ob} {us:List (Nat×Ob)} (h:Sep w R Pr (u::us)):Sep w R Pr (us++[u]):=by
 have hx:∀i κ o,(us++[u])[i]?=some (κ,o)->∃j,(u::us)[j]?=some (κ,o)/\(j=i+1\/(j=0/\i=us.length)):=λ i κ o hi=>by
  rw [List.getElem?_append] at hi
  split at hi
  ·exact ⟨i+1,by simpa using hi,.inl rfl⟩
  ·rename_i hn
   have:i - us.length=0:=by
    rcases Nat.eq_zero_or_pos (i - us.length) with g|g
    ·exact g
    ·rw [List.getElem?_eq_none (by simp;omega)] at hi;cases hi
   rw [this] at hi
   exact ⟨0,hi,.inr ⟨rfl,by omega⟩⟩
 refine ⟨λ i κ o hi=> ?_,λ i κ o b hi=> ?_,λ i j κ o af o' b hi hj hne=> ?_,λ i κ o hi=> ?_⟩
 ·obtain ⟨j,hj,_⟩:=hx i κ o hi;exact h.ob j κ o hj
 ·obtain ⟨j,hj,_⟩:=hx i κ o hi;exact h.un j κ o b hj
 ·obtain ⟨i',hi',e1⟩:=hx i κ o hi
  obtain ⟨j',hj',e2⟩:=hx j af o' hj
  have:i <(us++[u]).length:=(List.getElem?_eq_some_iff.1 hi).1
  have:j <(us++[u]).length:=(List.getElem?_eq_some_iff.1 hj).1
  exact h.ds i' j' κ o af o' b hi' hj' (by omega)
 ·obtain ⟨j,hj,_⟩:=hx i κ o hi;exact h.own j κ o hj
theorem Bl.yB {R:Nat->RL} {u:Nat×Ob} {us:List (Nat×Ob)} {b:Nat} (h:Bl w R (us++[u]) b):Bl w R (u::us) b:=by
 obtain ⟨i,κ,o,hi,aM⟩:=h
 rw [List.getElem?_append] at hi
 split at hi
 ·exact ⟨i+1,κ,o,by simpa using hi,aM⟩
 ·rename_i hn
  have:i - us.length=0:=by
   rcases Nat.eq_zero_or_pos (i - us.length) with g|g
   ·exact g
   ·rw [List.getElem?_eq_none (by simp;omega)] at hi;cases hi
  rw [this] at hi
  exact ⟨0,κ,o,hi,aM⟩
theorem uO (o:LO) (ls:List LO):rg (o::ls)=0::List.range' 1 ls.length:=by simp [rg,List.range'_succ]
theorem A3 {N d i n j k:Nat} (h:(iu N d i n)[j]?=some k):k=d+(i+j) * N/\j <n:=by
 unfold iu at h
 rw [List.getElem?_map] at h
 have hj:j <n:=by
  rcases Nat.lt_or_ge j n with g|g
  ·exact g
  ·rw [List.getElem?_eq_none (by simpa using g)] at h;cases h
 rw [List.getElem?_range' hj] at h
 simp only [Option.map_some,Option.some.injEq,Nat.one_mul] at h
 exact ⟨h.symm,hj⟩
theorem fk {N d:Nat} {Nw:Nat->Prop} (hN:∀b,Nw b-> ¬Fz b):∀(rs:List RT) (r:eC rs) (i:Nat) (us:List Value) (bs:Nat->Prop) (σ σ':St) (R:Nat->RL) (cs:List Cp) (ns:List (Nat×Ob)),
 Inv w0 Fz av Lo R Pr σ a w->(∀κ o b,σ.ob κ=some o->bt w R κ o b-> ¬Nw b\/bs b)->cB w Nw Pr rs r us bs->gC N d i rs r=some (cs,ns)->σ.cF ns=some σ'->
 ∃R',Inv w0 Fz av Lo R' Pr σ' a w/\an (bf w R' Pr) cs us/\(∀c∈cs,∀κ∈c.refs,σ'.ob κ≠none)/\(∀κ,σ.ob κ≠none->R' κ=R κ/\σ'.ob κ≠none)/\σ'.tmps=σ.tmps
 | [],r,i,us,bs,σ,σ',R,cs,ns,h,hb,hr,hc,ha=>by
   simp only [gC] at hc
   cases hc
   simp only [St.cF] at ha
   cases ha
   rw [show us=[] from hr]
   exact ⟨R,h,trivial,λ c hc=>(by cases hc),λ κ aa=>⟨rfl,aa⟩,rfl⟩
 | .d true τ::rs,r,i,us,bs,σ,σ',R,cs,ns,h,hb,hr,hc,ha=>by
   obtain ⟨v,us',rfl,h1,h2⟩:=hr
   simp only [gC] at hc
   split at hc
   ·rename_i cs' ns' ko
    cases hc
    obtain ⟨R',k1,k2,k3,k4,k5⟩:=fk hN rs r.2 i us' bs σ σ' R _ _ h hb h2 ko ha
    refine ⟨R',k1,⟨sC h1,k2⟩,λ c hc κ aa=> ?_,k4,k5⟩
    rcases List.mem_cons.1 hc with rfl|hc
    ·obtain ⟨c,hc,hk⟩:=List.mem_flatMap.1 aa
     rw [bL _ _ c hc] at hk;cases hk
    ·exact k3 c hc κ aa
   ·cases hc
 | .d false τ::rs,r,i,us,bs,σ,σ',R,cs,ns,h,hb,hr,hc,ha=>by
   obtain ⟨v,us',rfl,h1,h2⟩:=hr
   simp only [gC] at hc
   split at hc
   ·rename_i c cs' ns' hx ko
    cases hc
    obtain ⟨R',k1,k2,k3,k4,k5⟩:=fk hN rs r.2 i us' bs σ σ' R _ _ h hb h2 ko ha
    refine ⟨R',k1,⟨sC h1 c hx,k2⟩,λ c' hc κ aa=> ?_,k4,k5⟩
    rcases List.mem_cons.1 hc with rfl|hc
    ·have:c.refs=[]:=bL τ r.1 c (by rw [hx];simp)
     rw [show (Cp.one c).refs=c.refs from rfl,this] at aa;cases aa
    ·exact k3 c' hc κ aa
   ·cases hc
 | .new e::rs,r,i,us,bs,σ,σ',R,cs,ns,h,hb,hr,hc,ha=>by
   obtain ⟨v,us',blk,rfl,h1,h2,h3⟩:=hr
   simp only [gC] at hc
   split at hc
   ·rename_i cs' ns' ko
    cases hc
    obtain ⟨g1,g2,g3⟩:=ec ha
    have kX:∃loc:RL,v=loc.aF/\(loc.aF≠ .slice none 0 0->loc.blk=blk/\Nw blk/\ ¬Pr blk)/\∀R1:Nat->RL,R1 (d+i * N)=loc->az w R1 Pr (d+i * N) (.vec e r.1):=by
     rcases h1 with ⟨h1,h1'⟩|⟨off,cap,cells,el,k1,k2,k3,k4,k5,k6,k7⟩
     ·refine ⟨⟨0,none,0,0⟩,h1,λ g=>(g rfl).elim,λ R1 eo=>⟨?_,.inl ⟨by rw [eo];rfl,h1'⟩⟩⟩
      rw [eo,h1'];rfl
     ·refine ⟨⟨blk,some ⟨blk,off,none⟩,r.1.length,cap⟩,k1,λ _=>⟨rfl,k5,k6⟩,λ R1 eo=>⟨by rw [eo],.inr ⟨off,cap,cells,el,by rw [eo];rfl,k2,by rw [eo];exact k3,k4,k7⟩⟩⟩
    obtain ⟨loc,l1,l2,l3⟩:=kX
    have dn:(λ κ=>if κ=d+i * N then loc else R κ) (d+i * N)=loc:=by simp
    have cA:∀κ,κ≠d+i * N->(λ κ=>if κ=d+i * N then loc else R κ) κ=R κ:=λ κ hk=>by simp [hk]
    have yU:∀b,bt w (λ κ=>if κ=d+i * N then loc else R κ) (d+i * N) (.vec e r.1) b->loc.aF≠ .slice none 0 0/\b=blk:=λ b aM=>by
     rcases aM with ⟨q1,q2⟩|q1
     ·have Bv:loc.aF≠ .slice none 0 0:=by simpa [real] using q1
      rw [dn] at q2
      exact ⟨Bv,q2.trans (l2 Bv).1⟩
     ·exact q1.elim
    have hi1:=h.zB (d+i * N) (.vec e r.1) g2 g1 cA (l3 _ dn) (λ κ aa=>by cases aa) (λ b aM=>by
     obtain ⟨q1,rfl⟩:=yU b aM
     obtain ⟨m1,m2,m3⟩:=l2 q1
     refine ⟨m3,hN _ m2,λ κ o' ho' gu=> ?_⟩
     rcases hb κ o' _ ho' gu with q|q
     ·exact q m2
     ·exact h2 (by rw [l1];exact q1) q) (λ _ hi=>hi.elim)
    obtain ⟨R',k1,k2,k3,k4,k5⟩:=fk hN rs r.2 (i+1) us' _ _ σ' _ _ _ hi1 (λ κ o b ho aM=>by
     rw [St.aL] at ho
     by_cases e:d+i * N=κ
     ·subst e
      rw [if_pos ⟨rfl,ct g1⟩] at ho;cases ho
      obtain ⟨q1,rfl⟩:=yU b aM
      exact .inr (.inr ⟨by rw [l1];exact q1,rfl⟩)
     ·rw [if_neg (λ z=>e z.1)] at ho
      have hk:κ≠d+i * N:=λ z=>e z.symm
      refine (hb κ o b ho ?_).imp id .inl
      rcases aM with ⟨q1,q2⟩|q1
      ·exact .inl ⟨(cm (cA κ hk) o).1 q1,by rw [<-cA κ hk];exact q2⟩
      ·exact .inr (q1.back (cA κ hk) (λ _=>rfl) (λ ah h1=>cA ah (λ z=>h.wo κ o ah ho h1 (z▸g2))))) h3 ko g3
    have hpk:=k4 (d+i * N) (by rw [St.aL,if_pos ⟨rfl,ct g1⟩];simp)
    refine ⟨R',k1,⟨?_,k2⟩,λ c hc κ aa=> ?_,λ κ aa=> ?_,k5⟩
    ·show v=(R' (d+i * N)).aF
     rw [hpk.1,if_pos rfl,l1]
    ·rcases List.mem_cons.1 hc with rfl|hc
     ·have:κ=d+i * N:=by simpa [Cp.refs,C.refs] using aa
      rw [this];exact hpk.2
     ·exact k3 c hc κ aa
    ·have hk:κ≠d+i * N:=λ e=>aa (e▸g2)
     have:=k4 κ (by rw [St.aL,if_neg (λ z=>hk z.1.symm)];exact aa)
     exact ⟨this.1.trans (cA κ hk),this.2⟩
   ·cases hc
 | .obj o ls::rs,r,i,us,bs,σ,σ',R,cs,ns,h,hb,hr,hc,ha=>by
   obtain ⟨v,us',L,rfl,h1,hsep,jP,h3⟩:=hr
   simp only [gC] at hc
   split at hc
   ·rename_i cs' ns' ko hrow
    cases hc
    generalize hks:iu N d (i+1) ls.length=ks at *
    rw [show aX ks ks ls r.1.2++(d+i * N,o.ob ks r.1.1)::ns'=(aX ks ks ls r.1.2++[(d+i * N,o.ob ks r.1.1)])++ns' by simp] at ha
    obtain ⟨σ1,g1,g2⟩:=nO ha
    have jS:ks.length=ls.length:=by rw [<-hks,vL]
    by_cases hN0:∃(L2:Nat->RL),L2 (d+i * N)=L 0/\∀j,j <ls.length->∀k,ks[j]?=some k->L2 k=L (1+j)
    ·obtain ⟨L2,e0,e1⟩:=hN0
     have hk2:an (λ k k'=>L2 k'=L k) (List.range' 1 ls.length) ks:=(fm (L:=L) (R:=L2) jS (λ j k hj=>(e1 j (by rw [<-jS];exact (List.getElem?_eq_some_iff.1 hj).1) k hj).symm)).flip (λ _ _ e=>e.symm)
     have hk1:an (λ k k'=>L2 k'=L k) (rg (o::ls)) ((d+i * N)::ks):=by rw [uO];exact ⟨e0,hk2⟩
     have ht:(rg (o::ls)).tail=List.range' 1 ls.length:=by rw [uO];rfl
     have AX:Sep w L2 Pr (aX ks ((d+i * N)::ks) (o::ls) r.1):=Sep.relabel (by rw [ht];exact hk2) hk1 hsep
     have BK:∀b,Bl w L2 (aX ks ((d+i * N)::ks) (o::ls) r.1) b->Bl w L (bz (o::ls) r.1) b:=λ b g=>Bl.relabel (by rw [ht];exact hk2) hk1 g
     have AY:Sep w L2 Pr (aX ks ks ls r.1.2++[(d+i * N,o.ob ks r.1.1)]):=AX.yB
     have vv:∀b,Bl w L2 (aX ks ks ls r.1.2++[(d+i * N,o.ob ks r.1.1)]) b->Bl w L (bz (o::ls) r.1) b:=λ b g=>BK b g.yB
     have Bk:eS [] (aX ks ks ls r.1.2++[(d+i * N,o.ob ks r.1.1)]):=(n9 ks ls r.1.2 [] hrow).snoc (λ af aa=>.inl (by rw [gj _ jS];exact uM aa))
     obtain ⟨R1,m1,m2,m3,m4,m5⟩:=Inv.zC L2 _ [] σ σ1 R h g1 (λ κ aa=>by cases aa) Bk AY (λ b g=>⟨hN b (jP b (vv b g)).1,λ κ o' ho' aM=>by
      rcases hb κ o' b ho' aM with q|q
      ·exact q (jP b (vv b g)).1
      ·exact (jP b (vv b g)).2 q⟩)
     obtain ⟨R',k1,k2,k3,k4,k5⟩:=fk hN rs r.2 (i+(ls.length+1)) us' _ σ1 σ' R1 _ _ m1 (λ κ x b hx aM=>by
      rcases m5 κ x hx with q|q
      ·obtain ⟨j,hj⟩:=List.getElem?_of_mem q
       refine .inr (.inr (vv b ⟨j,κ,x,hj, ?_⟩))
       have e:=(m2 κ (List.mem_map.2 ⟨_,q,rfl⟩)).1
       rcases aM with ⟨q1,q2⟩|q1
       ·exact .inl ⟨(cm e x).1 q1,by rw [<-e];exact q2⟩
       ·exact .inr (q1.back e (λ _=>rfl) (λ ah h1=>(m2 ah ((Bk.mem q ah h1).resolve_left (by simp))).1))
      ·have e:=(m3 κ (by rw [q];simp)).1
       refine (hb κ x b q ?_).imp id .inl
       rcases aM with ⟨q1,q2⟩|q1
       ·exact .inl ⟨(cm e x).1 q1,by rw [<-e];exact q2⟩
       ·exact .inr (q1.back e (λ _=>rfl) (λ ah h1=>(m3 ah (h.wo κ x ah q h1)).1))) h3 ko g2
     have hh:=m2 (d+i * N) (by simp)
     have Be:=k4 (d+i * N) hh.2
     refine ⟨R',k1,⟨?_,k2⟩,λ c hc κ aa=> ?_,λ κ aa=> ?_,k5.trans m4⟩
     ·have e:R' (d+i * N)=L 0:=by rw [Be.1,hh.1,e0]
      cases o with
      |box fs=>show v=_;rw [h1,e];rfl
      |row _=>show v=_;rw [h1,e];rfl
      |rows _=>show v=_;rw [h1,e];rfl
      |map _ _=>show v=_;rw [h1,e];rfl
     ·rcases List.mem_cons.1 hc with rfl|hc
      ·have:κ=d+i * N:=by cases o<;>simpa [Cp.refs,C.refs,wX] using aa
       rw [this];exact Be.2
      ·exact k3 c hc κ aa
     ·have q1:=m3 κ aa
      have q2:=k4 κ q1.2
      exact ⟨q2.1.trans q1.1,q2.2⟩
    ·
     exfalso
     apply hN0
     have hfr:((aX ks ks ls r.1.2++[(d+i * N,o.ob ks r.1.1)]).map (·.1)).Nodup:=oR g1
     rw [List.map_append,gj _ jS] at hfr
     simp only [List.map_cons,List.map_nil] at hfr
     obtain ⟨f1,f2,f3⟩:=List.nodup_append.1 hfr
     refine ⟨λ κ=>if κ=d+i * N then L 0 else L (1+ks.idxOf κ),by simp,λ j hj k hk=> ?_⟩
     have hmem:=List.mem_of_getElem? hk
     show (if k=d+i * N then L 0 else L (1+ks.idxOf k))=_
     rw [if_neg (λ e=>f3 k hmem (d+i * N) (by simp) e),s9 f1 hk]
   ·cases hc
theorem rD {R:Nat->RL} {cs:List Cp} {us:List Value} (h:an (bf w R Pr) cs us):aA w R Pr (gA cs) (dR us):=by
 cases cs with
 |nil=>
  cases us with
  |nil=>exact ⟨#[], rfl,trivial⟩
  |cons _ _=>exact h.elim
 |cons c cs=>
  cases us with
  |nil=>exact h.elim
  |cons u us=>
   cases cs with
   |nil=>
    cases us with
    |nil=>exact h.1
    |cons _ _=>exact h.2.elim
   |cons c2 cs=>
    cases us with
    |nil=>exact h.2.elim
    |cons u2 us=>exact ⟨(u::u2::us).toArray,rfl,h⟩
theorem p5 {cs:List Cp} {κ:Nat} (h:κ∈(gA cs).refs):∃c∈cs,κ∈c.refs:=by
 unfold gA at h
 split at h
 ·exact ⟨_,by simp,h⟩
 ·exact List.mem_flatMap.1 h
theorem gK:∀(l:List Nat) {R:Nat->RL} {Pr:Nat->Prop} {σ:St},Inv w0 Fz av Lo R Pr σ a w->(∀b,b <w0.heap.size->Fz b\/av b)->Inv w0 Fz av Lo R (λ b=>Pr b\/∃κ∈l,∃e m,σ.ob κ=some (.vec e m)/\real R κ (.vec e m)/\b=(R κ).blk) (bB l σ) a w
 | [],R,Pr,σ,h,_=>by
   have:Pr=(λ b=>Pr b\/∃κ∈([]:List Nat),∃e m,σ.ob κ=some (.vec e m)/\real R κ (.vec e m)/\b=(R κ).blk):=funext λ b=>propext ⟨.inl,λ g=>g.elim id (λ ⟨_,g,_⟩=>by cases g)⟩
   rw [<-this];exact h
 |κ::l,R,Pr,σ,h,hf=>by
  have h1:=gK l (h.bJ κ hf) hf
  refine cast (congrArg (λ p=>Inv w0 Fz av Lo R p (bB (κ::l) σ) a w) (funext λ b=>propext ⟨λ g=> ?_,λ g=> ?_⟩)) h1
  ·rcases g with (g|⟨e,m,g1,g2,g3⟩)|⟨af,aD,e,m,g1,g2,g3⟩
   ·exact .inl g
   ·exact .inr ⟨κ,by simp,e,m,g1,g2,g3⟩
   ·by_cases hlt:κ <σ.objs.length
    ·exact .inr ⟨af,by simp [aD],e,m,((pz σ κ af hlt).1 g1).1,g2,g3⟩
    ·have:σ.bJ κ=σ:=by
      have:σ.ob κ=none:=by unfold St.ob;rw [List.getD_eq_getElem?_getD,List.getElem?_eq_none (by omega)];rfl
      unfold St.bJ;rw [this]
     rw [this] at g1
     exact .inr ⟨af,by simp [aD],e,m,g1,g2,g3⟩
  ·rcases g with g|⟨af,aD,e,m,g1,g2,g3⟩
   ·exact .inl (.inl g)
   ·by_cases e1:af=κ
    ·subst e1;exact .inl (.inr ⟨e,m,g1,g2,g3⟩)
    ·have aD:af∈l:=by simpa [e1] using aD
     refine .inr ⟨af,aD,e,m, ?_,g2,g3⟩
     by_cases hlt:κ <σ.objs.length
     ·exact (pz σ κ af hlt).2 ⟨g1,λ z=>e1 z.1⟩
     ·have:σ.bJ κ=σ:=by
       have:σ.ob κ=none:=by unfold St.ob;rw [List.getD_eq_getElem?_getD,List.getElem?_eq_none (by omega)];rfl
       unfold St.bJ;rw [this]
      rw [this];exact g1
theorem wS:∀(l:List Nat) (σ:St),(bB l σ).tmps.length=σ.tmps.length
 | [],σ=>rfl
 |κ::l,σ=>by
  rw [bB,wS l]
  unfold St.bJ
  split<;>simp
theorem lC {N d:Nat} {Nw:Nat->Prop} {w:World} {Pr ak:Nat->Prop}:∀(rs:List RT) (r:eC rs) (us:List Value) (bs:Nat->Prop),(rs.all RT.bU)=true->(∀b,Nw b->ak b->Pr b)->cB w Nw Pr rs r us bs->cB w Nw ak rs r us bs
 | [],_,_,_,_,_,h=>h
 | .d agg τ::rs,r,us,bs,hs,hp,h=>by
   simp only [List.all_cons,Bool.and_eq_true] at hs
   obtain ⟨v,us',rfl,h1,h2⟩:=h
   refine ⟨v,us',rfl, ?_,lC (N:=N) (d:=d) rs r.2 us' bs hs.2 hp h2⟩
   unfold gn at *
   cases agg with
   |true=>obtain ⟨u,e,h3⟩:=h1;exact ⟨u,e,h3.bU hs.1⟩
   |false=>exact ay.bU hs.1 h1
 | .new e::rs,r,us,bs,hs,hp,h=>by
   simp only [List.all_cons,Bool.and_eq_true] at hs
   obtain ⟨v,us',blk,rfl,h1,h2,h3⟩:=h
   refine ⟨v,us',blk,rfl, ?_,h2,lC (N:=N) (d:=d) rs r.2 us' _ hs.2 hp h3⟩
   rcases h1 with h1|⟨off,cap,cells,el,k1,k2,k3,k4,k5,k6,k7⟩
   ·exact .inl h1
   ·refine .inr ⟨off,cap,cells,el,k1,k2,k3,k4,k5,λ z=>k6 (hp blk k5 z),λ i y hi=> ?_⟩
    obtain ⟨u,m1,m2⟩:=k7 i y hi
    exact ⟨u,m1,m2.bU hs.1⟩
 | .obj _ _::rs,_,_,_,hs,_,_=>by simp [RT.bU] at hs
theorem oU {C:Array Value->World->(Ending->World->Prop)->Prop} (hC:∀args w Q Q',C args w Q->(∀e w',Q e w'->Q' e w')->C args w Q') {c:jH} (hok:uS C c.sig c.rs c.fn) {R:Nat->RL} {σ σ1 σ':St} (h:Inv w0 Fz av Lo R Pr σ a w) (aZ:∀b,b <w0.heap.size->Fz b\/av b) {args:List AV} {vs:List Value} (hargs:an (aA w R Pr) args vs)
 {acc:List Nat} {xs:DL c.sig} {r:eC c.rs} {dst:Option Nat} (hpre:iZ σ c args=some (acc,σ1,xs)) (hfn:c.fn xs=some r) {x:AV} {xA:List (Nat×Ob)} (hpost:gI σ1 dst c.rs r=some (σ',x,xA)):
 C vs.toArray w λ e w'=>∃v R' ak,e=.returned v/\Inv w0 Fz av Lo R' ak σ' a w'/\aA w' R' ak x v/\∀κ∈x.refs,σ'.ob κ≠none:=by
 unfold iZ at hpre
 split at hpre
 ·rename_i acc' xs' mA
  split at hpre
  ·rename_i hvs
   cases hpre
   unfold gI at hpost
   split at hpost
   ·rename_i cs ns fA
    split at hpost
    ·rename_i σ2 fu
     obtain ⟨rfl,rfl,rfl⟩:σ2=σ'/\gA cs=x/\ns=xA:=by simpa using hpost
     have pG:=h.sm.sz
     let Pc:Nat->Prop:=λ b=>Pr b\/∃κ∈acc,∃o,σ.ob κ=some o/\kK w R κ o b
     have wT:∀b,Pr b->Pc b:=λ b hb=>.inl hb
     have AR:∀b,Pc b->b <w.heap.size:=λ b hb=>by
      rcases hb with hb|⟨κ,_,o,h1,⟨h2,rfl⟩|h2⟩
      ·exact h.pr b hb
      ·exact az.lt h2 (h.ob κ _ h1)
      ·exact (h.ob κ _ h1).eF h2
     have Aj:=lG (ak:=Pc) h.ob wT mA (λ κ aa o b ho aq=>.inr ⟨κ,aa,o,ho,aq⟩) hargs
     refine hC _ _ _ _ (hok xs r hfn w Pc vs AR Aj) ?_
     rintro e w' ⟨ak,us,rfl,hw,hg,hp1,hp2,w6,w9⟩
     have hs:=hg.sz
     refine ⟨dR us, ?_⟩
     have key:∀(σ1:St) (R1:Nat->RL) (hD fJ:Nat->Prop),Inv w0 Fz av Lo R1 hD σ1 a w->(∀κ,R1 κ=R κ)->(∀κ o,σ1.ob κ=some o->real R κ o->(R κ).blk <w.heap.size)->(∀b,hD b->fJ b)->(∀b,fJ b->b <w.heap.size->hD b)->(∀b,fJ b->b <w'.heap.size)->
      cB w' (λ b=>w.heap.size<=b) fJ c.rs r us (λ _=>False)->gC σ1.tmps.length (dst.getD 0) 0 c.rs r=some (cs,ns)->σ1.cF ns=some σ2->∃R' ak,Ending.returned (dR us)=.returned (dR us)/\Inv w0 Fz av Lo R' ak σ2 a w'/\aA w' R' ak (gA cs) (dR us)/\∀κ∈(gA cs).refs,σ2.ob κ≠none:=λ σ1 R1 hD fJ h1 hR hlt q1 q2 q3 pJ fA fu=>by
      have h2:=h1.world (w':=w') (ak:=fJ) hw hg q1 q2 q3
      have cr:R1=R:=funext hR
      subst cr
      obtain ⟨R',k1,k2,k3,k4,k5⟩:=fk (N:=σ1.tmps.length) (d:=dst.getD 0) (Nw:=λ b=>w.heap.size<=b) (λ b hb hz=>by have:=(h.fz b hz).1;omega) c.rs r 0 us _ σ1 σ2 R1 cs ns h2 (λ κ o b ho aM=>.inl λ hb=>by
       rcases aM with ⟨q1,q2⟩|q1
       ·have:=hlt κ o ho q1;omega
       ·have:=(h1.ob κ o ho).eF (q1.back (w:=w) (R:=R1) rfl (λ aq=>hw _ (hlt κ o ho aq)));omega) pJ fA fu
      exact ⟨R',fJ,rfl,k1,rD k2,λ κ aa=>by obtain ⟨c,hc,hk⟩:=p5 aa;exact k3 c hc κ hk⟩
     have hbase:∀(xh:acc=[]\/c.rs.all RT.bU=true),gC σ.tmps.length (dst.getD 0) 0 c.rs r=some (cs,ns)->σ.cF ns=some σ2->∃R' ak,Ending.returned (dR us)=.returned (dR us)/\Inv w0 Fz av Lo R' ak σ2 a w'/\aA w' R' ak (gA cs) (dR us)/\∀κ∈(gA cs).refs,σ2.ob κ≠none:=λ xh fA fu=>by
      rcases xh with rfl|hsol
      ·have AQ:∀b,Pc b->Pr b:=λ b hb=>by
        rcases hb with hb|⟨κ,aa,_⟩
        ·exact hb
        ·cases aa
       exact key σ R Pr ak h (λ _=>rfl) (λ κ o ho aq=>az.lt aq (h.ob κ o ho)) (λ b hb=>hp1 b (wT b hb)) (λ b hb hlt=>AQ b (hp2 b hb hlt)) w6 w9 fA fu
      ·refine key σ R Pr (λ b=>Pr b\/(w.heap.size<=b/\ak b)) h (λ _=>rfl) (λ κ o ho aq=>az.lt aq (h.ob κ o ho)) (λ b hb=>.inl hb) (λ b hb hlt=> ?_) (λ b hb=> ?_) ?_ fA fu
       ·rcases hb with hb|hb
        ·exact hb
        ·omega
       ·rcases hb with hb|hb
        ·have:=h.pr b hb;omega
        ·exact w6 b hb.2
       ·exact lC (N:=0) (d:=0) c.rs r us _ hsol (λ b hn hb=>by
         rcases hb with hb|hb
         ·have:=h.pr b hb;omega
         ·exact hb.2) w9
     cases hacc:acc with
     |nil=>
      rw [hacc] at fA fu
      exact hbase (.inl hacc) fA fu
     |cons oq rest=>
      cases hsol:c.rs.all RT.bU with
      |true=>
       have e1:jO c.rs acc σ=σ:=by rw [hacc];simp only [jO,hsol]
       rw [e1] at fA fu
       exact hbase (.inr hsol) fA fu
      |false=>
       have e1:jO c.rs acc σ=bB acc σ:=by rw [hacc];simp only [jO,hsol]
       rw [e1] at fA fu
       have hall:∀κ∈acc,eX σ.ob κ=true:=by
        rw [hsol,Bool.or_false,List.all_eq_true] at hvs
        exact hvs
       have hf:Inv w0 Fz av Lo R Pc (bB acc σ) a w:=by
        refine cast (congrArg (λ p=>Inv w0 Fz av Lo R p (bB acc σ) a w) (funext λ b=>propext ⟨λ g=> ?_,λ g=> ?_⟩)) (gK acc h aZ)
        ·exact g.imp id λ ⟨κ,g1,e,m,g2,g3,g4⟩=>⟨κ,g1,_,g2,.inl ⟨g3,g4⟩⟩
        ·refine g.imp id λ ⟨κ,g1,o,g2,g3⟩=> ?_
         obtain ⟨e,m,q⟩:=nT (hall κ g1)
         rw [q] at g2;cases g2
         rcases g3 with ⟨g3,g4⟩|g3
         ·exact ⟨κ,g1,e,m,q,g3,g4⟩
         ·exact g3.elim
       exact key (bB acc σ) R Pc ak hf (λ _=>rfl) (λ κ o ho aq=>az.lt aq (hf.ob κ o ho)) hp1 hp2 w6 w9 fA fu
    ·cases hpost
   ·cases hpost
  ·cases hpre
 ·cases hpre
def jl (o:Ob):Prop:=∀K V l p,o≠ .map K V l (some p)
theorem zk {ks:List Nat} {o:LO} {x:o.D} {o1:Ob} (h:bk (o.ob ks x) o1):jl o1:=λ K V l p e=>by
 subst e
 have h1:=(h.2 default (λ _=>⟨0,none,0,0⟩) 0 0).2 ⟨p.1,p.2,rfl,rfl⟩
 cases o with
 |box _=>exact h1
 |row _=>exact h1
 |map _ _=>obtain ⟨_,_,z,_⟩:=h1;cases z
 |rows e=>
  obtain ⟨off,n,cap,cells,el,j,v,_,h2,_⟩:=h1
  simp [default] at h2
theorem nG {ks:List Nat}:∀{aJ:List Nat} {ls:List LO} {x:cv ls} {i κ:Nat} {o o1:Ob},(aX ks aJ ls x)[i]?=some (κ,o)->bk o o1->jl o1
 |oq::aJ,o0::ls,x,i,κ,o,o1,h,hs=>by
  cases i with
  |zero=>
   simp only [aX,List.getElem?_cons_zero,Option.some.injEq,Prod.mk.injEq] at h
   obtain ⟨rfl,rfl⟩:=h
   exact zk hs
  |succ i=>
   simp only [aX,List.getElem?_cons_succ] at h
   exact nG h hs
 |aJ,[],x,i,κ,o,o1,h,_=>by cases aJ<;>simp [aX] at h
 | [],_::_,_,_,_,_,_,h,_=>by simp [aX] at h
theorem x5 {σ:St} {κ af:Nat} {o:Ob} (h:σ.ob κ=some o) (hne:κ≠af) (hni:jl o):∃o',(σ.bJ af).ob κ=some o'/\bk o' o/\jl o':=by
 have stay:(∀e l,σ.ob af≠some (.vec e l))->∃o',(σ.bJ af).ob κ=some o'/\bk o' o/\jl o':=λ hn=>by
  refine ⟨o, ?_,bk.rfl' _,hni⟩
  unfold St.bJ
  split
  ·rename_i e l ho;exact absurd ho (hn e l)
  ·exact h
 cases aj:σ.ob af with
 |none=>exact stay (λ e l z=>by rw [aj] at z;cases z)
 |some o1=>
  cases o1 with
  |vec e l=>
   have hfr:σ.bJ af=⟨σ.tmps.map (mg af e l),(σ.objs.map (eV af e l)).set af none⟩:=by unfold St.bJ;rw [aj]
   have bG:(σ.bJ af).ob κ=eV af e l (some o):=by
    rw [hfr]
    unfold St.ob at h ⊢
    simp only [List.getD_eq_getElem?_getD,List.getElem?_set,List.length_map,List.getElem?_map] at h ⊢
    rw [if_neg (λ z=>hne z.symm)]
    cases hx:σ.objs[κ]? with
    |none=>rw [hx] at h;cases h
    |some o2=>rw [hx] at h;simp only [Option.getD_some] at h;subst h;simp
   rw [bG]
   cases o with
   |box _=>exact ⟨_,rfl,bk.box _ _,λ _ _ _ _ z=>by cases z⟩
   |map K V l it=>
    cases it with
    |none=>exact ⟨_,rfl,bk.rfl' _,hni⟩
    |some p=>exact absurd rfl (hni K V l p)
   |_=>exact ⟨_,rfl,bk.rfl' _,hni⟩
  |_=>exact stay (λ e l z=>by rw [aj] at z;cases z)
theorem qY {κ:Nat}:∀(l:List Nat) {σ:St} {o:Ob},σ.ob κ=some o->κ∉l->jl o->∃o',(bB l σ).ob κ=some o'/\bk o' o/\jl o'
 | [],_,o,h,_,hni=>⟨o,h,bk.rfl' _,hni⟩
 |af::l,_,_,h,hn,hni=>by
  obtain ⟨o1,h1,h2,h2'⟩:=x5 h (λ e=>hn (by rw [e];exact List.mem_cons_self ..)) hni
  obtain ⟨o2,h3,h4,h4'⟩:=qY l h1 (λ e=>hn (List.mem_cons_of_mem _ e)) h2'
  exact ⟨o2,h3,h4.trans h2,h4'⟩
theorem BF (σ:St) (κ:Nat):(σ.bJ κ).objs.length=σ.objs.length:=by
 unfold St.bJ;split<;>simp
theorem xu (σ:St) (κ af:Nat) {o:Ob} (h:σ.ob af=some o) (hni:jl o):∃o',(σ.kill κ).ob af=some o'/\bk o' o/\jl o':=by
 rw [dx,h]
 cases o with
 |box cs=>exact ⟨_,rfl,bk.box _ _,λ _ _ _ _ z=>by cases z⟩
 |map K V l it=>
  cases it with
  |none=>exact ⟨_,rfl,bk.rfl' _,hni⟩
  |some p=>exact absurd rfl (hni K V l p)
 |_=>exact ⟨_,rfl,bk.rfl' _,hni⟩
theorem rU (σ:St) (κ t:Nat) {af:Nat} (h:af∈((σ.kill κ).get t).refs):af∈(σ.get t).refs:=by
 rw [fW] at h;exact (k9 h).1
def uT (o o':Ob):Prop:=(∀(R:Nat->RL) κ,real R κ o->real R κ o')/\∀w (R:Nat->RL) κ b,bM w R κ o b->bM w R κ o' b
theorem uT.nZ {o o':Ob} (h:uT o o') {w:World} {R:Nat->RL} {κ b:Nat} (g:bt w R κ o b):bt w R κ o' b:=g.imp (λ z=>⟨h.1 R κ z.1,z.2⟩) (h.2 w R κ b)
theorem tj (σ:St) (κ ah:Nat) {x:Ob} (hx:(σ.kill κ).ob ah=some x):∃o,σ.ob ah=some o/\uT x o/\∀af∈x.refs,af∈o.refs:=by
 rw [dx] at hx
 obtain ⟨o,h1,⟨cs,rfl,rfl⟩|⟨rfl,_⟩|⟨K,V,l,L,rfl,rfl⟩⟩:=iQ hx
 ·refine ⟨_,h1,⟨λ _ _ z=>z,λ _ _ _ _ z=>z⟩,λ af h=> ?_⟩
  obtain ⟨c,hc,hk⟩:=List.mem_flatMap.1 h
  obtain ⟨d,hd,rfl⟩:=List.mem_map.1 hc
  exact List.mem_flatMap.2 ⟨d,hd,(gx hk).1⟩
 ·exact ⟨_,h1,⟨λ _ _ z=>z,λ _ _ _ _ z=>z⟩,λ _ h=>h⟩
 ·exact ⟨_,h1,⟨λ _ _ z=>z,λ _ _ _ _ ⟨_,_,z,_⟩=>by cases z⟩,λ _ h=>by cases h⟩
theorem Inv.bT {R:Nat->RL}:∀(l:List Nat) {σ:St},Inv w0 Fz av Lo R Pr σ a w->Inv w0 Fz av Lo R Pr (Go.Rx.bT l σ) a w/\(∀κ∈l,(∀t,κ∉((Go.Rx.bT l σ).get t).refs)/\∀af x,(Go.Rx.bT l σ).ob af=some x->κ∉x.refs)/\
 (∀κ o,σ.ob κ=some o->jl o->∃o',(Go.Rx.bT l σ).ob κ=some o'/\bk o' o)/\(∀t κ,κ∈((Go.Rx.bT l σ).get t).refs->κ∈(σ.get t).refs)/\(∀ah x,(Go.Rx.bT l σ).ob ah=some x->∃o,σ.ob ah=some o/\uT x o/\∀κ∈x.refs,κ∈o.refs)/\(Go.Rx.bT l σ).objs.length=σ.objs.length/\(Go.Rx.bT l σ).tmps.length=σ.tmps.length
 | [],σ,h=>⟨h,λ κ aa=>(by cases aa),λ κ o ho _=>⟨o,ho,bk.rfl' _⟩,λ _ _ h=>h,λ ah x hx=>⟨x,hx,⟨λ _ _ z=>z,λ _ _ _ _ z=>z⟩,λ _ h=>h⟩,rfl,rfl⟩
 |oq::l,σ,h=>by
  obtain ⟨h1,h2,h3⟩:=h.kill oq
  obtain ⟨k1,k2,k3,k4,k5,k6,k7⟩:=Inv.bT l h1
  refine ⟨k1,λ κ aa=> ?_,λ κ o ho hni=> ?_,λ t κ aa=>rU σ oq t (k4 t κ aa),λ ah x hx=> ?_,k6.trans (by simp [St.kill]),k7.trans (by simp [St.kill])⟩
  ·rcases List.mem_cons.1 aa with rfl|aa
   ·exact ⟨λ t ht=>h2 t (k4 t _ ht),λ af x hx hk=>by
     obtain ⟨o,q1,_,q2⟩:=k5 af x hx
     exact h3 af o q1 (q2 _ hk)⟩
   ·exact k2 κ aa
  ·obtain ⟨o1,q1,q2,Az⟩:=xu σ oq κ ho hni
   obtain ⟨o2,q3,q4⟩:=k3 κ o1 q1 Az
   exact ⟨o2,q3,q4.trans q2⟩
  ·obtain ⟨o,q1,q2,q3⟩:=k5 ah x hx
   obtain ⟨o1,q4,q5,q6⟩:=tj σ oq ah q1
   exact ⟨o1,q4,⟨λ R κ z=>q5.1 R κ (q2.1 R κ z),λ w R κ b z=>q5.2 w R κ b (q2.2 w R κ b z)⟩,λ κ aa=>q6 κ (q3 κ aa)⟩
theorem Inv.oK {R:Nat->RL} {σ:St} (h:Inv w0 Fz av Lo R Pr σ a w) {Pc:Nat->Prop} (hp:∀b,Pr b->Pc b) {ks aJ acc:List Nat} {ls:List LO} {x:cv ls} (ht:cE σ.ob ks aJ ls=some (acc,x)) (hnd:aJ.Nodup) (hacc:∀κ∈acc,∀e l,σ.ob κ=some (.vec e l)->real R κ (.vec e l)->Pc (R κ).blk)
 (hun:∀κ∈aJ,∀o b,σ.ob κ=some o->bt w R κ o b-> ¬Pc b):Sep w R Pc (aX ks aJ ls x):=by
 have fN:=λ {i κ o} (hi:(aX ks aJ ls x)[i]?=some (κ,o))=>jF h.ob hp ht hacc hi
 refine ⟨λ i κ o hi=>(fN hi).1,λ i κ o b hi aM=> ?_,λ i j κ o af o' b hi hj hne aM gu=> ?_,λ i κ o hi aq hin=> ?_⟩
 ·obtain ⟨_,o1,q1,q2⟩:=fN hi
  exact hun κ (List.mem_of_getElem? (fB hi).1) o1 b q1 (q2.nZ.1 aM)
 ·obtain ⟨_,o1,q1,q2⟩:=fN hi
  obtain ⟨_,o2,q3,q4⟩:=fN hj
  have aa:κ≠af:=λ e=>by
   subst e
   have g1:=(fB hi).1
   have g2:=(fB hj).1
   exact hne ((List.getElem?_inj (List.getElem?_eq_some_iff.1 g1).1 hnd).1 (g1.trans g2.symm))
  exact h.eG q1 q3 aa (q2.nZ.1 aM) (q4.nZ.1 gu)
 ·obtain ⟨_,o1,q1,q2⟩:=fN hi
  exact h.qB q1 ((q2.1 R κ).1 aq) ((q2.2 w R κ _).1 hin)
theorem tV {P:Program} {f:FuncId} {c:kI} (hok:gV P f c.pos c.aT c.ls c.sig c.rs c.fn) {R:Nat->RL} {σ σ':St} (h:Inv w0 Fz av Lo R Pr σ a w) (aZ:∀b,b <w0.heap.size->Fz b\/av b) {args:List AV} {vs:List Value} (hargs:an (aA w R Pr) args vs)
 {κ:Nat} {acc ks:List Nat} {x0:cv c.ls} {xs:DL c.sig} {y:cv c.ls} {r:eC c.rs} {dst:Option Nat} (hpre:gJ σ c κ args=some (acc,ks,x0,xs)) (hfn:c.fn x0 xs=some (y,r)) {x:AV} {xA:List (Nat×Ob)} (hpost:gd (bB acc σ) dst c.pos κ ks c.aT c.ls c.rs y r=some (σ',x,xA)):
 Calls P f (vs.take c.pos++dP R κ c.ls::vs.drop c.pos).toArray w λ e w'=>∃v R' ak,e=.returned v/\Inv w0 Fz av Lo R' ak σ' a w'/\aA w' R' ak x v/\∀κ∈x.refs,σ'.ob κ≠none:=by
 unfold gJ at hpre
 split at hpre
 ·rename_i k1 x1 k2 xN mA BU
  split at hpre
  ·rename_i yd
   cases hpre
   obtain ⟨yd,BY⟩:=Bool.and_eq_true_iff.1 yd
   obtain ⟨hnd,hoff⟩:=lq yd
   unfold gd at hpost
   split at hpost
   ·rename_i zH ns fA Ae
    split at hpost
    ·rename_i σ2 fu
     obtain ⟨rfl,rfl,rfl⟩:σ2=σ'/\gA (pl c.pos (qb c.aT c.ls κ) zH)=x/\ns=xA:=by simpa using hpost
     generalize hks:bW σ.ob κ c.ls=ks at *
     let Pc:Nat->Prop:=λ b=>Pr b\/∃κ∈k1++k2,∃e m,σ.ob κ=some (.vec e m)/\real R κ (.vec e m)/\b=(R κ).blk
     have wT:∀b,Pr b->Pc b:=λ b hb=>.inl hb
     have Cu:Inv w0 Fz av Lo R Pc (bB (k1++k2) σ) a w:=gK (k1++k2) h aZ
     obtain ⟨hf,jS,hkk,Dk,Dj,Cz,Di⟩:=Cu.bT (loose c.aT c.ls κ ks)
     have hlen:(κ::ks).length=c.ls.length:=iF mA
     have hun:∀ah∈κ::ks,∀o b,σ.ob ah=some o->bt w R ah o b-> ¬Pc b:=λ ah bq o b ho aM hb=>by
      rcases hb with hb|⟨af,aD,e,m,h1,h2,h3⟩
      ·exact (h.dD ho aM).1 hb
      ·exact h.eG ho h1 (λ z=>hoff ah bq (z▸aD)) aM (.inl ⟨h2,h3⟩)
     have hsep:=h.oK (Pc:=Pc) wT mA hnd (λ af aa e m ho aq=>.inr ⟨af,List.mem_append_left _ aa,e,m,ho,aq,rfl⟩) hun
     have Aj:=lG (ak:=Pc) h.ob wT BU (λ af aa o b ho aq=>by
      obtain ⟨e,m,q⟩:=nT (List.all_eq_true.1 BY af aa)
      rw [q] at ho;cases ho
      rcases aq with ⟨aq,rfl⟩|aq
      ·exact .inr ⟨af,List.mem_append_right _ aa,e,m,q,aq,rfl⟩
      ·exact aq.elim) hargs
     have fN:=λ {i ah o} (hi:(aX ks (κ::ks) c.ls x0)[i]?=some (ah,o))=>(jF (ak:=λ _=>True) h.ob (λ _ _=>trivial) mA (λ _ _ _ _ _ _=>trivial) hi).2
     have hst:∀ah o1,ah∈κ::ks->jl o1->σ.ob ah=some o1->∃o2,(bT (loose c.aT c.ls κ ks) (bB (k1++k2) σ)).ob ah=some o2/\bk o2 o1:=λ ah o1 hm hni ho=>by
      obtain ⟨o2,q1,q2,Az⟩:=qY (k1++k2) ho (hoff ah hm) hni
      obtain ⟨o3,q3,q4⟩:=hkk ah o2 q1 Az
      exact ⟨o3,q3,q4.trans q2⟩
     let L:Nat->RL:=λ j=>R ((κ::ks).getD j 0)
     have hsame:an (λ k k'=>L k'=R k) (κ::ks) (rg c.ls):=fm hlen λ i k hk=>by
      show R ((κ::ks).getD (0+i) 0)=R k
      rw [Nat.zero_add,List.getD_eq_getElem?_getD,hk];rfl
     have AT:an (λ k k'=>R k'=L k) (rg c.ls) (κ::ks):=hsame.flip λ _ _ e=>e.symm
     have dz:an (λ k k'=>L k'=R k) ks (rg c.ls).tail:=by
      revert hsame
      cases rg c.ls with
      |nil=>exact λ z=>z.elim
      |cons _ _=>exact λ z=>z.2
     have htb:an (λ k k'=>R k'=L k) (rg c.ls).tail ks:=dz.flip λ _ _ e=>e.symm
     have vB:dP L 0 c.ls=dP R κ c.ls:=by
      cases c.ls with
      |nil=>rfl
      |cons o _=>cases o<;>rfl
     have jQ:=hok _ xs _ r hfn w Pc vs L hf.pr (Sep.relabel dz hsame hsep) Aj
     rw [vB] at jQ
     refine jQ.mono ?_
     rintro e w' ⟨ak,rv,cH,rfl,qw,hw,hg,hp1,hp2,w6,hy,hby,w9⟩
     have hs:=hg.sz
     have pG:=h.sm.sz
     let R2:Nat->RL:=λ ah=>if ah∈κ::ks then cH ((κ::ks).idxOf ah) else R ah
     have uA:∀(i ah:Nat),(κ::ks)[i]?=some ah->R2 ah=cH i:=λ i ah hi=>by
      obtain ⟨p1,p2⟩:=List.getElem?_eq_some_iff.1 hi
      show (if ah∈κ::ks then cH ((κ::ks).idxOf ah) else R ah)=_
      rw [if_pos (List.mem_of_getElem? hi),s9 hnd hi]
     have qq:∀ah,ah∉κ::ks->R2 ah=R ah:=λ ah hn=>if_neg hn
     have hy1:an (λ k k'=>cH k'=R2 k) (κ::ks) (rg c.ls):=fm hlen λ i k hk=>by
      rw [Nat.zero_add];exact (uA i k hk).symm
     have yX:an (λ k k'=>R2 k'=cH k) (rg c.ls) (κ::ks):=hy1.flip λ _ _ e=>e.symm
     have yY:an (λ k k'=>R2 k'=cH k) (rg c.ls).tail ks:=by
      revert yX
      cases rg c.ls with
      |nil=>exact λ z=>z.elim
      |cons _ _=>exact λ z=>z.2
     have Db:an (λ k k'=>cH k'=R2 k) ks (rg c.ls).tail:=yY.flip λ _ _ e=>e.symm
     have hy':Sep w' R2 ak (aX ks (κ::ks) c.ls y):=Sep.relabel yY yX hy
     have hkeys:(aX ks (κ::ks) c.ls y).map (·.1)=κ::ks:=gj y hlen
     have Aa:(aX ks (κ::ks) c.ls x0).map (·.1)=κ::ks:=gj x0 hlen
     have yS:∀ah∈κ::ks,∃(i:Nat) (o:Ob),(aX ks (κ::ks) c.ls x0)[i]?=some (ah,o):=λ ah bq=>by
      rw [<-Aa] at bq
      obtain ⟨⟨q1,q2⟩,q3,q4⟩:=List.mem_map.1 bq
      simp only at q4;subst q4
      obtain ⟨i,hi⟩:=List.getElem?_of_mem q3
      exact ⟨i,q2,hi⟩
     have hin:∀ah∈κ::ks,(bT (loose c.aT c.ls κ ks) (bB (k1++k2) σ)).ob ah≠none:=λ ah bq=>by
      obtain ⟨i,o,hi⟩:=yS ah bq
      obtain ⟨o1,q1,qs⟩:=fN hi
      obtain ⟨o2,q3,_⟩:=hst ah o1 bq (nG hi qs) q1
      rw [q3];simp
     have pH:∀b,Bl w L (bz c.ls x0) b↔∃ah∈κ::ks,∃o,(bT (loose c.aT c.ls κ ks) (bB (k1++k2) σ)).ob ah=some o/\bt w R ah o b:=λ b=>by
      constructor
      ·intro hb
       obtain ⟨i,ah,o,hi,aM⟩:=Bl.relabel dz hsame hb
       obtain ⟨o1,q1,q2⟩:=fN hi
       have hm:=List.mem_of_getElem? (fB hi).1
       obtain ⟨o2,q3,q4⟩:=hst ah o1 hm (nG hi q2) q1
       exact ⟨ah,hm,o2,q3,q4.nZ.2 (q2.nZ.1 aM)⟩
      ·rintro ⟨ah,hm,o2,q3,aM⟩
       obtain ⟨i,o,hi⟩:=yS ah hm
       obtain ⟨o1,q1,q2⟩:=fN hi
       obtain ⟨CU,Bw,q4⟩:=hst ah o1 hm (nG hi q2) q1
       rw [q3] at Bw;cases Bw
       exact Bl.relabel htb AT ⟨i,ah,o,hi,q2.nZ.2 (q4.nZ.1 aM)⟩
     have w5:∀ah,R2 ah=R ah\/∀af o,(bT (loose c.aT c.ls κ ks) (bB (k1++k2) σ)).ob af=some o->ah∉o.refs:=λ ah=>by
      by_cases hm:ah∈κ::ks
      ·obtain ⟨i,hi⟩:=List.getElem?_of_mem hm
       have hil:i <c.ls.length:=by rw [<-hlen];exact (List.getElem?_eq_some_iff.1 hi).1
       have hL:L i=R ah:=by
        show R ((κ::ks).getD i 0)=R ah
        rw [List.getD_eq_getElem?_getD,hi];rfl
       by_cases kr:c.aT=false
       ·by_cases hi0:i=0/\iz c.aT c.ls=false
        ·exact .inl (by rw [uA i ah hi,qw i hil (.inr hi0),hL])
        ·have hml:ah∈loose c.aT c.ls κ ks:=by
          unfold loose
          rw [kr]
          rw [kr] at hi0
          cases w5:iz false c.ls with
          |true=>exact List.mem_of_getElem? hi
          |false=>
           cases i with
           |zero=>exact (hi0 ⟨rfl,w5⟩).elim
           |succ i=>exact List.mem_of_getElem? (by simpa using hi)
         exact .inr (jS ah hml).2
       ·exact .inl (by rw [uA i ah hi,qw i hil (.inl (by simpa using kr)),hL])
      ·exact .inl (qq ah hm)
     have i1:=hf.y4 (aX ks (κ::ks) c.ls y) (w':=w') (R':=R2) (ak:=ak) (by rw [hkeys];exact hnd) (by rw [hkeys];exact hin) (by rw [hkeys];exact qq) (λ ah=>by
      by_cases hm:ah∈κ::ks
      ·obtain ⟨i,hi⟩:=List.getElem?_of_mem hm
       have hil:i <c.ls.length:=by rw [<-hlen];exact (List.getElem?_eq_some_iff.1 hi).1
       have hL:L i=R ah:=by
        show R ((κ::ks).getD i 0)=R ah
        rw [List.getD_eq_getElem?_getD,hi];rfl
       by_cases kr:c.aT=false
       ·by_cases hi0:i=0/\iz c.aT c.ls=false
        ·exact .inl (by rw [uA i ah hi,qw i hil (.inr hi0),hL])
        ·have hml:ah∈loose c.aT c.ls κ ks:=by
          unfold loose
          rw [kr]
          rw [kr] at hi0
          cases w5:iz false c.ls with
          |true=>exact List.mem_of_getElem? hi
          |false=>
           cases i with
           |zero=>exact (hi0 ⟨rfl,w5⟩).elim
           |succ i=>exact List.mem_of_getElem? (by simpa using hi)
         obtain ⟨m1,m2⟩:=jS ah hml
         refine .inr ⟨m1,λ af o _ ho=>m2 af o ho, ?_⟩
         have:=List.all_eq_true.1 Ae ah hml
         rw [Cz];exact this
       ·exact .inl (by rw [uA i ah hi,qw i hil (.inl (by simpa using kr)),hL])
      ·exact .inl (qq ah hm)) hy' (λ ah o hm af aD=>by
      obtain ⟨i,hi⟩:=List.getElem?_of_mem hm
      exact hin af (List.mem_cons_of_mem _ ((fB hi).2.2 af aD))) (λ b hb=>by
      rw [hkeys]
      rcases hby b (Bl.relabel yY yX hb) with q|q
      ·exact .inl ((pH b).1 q)
      ·exact .inr q) (λ b hb hall=>hw b hb (λ z=>by
      rw [hkeys] at hall
      obtain ⟨ah,m1,o,m2,m3⟩:=(pH b).1 z
      exact hall ah m1 o m2 m3)) hg hp1 (λ b hb hlt=>by
      rw [hkeys]
      exact (hp2 b hb hlt).imp id (pH b).1) w6 aZ
     obtain ⟨R',m1,m2,m3,m4,m5⟩:=fk (N:=(bB (k1++k2) σ).tmps.length) (d:=dst.getD 0) (Nw:=λ b=>w.heap.size<=b\/Bl w L (bz c.ls x0) b) (λ b hb hz=>by
      rcases hb with hb|hb
      ·have:=(h.fz b hz).1;omega
      ·obtain ⟨ah,_,o,q1,q2⟩:=(pH b).1 hb
       exact (hf.dD q1 q2).2 hz) c.rs r 0 rv _ _ _ R2 zH ns i1 (λ ah o1 b ho aM=>by
      by_cases hm:ah∈κ::ks
      ·obtain ⟨⟨q1,q2⟩,q3,q4⟩:=List.mem_map.1 (show ah∈(aX ks (κ::ks) c.ls y).map (·.1) by rw [hkeys];exact hm)
       simp only at q4;subst q4
       have e1:=e7 _ (bT (loose c.aT c.ls κ ks) (bB (k1++k2) σ)).objs q1 q2 q3 (by rw [hkeys];exact hnd) (c6 (hin q1 hm))
       have e2:(aU (bT (loose c.aT c.ls κ ks) (bB (k1++k2) σ)).objs (aX ks (κ::ks) c.ls y)).getD q1 none=some o1:=ho
       rw [e1] at e2;cases e2
       obtain ⟨i,hi⟩:=List.getElem?_of_mem q3
       exact .inr (Bl.relabel yY yX ⟨i,q1,o1,hi,aM⟩)
      ·rw [cR _ _ _ (by rw [hkeys];exact hm)] at ho
       have hnl:∀b,bt w R ah o1 b-> ¬Bl w L (bz c.ls x0) b:=λ b aM z=>by
        obtain ⟨aH,q1,o2,q2,q3⟩:=(pH b).1 z
        exact hf.eG ho q2 (λ e=>hm (e▸q1)) aM q3
       have Af:bt w R ah o1 b:=by
        rcases aM with ⟨q1,q2⟩|q1
        ·exact .inl ⟨(cm (qq ah hm) o1).1 q1,by rw [<-qq ah hm];exact q2⟩
        ·exact .inr (q1.back (qq ah hm) (λ aq=>hw _ (az.lt aq (hf.ob ah o1 ho)) (hnl _ (.inl ⟨aq,rfl⟩))) (λ aH h2=>(w5 aH).elim id (λ z=>(z ah o1 ho h2).elim)))
       refine .inl λ z=> ?_
       rcases z with z|z
       ·have:=(hf.ob ah o1 ho).pX Af;omega
       ·exact hnl b Af z) w9 fA fu
     have xg:((bT (loose c.aT c.ls κ ks) (bB (k1++k2) σ)).aG (aX ks (κ::ks) c.ls y)).ob κ≠none:=by
      obtain ⟨⟨q1,q2⟩,q3,q4⟩:=List.mem_map.1 (show κ∈(aX ks (κ::ks) c.ls y).map (·.1) by rw [hkeys];exact List.mem_cons_self ..)
      have e1:=e7 _ (bT (loose c.aT c.ls κ ks) (bB (k1++k2) σ)).objs q1 q2 q3 (by rw [hkeys];exact hnd) (c6 (hin q1 (by rw [show q1=κ from q4];exact List.mem_cons_self ..)))
      intro hz
      have Bp:(aU (bT (loose c.aT c.ls κ ks) (bB (k1++k2) σ)).objs (aX ks (κ::ks) c.ls y)).getD κ none=none:=hz
      have q5:q1=κ:=q4
      have e3:(aU (bT (loose c.aT c.ls κ ks) (bB (k1++k2) σ)).objs (aX ks (κ::ks) c.ls y)).getD κ none=some q2:=q5▸e1
      rw [e3] at Bp
      cases Bp
     have vK:an (bf w' R' ak) (qb c.aT c.ls κ) (gD c.aT c.ls cH):=by
      unfold qb gD
      cases iz c.aT c.ls with
      |false=>trivial
      |true=>
       refine ⟨?_,trivial⟩
       show (cH 0).aF=(R' κ).aF
       rw [(m4 κ xg).1,uA 0 κ rfl]
     refine ⟨dR (pl c.pos (gD c.aT c.ls cH) rv),R',ak,rfl,m1,rD (vK.pl m2 c.pos),λ af aa=> ?_⟩
     obtain ⟨c',hc,hk⟩:=p5 aa
     rcases Ay hc with hc|hc
     ·unfold qb at hc
      split at hc
      ·obtain rfl:c'=.one (.own κ):=by simpa using hc
       have:af=κ:=by simpa [Cp.refs,C.refs] using hk
       subst this
       exact (m4 af xg).2
      ·cases hc
     ·exact m3 c' hc af hk
    ·cases hpost
   ·cases hpost
  ·cases hpre
 ·cases hpre
end
end Go.Rx
