/- Reflection, part M: contracts of functions over plain data, and their calls. -/
import Derived.Test.YtollcjadobpfdaaGreatRxLx
set_option linter.unusedVariables false
set_option linter.unusedSimpArgs false
set_option linter.unusedSectionVars false
namespace Go.Rx
def kW (κ:Nat) (e:Ty) (l:List e.D) (c:C):C:=
 match c with
 | .own af=>if af=κ then .val false e l else .own af
 |c=>if c.refs.contains κ then .any else c
def pg (κ:Nat) (e:Ty) (l:List e.D):Cp->Cp
 | .one c=>.one (kW κ e l c)
 | .agg cs=>.agg (cs.map (kW κ e l))
def mg (κ:Nat) (e:Ty) (l:List e.D):AV->AV
 | .cp x=>.cp (pg κ e l x)
 | .bO vs=>.bO (vs.map (pg κ e l))
def oW {α:Type} (κ:Nat):Option (Nat×α)->Option (Nat×α)
 |some (d,L)=>match d.beq κ with
  |true=>none
  |false=>some (d,L)
 |none=>none
def eV (κ:Nat) (e:Ty) (l:List e.D):Option Ob->Option Ob
 |some (.box cs)=>some (.box (cs.map (kW κ e l)))
 |some (.map K V m it)=>some (.map K V m (oW κ it))
 |o=>o
theorem wB {K V:Ty} {m:List (K.D×V.D)} (κ:Nat) (it:Option (Nat×List (K.D×V.D)×Option (K.D×V.D))):(oW κ it=it/\κ∉(Ob.map K V m it).refs)\/oW κ it=none:=by
 unfold oW
 split
 ·rename_i d L
  split
  ·exact .inr rfl
  ·rename_i hd
   refine .inl ⟨rfl,λ hk=> ?_⟩
   simp only [Ob.refs,List.mem_singleton] at hk
   subst hk
   simp at hd
 ·exact .inr rfl
def St.bJ (σ:St) (κ:Nat):St:=
 match σ.ob κ with
 |some (.vec e l)=>⟨σ.tmps.map (mg κ e l),(σ.objs.map (eV κ e l)).set κ none⟩
 |_=>σ
section
variable {w:World} {R:Nat->RL} {Pr ak:Nat->Prop} {κ:Nat} {e:Ty} {l:List e.D}
theorem oz (hp:∀b,Pr b->ak b) (hv:ay w ak (.sl false e) l [(R κ).aF]) {c:C} {v:Value} (h:au w R Pr c v):au w R ak (kW κ e l c) v:=by
 unfold kW
 split
 ·split
  ·rename_i hk
   have h1:v=(R κ).aF:=by rw [<-hk];exact h
   rw [h1]
   exact hv
  ·exact au.move (λ _ _=>rfl) hp (λ _ _=>rfl) h
 ·split
  ·trivial
  ·exact au.move (λ _ _=>rfl) hp (λ _ _=>rfl) h
theorem mh {af:Nat} {c:C} (h:af∈(kW κ e l c).refs):af∈c.refs/\af≠κ:=by
 unfold kW at h
 split at h
 ·split at h
  ·cases h
  ·rename_i hn
   refine ⟨h,λ e=>hn ?_⟩
   simp only [C.refs,List.mem_singleton] at h
   exact h.symm.trans e
 ·split at h
  ·cases h
  ·rename_i hn
   refine ⟨h,λ e=>hn ?_⟩
   subst e
   simpa using h
theorem qX (hp:∀b,Pr b->ak b) (hv:ay w ak (.sl false e) l [(R κ).aF]) {c:Cp} {v:Value} (h:bf w R Pr c v):bf w R ak (pg κ e l c) v:=by
 cases c with
 |one c=>exact oz hp hv h
 |agg cs=>obtain ⟨vs,h1,h2⟩:=h;exact ⟨vs,h1,h2.cZ λ a _ b hb=>oz hp hv hb⟩
theorem pq {af:Nat} {c:Cp} (h:af∈(pg κ e l c).refs):af∈c.refs/\af≠κ:=by
 cases c with
 |one c=>exact mh h
 |agg cs=>
  obtain ⟨c,hc,hk⟩:=List.mem_flatMap.1 h
  obtain ⟨d,hd,rfl⟩:=List.mem_map.1 hc
  have:=mh hk
  exact ⟨List.mem_flatMap.2 ⟨d,hd,this.1⟩,this.2⟩
theorem x4 (hp:∀b,Pr b->ak b) (hv:ay w ak (.sl false e) l [(R κ).aF]) {c:AV} {v:Value} (h:aA w R Pr c v):aA w R ak (mg κ e l c) v:=by
 cases c with
 |cp c=>exact qX hp hv h
 |bO cs=>obtain ⟨vs,h1,h2⟩:=h;exact ⟨vs,h1,h2.cZ λ a _ b hb=>qX hp hv hb⟩
theorem wR {af:Nat} {c:AV} (h:af∈(mg κ e l c).refs):af∈c.refs/\af≠κ:=by
 cases c with
 |cp c=>exact pq h
 |bO cs=>
  obtain ⟨c,hc,hk⟩:=List.mem_flatMap.1 h
  obtain ⟨d,hd,rfl⟩:=List.mem_map.1 hc
  have:=pq hk
  exact ⟨List.mem_flatMap.2 ⟨d,hd,this.1⟩,this.2⟩
end
theorem lH {w:World} {R:Nat->RL} {Pr ak:Nat->Prop} {κ:Nat} {e:Ty} {l:List e.D} (h:az w R Pr κ (.vec e l)) (hp:∀b,Pr b->ak b) (hk:real R κ (.vec e l)->ak (R κ).blk):ay w ak (.sl false e) l [(R κ).aF]:=by
 obtain ⟨h0,h⟩:=h
 rcases h with ⟨h1,h2⟩|⟨off,cap,cells,el,h1,h2,h3,h4,h5⟩
 ·subst h2
  exact ⟨none,0,by rw [h1];rfl,Nat.le_refl _,λ _=>rfl,λ h=>(h rfl).elim⟩
 ·refine ⟨_,cap,by rw [h1];rfl,h2,(λ z=>by cases z),λ _=>⟨_,off,cells,el,_,rfl,hk (λ z=>by rw [z] at h1;cases h1),h3,λ i y hi=> ?_⟩⟩
  obtain ⟨us,k1,k2⟩:=h5 i y hi
  exact ⟨us,k1,k2.move (λ _ _=>rfl) hp⟩
section
variable {w0:World} {Fz av:Nat->Prop} {Lo:Nat->RL} {R:Nat->RL} {Pr:Nat->Prop} {σ:St} {a:Act} {w:World}
theorem Inv.bJ (h:Inv w0 Fz av Lo R Pr σ a w) (κ:Nat) (aZ:∀b,b <w0.heap.size->Fz b\/av b):Inv w0 Fz av Lo R (λ b=>Pr b\/∃e l,σ.ob κ=some (.vec e l)/\real R κ (.vec e l)/\b=(R κ).blk) (σ.bJ κ) a w:=by
 have jR:∀{hD fJ:Nat->Prop} {σ':St},(∀b,hD b↔fJ b)->Inv w0 Fz av Lo R hD σ' a w->Inv w0 Fz av Lo R fJ σ' a w:=λ h1 h2=>by
  have:_=_:=funext λ b=>propext (h1 b)
  rw [<-this];exact h2
 cases aj:σ.ob κ with
 |none=>exact jR (λ b=>⟨.inl,λ g=>g.elim id (λ ⟨_,_,g,_⟩=>by cases g)⟩) (by unfold St.bJ;rw [aj];exact h)
 |some o=>
  cases o with
  |box cs=>exact jR (λ b=>⟨.inl,λ g=>g.elim id (λ ⟨_,_,g,_⟩=>by cases g)⟩) (by unfold St.bJ;rw [aj];exact h)
  |cG _ _=>exact jR (λ b=>⟨.inl,λ g=>g.elim id (λ ⟨_,_,g,_⟩=>by cases g)⟩) (by unfold St.bJ;rw [aj];exact h)
  |tok _=>exact jR (λ b=>⟨.inl,λ g=>g.elim id (λ ⟨_,_,g,_⟩=>by cases g)⟩) (by unfold St.bJ;rw [aj];exact h)
  |map _ _ _ _=>exact jR (λ b=>⟨.inl,λ g=>g.elim id (λ ⟨_,_,g,_⟩=>by cases g)⟩) (by unfold St.bJ;rw [aj];exact h)
  |set l=>exact jR (λ b=>⟨.inl,λ g=>g.elim id (λ ⟨_,_,g,_⟩=>by cases g)⟩) (by unfold St.bJ;rw [aj];exact h)
  |rows _ _ _=>exact jR (λ b=>⟨.inl,λ g=>g.elim id (λ ⟨_,_,g,_⟩=>by cases g)⟩) (by unfold St.bJ;rw [aj];exact h)
  |vec e l=>
   have hlt:κ <σ.objs.length:=by
    rcases Nat.lt_or_ge κ σ.objs.length with g|g
    ·exact g
    ·unfold St.ob at aj;rw [List.getD_eq_getElem?_getD,List.getElem?_eq_none g] at aj;cases aj
   let ak:Nat->Prop:=λ b=>Pr b\/(real R κ (.vec e l)/\b=(R κ).blk)
   have hp:∀b,Pr b->ak b:=λ b hb=>.inl hb
   have hv:ay w ak (.sl false e) l [(R κ).aF]:=lH (h.ob κ _ aj) hp (λ aq=>.inr ⟨aq,rfl⟩)
   have hfr:σ.bJ κ=⟨σ.tmps.map (mg κ e l),(σ.objs.map (eV κ e l)).set κ none⟩:=by unfold St.bJ;rw [aj]
   have bG:∀t,(σ.bJ κ).get t=mg κ e l (σ.get t):=λ t=>by
    rw [hfr]
    unfold St.get
    simp only [List.getD_eq_getElem?_getD,List.getElem?_map]
    cases σ.tmps[t]?<;>simp [mg,pg,kW,C.refs]
   have fH:∀af,(σ.bJ κ).ob af=if af=κ then none else eV κ e l (σ.ob af):=λ af=>by
    rw [hfr]
    unfold St.ob
    simp only [List.getD_eq_getElem?_getD,List.getElem?_set,List.length_map,List.getElem?_map]
    by_cases g:κ=af
    ·subst g;simp [hlt]
    ·rw [if_neg g,if_neg (λ z=>g z.symm)]
     cases σ.objs[af]?<;>simp [eV]
   have hsome:∀af o',(σ.bJ κ).ob af=some o'->af≠κ/\∃o1,σ.ob af=some o1/\((∃cs,o1=.box cs/\o'=.box (cs.map (kW κ e l)))\/(o'=o1/\κ∉o1.refs)\/∃K V m it,o1=.map K V m it/\o'=.map K V m none):=λ af o' ho=>by
    rw [fH] at ho
    split at ho
    ·cases ho
    ·rename_i hne
     refine ⟨hne, ?_⟩
     cases hx:σ.ob af with
     |none=>rw [hx] at ho;cases ho
     |some o1=>
      rw [hx] at ho
      cases o1 with
      |box cs=>simp only [eV] at ho;cases ho;exact ⟨_,rfl,.inl ⟨_,rfl,rfl⟩⟩
      |vec e2 l2=>simp only [eV] at ho;cases ho;exact ⟨_,rfl,.inr (.inl ⟨rfl,λ z=>by cases z⟩)⟩
      |set l2=>simp only [eV] at ho;cases ho;exact ⟨_,rfl,.inr (.inl ⟨rfl,λ z=>by cases z⟩)⟩
      |cG e2 l2=>simp only [eV] at ho;cases ho;exact ⟨_,rfl,.inr (.inl ⟨rfl,λ z=>by cases z⟩)⟩
      |tok l2=>simp only [eV] at ho;cases ho;exact ⟨_,rfl,.inr (.inl ⟨rfl,λ z=>by cases z⟩)⟩
      |rows e2 l2 h2=>simp only [eV] at ho;cases ho;exact ⟨_,rfl,.inr (.inl ⟨rfl,λ z=>by cases z⟩)⟩
      |map K V m it=>
       simp only [eV] at ho;cases ho
       rcases wB (K:=K) (V:=V) (m:=m) κ it with ⟨q1,q2⟩|q1
       ·exact ⟨_,rfl,.inr (.inl ⟨by rw [q1],q2⟩)⟩
       ·exact ⟨_,rfl,.inr (.inr ⟨K,V,m,it,rfl,by rw [q1]⟩)⟩
   have hkeep:∀af,σ.ob af≠none->af≠κ->(σ.bJ κ).ob af≠none:=λ af h1 h2=>by
    rw [fH,if_neg h2]
    cases hx:σ.ob af with
    |none=>exact (h1 hx).elim
    |some o1=>cases o1<;>simp [eV]
   refine jR (hD:=ak) (λ b=>⟨λ g=>g.imp id (λ g=>⟨e,l,rfl,g.1,g.2⟩),λ g=>g.imp id (λ ⟨e',l',g1,g2,g3⟩=>by cases g1;exact ⟨g2,g3⟩)⟩) { h with fx:=λ af aD=>h.fx af (by rw [hfr] at aD;simpa using aD),tm:=λ t=> ?_,sz:= ?_,ob:=λ af o' ho=> ?_,un:=λ af o' ho aq=> ?_,ds:=λ ah aH o1 o2 h1 h2 w8 pJ hne=> ?_,wt:=λ t af hk=> ?_,wo:=λ ah o1 aH h1 hk=> ?_,pr:=λ b hb=> ?_,po:=λ b hb hb'=> ?_,lm:=λ ah o1 b h1 hb=> ?_ }
   ·rw [bG];exact x4 hp hv (h.tm t)
   ·rw [hfr];simpa using h.sz
   ·obtain ⟨hne,o1,h1,⟨cs,rfl,rfl⟩|⟨rfl,ir⟩|⟨K,V,m,it,rfl,rfl⟩⟩:=hsome af o' ho
    ·obtain ⟨el,vs,g1,g2⟩:=h.ob af _ h1
     exact ⟨el,vs,g1,g2.cZ λ a _ b hb=>oz hp hv hb⟩
    ·exact az.move (λ _ _=>rfl) hp (λ _=>rfl) rfl (λ _ _=>rfl) (h.ob af _ h1)
    ·obtain ⟨es,clock,g1,g2,g3,g4,_⟩:=h.ob af _ h1
     exact ⟨es,clock,g1,g2,g3,λ i kv en q1 q2=>(g4 i kv en q1 q2).move (λ _ _=>rfl) hp,λ _ _ _ z=>by cases z⟩
   ·obtain ⟨hne,o1,h1,hh⟩:=hsome af o' ho
    have jx:real R af o1:=by
     rcases hh with ⟨cs,rfl,rfl⟩|⟨rfl,ir⟩|⟨K,V,m,it,rfl,rfl⟩
     ·trivial
     ·exact aq
     ·trivial
    have:=h.un af o1 h1 jx
    refine ⟨λ z=> ?_,this.2⟩
    rcases z with z|⟨z1,z2⟩
    ·exact this.1 z
    ·exact h.ds af κ o1 _ h1 aj jx z1 hne z2
   ·obtain ⟨_,x1,g1,yQ⟩:=hsome ah o1 h1
    obtain ⟨_,x2,g2,Cw⟩:=hsome aH o2 h2
    refine h.ds ah aH x1 x2 g1 g2 ?_ ?_ hne
    ·rcases yQ with ⟨cs,rfl,rfl⟩|⟨rfl,ir⟩|⟨K,V,m,it,rfl,rfl⟩
     ·trivial
     ·exact w8
     ·trivial
    ·rcases Cw with ⟨cs,rfl,rfl⟩|⟨rfl,ir⟩|⟨K,V,m,it,rfl,rfl⟩
     ·trivial
     ·exact pJ
     ·trivial
   ·rw [bG] at hk
    have:=wR hk
    exact hkeep af (h.wt t af this.1) this.2
   ·obtain ⟨_,x1,g1,⟨cs,rfl,rfl⟩|⟨rfl,ir⟩|⟨K,V,m,it,rfl,rfl⟩⟩:=hsome ah o1 h1
    ·obtain ⟨c,hc,hk⟩:=List.mem_flatMap.1 hk
     obtain ⟨d,hd,rfl⟩:=List.mem_map.1 hc
     have:=mh hk
     exact hkeep aH (h.wo ah _ aH g1 (List.mem_flatMap.2 ⟨d,hd,this.1⟩)) this.2
    ·exact hkeep aH (h.wo ah _ aH g1 hk) (λ e=>ir (e▸hk))
    ·cases hk
   ·rcases hb with hb|⟨ig,rfl⟩
    ·exact h.pr b hb
    ·exact az.lt ig (h.ob κ _ aj)
   ·rcases hb' with hb'|⟨ig,rfl⟩
    ·exact h.po b hb hb'
    ·exact (aZ _ hb).elim (λ g=>((h.un κ _ aj ig).2 g).elim) id
   ·obtain ⟨_,x1,g1,yQ⟩:=hsome ah o1 h1
    have e1:o1=x1:=by
     rcases yQ with ⟨cs,rfl,rfl⟩|⟨rfl,_⟩|⟨K,V,m,it,rfl,rfl⟩
     ·exact hb.elim
     ·rfl
     ·obtain ⟨_,_,z,_⟩:=hb;cases z
    subst e1
    obtain ⟨a1,a2,a3⟩:=h.lm ah _ b g1 hb
    refine ⟨λ z=>z.elim a1 λ z=>(a3 κ _ aj).1 z.1 z.2.symm,a2,λ aH o2 h2=> ?_⟩
    obtain ⟨_,x2,g2,⟨cs,rfl,rfl⟩|⟨rfl,_⟩|⟨K,V,m,it,rfl,rfl⟩⟩:=hsome aH o2 h2
    ·exact ⟨λ _=>(a3 aH _ g2).1 trivial,λ _ hi=>hi.elim⟩
    ·exact a3 aH _ g2
    ·exact ⟨λ _=>(a3 aH _ g2).1 trivial,λ _ hi=>by obtain ⟨_,_,z,_⟩:=hi;cases z⟩
def St.rN (σ:St) (κ:Nat):St:=
 match σ.ob κ with
 |some (.rows e ll none t 0 xs)=>σ.aK κ (some (.vec (.sl false e) ll))
 |some (.rows e ll none t (m+1) xs)=>σ.aK κ (some (.vec (eR t (.sl false e)) (gB t e xs ll)))
 |_=>σ
theorem Inv.AH (h:Inv w0 Fz av Lo R Pr σ a w) (κ:Nat) (aZ:∀b,b <w0.heap.size->Fz b\/av b) {e:Ty} {ll:List (List e.D)} {tt:Ty} {mm:Nat} {xs:List tt.D} (aj:σ.ob κ=some (.rows e ll none tt mm xs)) {ee:Ty} {lv:List ee.D}
 (kY:∀ak:Nat->Prop,(∀b,Pr b->ak b)->(∀b,bM w R κ (.rows e ll none tt mm xs) b->ak b)->az w R ak κ (.vec ee lv)):∃ak,Inv w0 Fz av Lo R ak (σ.aK κ (some (.vec ee lv))) a w:=by
 have hlt:=c6 (σ:=σ) (κ:=κ) (by rw [aj];simp)
 let ak:Nat->Prop:=λ b=>Pr b\/bM w R κ (.rows e ll none tt mm xs) b
 have hp:∀b,Pr b->ak b:=λ b hb=>.inl hb
 have hs:∀ah x,(σ.aK κ (some (.vec ee lv))).ob ah=some x->(ah=κ/\x=.vec ee lv)\/(ah≠κ/\σ.ob ah=some x):=λ ah x hx=>by
  rw [St.aL] at hx
  by_cases g:κ=ah
  ·rw [if_pos ⟨g,hlt⟩] at hx;cases hx;exact .inl ⟨g.symm,rfl⟩
  ·rw [if_neg (λ z=>g z.1)] at hx;exact .inr ⟨λ z=>g z.symm,hx⟩
 have hne:∀ah,σ.ob ah≠none->(σ.aK κ (some (.vec ee lv))).ob ah≠none:=λ ah hk1=>by
  rw [St.aL]
  split
  ·simp
  ·exact hk1
 have hin:∀b,bM w R κ (.rows e ll none tt mm xs) b->_:=λ b hb=>h.lm κ _ b aj hb
 refine ⟨ak,{ h with tm:=λ t=>aA.move (λ _ _=>rfl) hp (λ _ _=>rfl) (h.tm t),ob:=λ ah x hx=> ?_,un:=λ ah x hx aq=> ?_,ds:=λ ah aH x1 x2 h1 h2 w8 pJ hkk=> ?_,wt:=λ t ah hk=>hne ah (h.wt t ah hk),wo:=λ ah x aH hx hk=> ?_,pr:=λ b hb=> ?_,po:=λ b hb hb'=> ?_,fx:=λ ah hk=>h.fx ah (by simpa [St.aK] using hk),lm:=λ ah x b hx hb=> ?_ }⟩
 ·rcases hs ah x hx with ⟨rfl,rfl⟩|⟨hk,hx⟩
  ·exact kY ak hp λ b hb=>.inr hb
  ·exact az.move (λ _ _=>rfl) hp (λ _=>rfl) rfl (λ _ _=>rfl) (h.ob ah x hx)
 ·rcases hs ah x hx with ⟨rfl,rfl⟩|⟨hk,hx⟩
  ·have:=h.un _ _ aj aq
   exact ⟨λ z=>z.elim this.1 λ z=>((hin _ z).2.2 _ _ aj).1 aq rfl,this.2⟩
  ·have:=h.un ah x hx aq
   exact ⟨λ z=>z.elim this.1 λ z=>((hin _ z).2.2 ah x hx).1 aq rfl,this.2⟩
 ·rcases hs ah x1 h1 with ⟨rfl,rfl⟩|⟨hk1,g1⟩
  ·rcases hs aH x2 h2 with ⟨rfl,rfl⟩|⟨hk2,g2⟩
   ·exact (hkk rfl).elim
   ·exact h.ds _ aH _ x2 aj g2 w8 pJ hkk
  ·rcases hs aH x2 h2 with ⟨rfl,rfl⟩|⟨hk2,g2⟩
   ·exact h.ds ah _ x1 _ g1 aj w8 pJ hkk
   ·exact h.ds ah aH x1 x2 g1 g2 w8 pJ hkk
 ·rcases hs ah x hx with ⟨rfl,rfl⟩|⟨hk1,hx⟩
  ·cases hk
  ·exact hne aH (h.wo ah x aH hx hk)
 ·exact hb.elim (h.pr b) λ hb=>(h.ob _ _ aj).eF hb
 ·exact hb'.elim (h.po b hb) λ z=>(aZ b hb).elim (λ g=>((hin b z).2.1 g).elim) id
 ·rcases hs ah x hx with ⟨rfl,rfl⟩|⟨hk1,hx⟩
  ·exact hb.elim
  ·obtain ⟨a1,a2,a3⟩:=h.lm ah x b hx hb
   refine ⟨λ z=>z.elim a1 λ z=>(a3 κ _ aj).2 (λ z=>hk1 z.symm) z,a2,λ aH x2 hx2=> ?_⟩
   rcases hs aH x2 hx2 with ⟨rfl,rfl⟩|⟨hk2,hx2⟩
   ·exact ⟨λ aq=>(a3 _ _ aj).1 aq,λ _ hi=>hi.elim⟩
   ·exact a3 aH x2 hx2
theorem Inv.rN (h:Inv w0 Fz av Lo R Pr σ a w) (κ:Nat) (aZ:∀b,b <w0.heap.size->Fz b\/av b):∃ak,Inv w0 Fz av Lo R ak (σ.rN κ) a w:=by
 unfold St.rN
 split
 ·rename_i e ll tt xs aj
  exact h.AH κ aZ aj λ ak hp hin=>(h.ob _ _ aj).y8 hp hin
 ·rename_i e ll tt mm xs aj
  exact h.AH κ aZ aj λ ak hp hin=>(h.ob _ _ aj).y9 hp hin
 ·exact ⟨Pr,h⟩
theorem pz (σ:St) (κ af:Nat) (aa:κ <σ.objs.length) {e:Ty} {l:List e.D}:(σ.bJ κ).ob af=some (.vec e l)↔(σ.ob af=some (.vec e l)/\ ¬(af=κ/\∃e l,σ.ob κ=some (.vec e l))):=by
 cases aj:σ.ob κ with
 |none=>unfold St.bJ;rw [aj];simp
 |some o=>
  cases o with
  |box cs=>unfold St.bJ;rw [aj];simp
  |set l=>unfold St.bJ;rw [aj];simp
  |cG _ _=>unfold St.bJ;rw [aj];simp
  |tok _=>unfold St.bJ;rw [aj];simp
  |map _ _ _ _=>unfold St.bJ;rw [aj];simp
  |rows _ _ _=>unfold St.bJ;rw [aj];simp
  |vec e2 l2=>
   have hfr:σ.bJ κ=⟨σ.tmps.map (mg κ e2 l2),(σ.objs.map (eV κ e2 l2)).set κ none⟩:=by unfold St.bJ;rw [aj]
   rw [hfr]
   unfold St.ob
   simp only [List.getD_eq_getElem?_getD,List.getElem?_set,List.length_map,List.getElem?_map]
   by_cases g:κ=af
   ·subst g;simp [aa]
   ·rw [if_neg g]
    have g': ¬af=κ:=λ z=>g z.symm
    cases hx:σ.objs[af]? with
    |none=>simp
    |some o1=>
     cases o1 with
     |none=>simp [eV]
     |some o2=>cases o2<;>simp [eV,g']
theorem Inv.zp (h:Inv w0 Fz av Lo R Pr σ a w) {κ d j:Nat} {e:Ty} {ll:List (List e.D)} {tt:Ty} {mm:Nat} {xs:List tt.D} (aj:σ.ob κ=some (.rows e ll none tt mm xs)) (hj:j <ll.length) (hd:σ.ob d=none) (hok:fE d σ.objs.length=true):
 ∃(loc:RL) (o n c:Nat) (cells:Array Value) (el:TypeId),(R κ).aF=.slice (some ⟨(R κ).blk,o,none⟩) n c/\w.heap[(R κ).blk]?=some (.cells cells el (0,0))/\cells[o+cw mm j]?=some loc.aF/\
  Inv w0 Fz av Lo (λ af=>if af=d then loc else R af) Pr ((σ.aK κ (some (.rows e ll (some j) tt mm xs))).aK d (some (.vec e (ll.getD j [])))) a w:=by
 obtain ⟨h0,⟨_,hl,_⟩|⟨off,cap,cells,el,h1,h2,h3,h4,h5,h6,h7⟩⟩:=h.ob κ _ aj
 ·subst hl;simp at hj
 have gN:(R κ).aF≠ .slice none 0 0:=λ z=>by rw [h1] at z;cases z
 have hrow:ll[j]?=some (ll.getD j []):=by rw [List.getD_eq_getElem?_getD,List.getElem?_eq_getElem hj];rfl
 obtain ⟨v,k1,k2⟩:=h5 j _ hrow (by simp)
 have mo:d≠κ:=λ z=>by rw [z,aj] at hd;cases hd
 have hi1:=h.upd κ _ (.rows e ll (some j) tt mm xs) aj (w':=w) (R':=R) (λ _ _=>rfl) (.inl rfl) (λ _ _ _=>rfl) (Grow.refl _) (λ _=>.inr ⟨gN,rfl⟩)
  ⟨h0,.inr ⟨off,cap,cells,el,h1,h2,h3,h4,λ j' row hj' _=>h5 j' row hj' (by simp),λ j1 j2 v1 v2 b q1 _ _ q4 q5=>h6 j1 j2 v1 v2 b q1 (by simp) (by simp) q4 q5,h7⟩⟩ (λ af aa=>by cases aa)
  (λ b hb=>by
    obtain ⟨o1,n1,c1,zF,dm,j1,v1,q1,q2,q3,q4,q5,q6⟩:=hb
    obtain ⟨a1,a2,a3⟩:=h.lm κ _ b aj ⟨o1,n1,c1,zF,dm,j1,v1,q1,q2,q3,by simp,q5,q6⟩
    exact ⟨a1,a2,(a3 κ _ aj).1 gN,λ ah x1 hne hx1=>⟨(a3 ah x1 hx1).1,(a3 ah x1 hx1).2 hne⟩⟩)
 have A1:=c6 (σ:=σ) (κ:=κ) (by rw [aj];simp)
 have ep:(σ.aK κ (some (.rows e ll (some j) tt mm xs))).ob d=none:=by
  rw [St.aL,if_neg (λ z=>mo z.1.symm)];exact hd
 have hold:∀ah x,(σ.aK κ (some (.rows e ll (some j) tt mm xs))).ob ah=some x->(ah=κ/\x=.rows e ll (some j) tt mm xs)\/(ah≠κ/\σ.ob ah=some x):=λ ah x hx=>by
  rw [St.aL] at hx
  by_cases g:κ=ah
  ·rw [if_pos ⟨g,A1⟩] at hx;cases hx;exact .inl ⟨g.symm,rfl⟩
  ·rw [if_neg (λ z=>g z.1)] at hx;exact .inr ⟨λ z=>g z.symm,hx⟩
 rcases k2 with ⟨rfl,hnil⟩|⟨blk,o2,c2,zG,sM,rfl,m2,m3,m4,m5⟩
 ·refine ⟨⟨0,none,0,0⟩,off,_,cap,cells,el,h1,h3,k1,hi1.add d (.vec e (ll.getD j [])) _ ep (by simpa [St.aK] using hok) rfl ⟨by rw [hnil];simp,.inl ⟨by simp [RL.aF],hnil⟩⟩ (λ κ aa=>by cases aa) (λ aq=>(aq (by simp [RL.aF])).elim)⟩
 ·refine ⟨⟨blk,some ⟨blk,o2,none⟩,(ll.getD j []).length,c2⟩,off,_,cap,cells,el,h1,h3,k1,hi1.add d (.vec e (ll.getD j [])) _ ep (by simpa [St.aK] using hok) rfl ⟨by simp,.inr ⟨o2,c2,zG,sM,by simp [RL.aF],m2,by simp [m3],m4,m5⟩⟩ (λ κ aa=>by cases aa) (λ aq=> ?_)⟩
  obtain ⟨a1,a2,a3⟩:=h.lm κ _ blk aj ⟨off,_,cap,cells,el,j,_,h1,h3,hj,by simp,k1,rfl⟩
  refine ⟨a1,a2,λ ah x hx=> ?_⟩
  rcases hold ah x hx with ⟨rfl,rfl⟩|⟨hne,hx⟩
  ·refine ⟨λ _=>(a3 _ _ aj).1 gN,λ hb=> ?_⟩
   obtain ⟨o1,n1,c1,zF,dm,j1,v1,q1,q2,q3,q4,q5,q6⟩:=hb
   rw [h1] at q1
   rw [h3] at q2
   cases q1;cases q2
   exact h6 j j1 _ _ blk (λ z=>q4 (by rw [z])) (by simp) (by simp) hj q3 k1 q5 rfl q6
  ·exact ⟨(a3 ah x hx).1,(a3 ah x hx).2 hne⟩
def St.gone (σ:St) (d:Nat):St:=(σ.kill d).aK d none
theorem Inv.gone (h:Inv w0 Fz av Lo R Pr σ a w) (d:Nat):Inv w0 Fz av Lo R Pr (σ.gone d) a w/\∀κ,κ≠d->(σ.gone d).ob κ=bS d (σ.ob κ):=by
 obtain ⟨h1,h2,h3⟩:=h.kill d
 have bG:∀κ,κ≠d->(σ.gone d).ob κ=(σ.kill d).ob κ:=λ κ aa=>by
  unfold St.gone
  rw [St.aL,if_neg (λ z=>aa z.1.symm)]
 have hsome:∀κ o,(σ.gone d).ob κ=some o->κ≠d/\(σ.kill d).ob κ=some o:=λ κ o ho=>by
  by_cases e:κ=d
  ·subst e
   exfalso
   unfold St.gone at ho
   rw [St.aL] at ho
   split at ho
   ·cases ho
   ·rename_i hn
    exact hn ⟨rfl,c6 (by rw [ho];simp)⟩
  ·exact ⟨e,by rw [<-bG κ e];exact ho⟩
 refine ⟨h1.weak _ (by simpa [St.gone,St.aK] using h1.sz) (by simp [St.gone,St.aK]) (λ t u hu=>hu) (λ κ o' ho=>⟨o',(hsome κ o' ho).2,id,id,λ _ h=>h⟩) (λ t κ hk=> ?_) (λ af o κ ho hk=> ?_),λ κ aa=>by rw [bG κ aa,dx]⟩
 ·have hne:κ≠d:=λ e=>h2 t (e▸hk)
  rw [bG κ hne];exact h1.wt t κ hk
 ·have ho':=(hsome af o ho).2
  have hne:κ≠d:=λ e=>h3 af o ho' (e▸hk)
  rw [bG κ hne];exact h1.wo af o κ ho' hk
theorem Inv.zg (h:Inv w0 Fz av Lo R Pr σ a w) {κ d j:Nat} {e:Ty} {ll:List (List e.D)} {l:List e.D} {tt:Ty} {mm:Nat} {xs:List tt.D} (aj:σ.ob κ=some (.rows e ll (some j) tt mm xs)) (hj:j <ll.length) (hd:σ.ob d=some (.vec e l)) {off n cap:Nat} {cells cur:Array Value} {el:TypeId}
 (hh:(R κ).aF=.slice (some ⟨(R κ).blk,off,none⟩) n cap) (hc:w.heap[(R κ).blk]?=some (.cells cells el (0,0))) (eW:∀q,cur[q]?=if q=off+cw mm j then some (R d).aF else cells[q]?) (hsz:cur.size=cells.size):
 Inv w0 Fz av Lo R Pr ((σ.gone d).aK κ (some (.rows e (ll.set j l) none tt mm xs))) a (w.setRow (R κ).blk cur):=by
 have mo:κ≠d:=λ z=>by subst z;rw [aj] at hd;cases hd
 obtain ⟨g1,g2⟩:=h.gone d
 have BR:(σ.gone d).ob κ=some (.rows e ll (some j) tt mm xs):=by rw [g2 κ mo,aj];rfl
 obtain ⟨h0,⟨_,hl,_⟩|⟨off',cap',cells',yG,h1,h2,h3,h4,h5,h6,h7⟩⟩:=h.ob κ _ aj
 ·subst hl;simp at hj
 have gN:(R κ).aF≠ .slice none 0 0:=λ z=>by rw [h1] at z;cases z
 rw [h1] at hh
 rw [h3] at hc
 cases hh;cases hc
 have ne:∀{a b:Nat},a≠b->off+cw mm a≠off+cw mm b:=λ h z=>h (zl (m:=mm) (by omega))
 have bw:∀b,b≠(R κ).blk->(w.setRow (R κ).blk cur).heap[b]?=w.heap[b]?:=λ b hb=>setRow_other w _ b _ hb
 have hun:=h.un κ _ aj gN
 have vE:∀b,bM w R κ (.rows e ll (some j) tt mm xs) b->_:=λ b hb=>h.lm κ _ b aj hb
 have hold:∀j',j' <ll.length->j'≠j->∀v,cells[off+cw mm j']?=some v->∀b,mF v=some b->bM w R κ (.rows e ll (some j) tt mm xs) b:=λ j' q1 q2 v q3 b q4=>⟨off,_,cap,cells,el,j',v,h1,h3,q1,λ z=>q2 (by injection z with z;exact z.symm),q3,q4⟩
 have hrow:kJ (w.setRow (R κ).blk cur) Pr e l (R d).aF/\∀b,mF (R d).aF=some b->real R d (.vec e l)/\b=(R d).blk:=by
  obtain ⟨_,m⟩:=h.ob d _ hd
  rcases m with ⟨m1,m2⟩|⟨o2,c2,zG,sM,m1,m2,m3,m4,m5⟩
  ·exact ⟨.inl ⟨m1,m2⟩,λ b hb=>by rw [m1] at hb;cases hb⟩
  ·have aq:real R d (.vec e l):=λ z=>by rw [m1] at z;cases z
   refine ⟨.inr ⟨_,o2,c2,zG,sM,m1,m2,by rw [bw _ (h.ds d κ _ _ hd aj aq gN mo.symm)];exact m3,m4,λ i y hi=> ?_⟩,λ b hb=>⟨aq,by rw [m1] at hb;exact (Option.some.inj hb).symm⟩⟩
   obtain ⟨us,q1,q2⟩:=m5 i y hi
   exact ⟨us,q1,q2.move (λ b hb=>bw b (λ z=>hun.1 (z▸hb))) (λ _ h=>h)⟩
 have s7:(w.setRow (R κ).blk cur).heap[(R κ).blk]?=some (.cells cur el (0,0)):=dL w _ h3
 refine g1.upd κ _ (.rows e (ll.set j l) none tt mm xs) BR (w':=w.setRow (R κ).blk cur) (R':=R) (λ _ _=>rfl) (.inl rfl) (λ b _ hne=>bw b (hne gN)) ⟨by simp,rfl,rfl,rfl,(by first|exact Nat.le_refl _|exact Nat.le_succ _|exact Nat.le_add_right _ _)⟩ (λ _=>.inr ⟨gN,rfl⟩) ?_ (λ af aa=>by cases aa) ?_
 ·refine ⟨by rw [List.length_set];exact h0,.inr ⟨off,cap,cur,el,by rw [List.length_set];exact h1,by rw [List.length_set];exact h2,s7,by omega,λ j' row hj' _=> ?_,λ j1 j2 v1 v2 b q1 _ _ q4 q5 q6 q7 q8=> ?_,by rw [List.length_set];exact h7.1,λ j' x hm hx=> ?_⟩⟩
  ·rw [List.getElem?_set] at hj'
   by_cases e1:j=j'
   ·subst e1
    rw [if_pos rfl,if_pos hj] at hj'
    cases hj'
    exact ⟨_,by rw [eW,if_pos rfl],hrow.1⟩
   ·rw [if_neg e1] at hj'
    obtain ⟨v,q1,q2⟩:=h5 j' row hj' (λ z=>e1 (by injection z))
    have hlt:=(List.getElem?_eq_some_iff.1 hj').1
    refine ⟨v,by rw [eW,if_neg (ne (λ z=>e1 z.symm))];exact q1,q2.move (λ b hb=>bw b (λ z=>hun.1 (z▸hb))) (λ _ h=>h) (λ b hb=>bw b λ z=> ?_)⟩
    have:=vE b (hold j' hlt (λ z=>e1 z.symm) v q1 b hb)
    exact (this.2.2 κ _ aj).1 gN z.symm
  ·rw [List.length_set] at q4 q5
   rw [eW] at q6 q7
   by_cases e1:j1=j
   ·subst e1
    rw [if_pos rfl] at q6
    rw [if_neg (ne q1.symm)] at q7
    obtain ⟨m1,m2⟩:=hrow.2 b (by rw [<-q8];cases q6;rfl)
    intro hb
    have:=vE b (hold j2 q5 (λ z=>q1 z.symm) v2 q7 b hb)
    exact (this.2.2 d _ hd).1 m1 m2.symm
   ·rw [if_neg (ne e1)] at q6
    by_cases e2:j2=j
    ·subst e2
     rw [if_pos rfl] at q7
     intro hb
     obtain ⟨m1,m2⟩:=hrow.2 b (by cases q7;exact hb)
     have:=vE b (hold j1 q4 q1 v1 q6 b q8)
     exact (this.2.2 d _ hd).1 m1 m2.symm
    ·rw [if_neg (ne e2)] at q7
     exact h6 j1 j2 v1 v2 b q1 (λ z=>e1 (by injection z with z;exact z.symm)) (λ z=>e2 (by injection z with z;exact z.symm)) q4 q5 q6 q7 q8
  ·obtain ⟨us,q1,q2⟩:=h7.2 j' x hm hx
   have hmn:mm=tt.n:=(h7.1.resolve_left hm).1
   have gv:us.length=mm:=by rw [ay.len q2,hmn]
   refine ⟨us,λ c u hu=> ?_,q2.move (λ b hb=>bw b (λ z=>hun.1 (z▸hb))) (λ _ h=>h)⟩
   have hc:=(List.getElem?_eq_some_iff.1 hu).1
   rw [eW,if_neg (λ z=>AB (m:=mm) (i:=j') (j:=j) (c:=c) (by omega) (by omega))]
   exact q1 c u hu
 ·rintro b ⟨o1,n1,c1,zF,dm,j1,v1,q1,q2,q3,q4,q5,q6⟩
  rw [h1] at q1
  rw [s7] at q2
  cases q1;cases q2
  rw [List.length_set] at q3
  rw [eW] at q5
  have yO:∀ah o1,ah≠κ->(σ.gone d).ob ah=some o1->ah≠d/\∃o2,σ.ob ah=some o2/\(real R ah o1->real R ah o2)/\∀b,bM w R ah o1 b->bM w R ah o2 b:=λ ah o1 hne ho=>by
   have ep:ah≠d:=λ z=>by
    subst z
    unfold St.gone at ho
    rw [St.aL] at ho
    split at ho
    ·cases ho
    ·rename_i hn
     exact hn ⟨rfl,c6 (by rw [ho];simp)⟩
   rw [g2 ah ep] at ho
   obtain ⟨o2,m1,⟨cs,rfl,rfl⟩|⟨rfl,_⟩|⟨K,V,l1,L,rfl,rfl⟩⟩:=iQ ho
   ·exact ⟨ep,_,m1,λ _=>trivial,λ _ hb=>hb.elim⟩
   ·exact ⟨ep,_,m1,id,λ _ h=>h⟩
   ·exact ⟨ep,_,m1,λ _=>trivial,λ _ hb=>by obtain ⟨_,_,z,_⟩:=hb;cases z⟩
  by_cases e1:j1=j
  ·subst e1
   rw [if_pos rfl] at q5
   obtain ⟨m1,rfl⟩:=hrow.2 b (by cases q5;exact q6)
   have Bo:=h.un d _ hd m1
   refine ⟨Bo.1,Bo.2,h.ds κ d _ _ aj hd gN m1 mo,λ ah x1 hne hx=> ?_⟩
   obtain ⟨ep,x2,p1,p2,p3⟩:=yO ah x1 hne hx
   exact ⟨λ aq=>h.ds ah d _ _ p1 hd (p2 aq) m1 ep,λ hi=>((h.lm ah x2 _ p1 (p3 _ hi)).2.2 d _ hd).1 m1 rfl⟩
  ·rw [if_neg (ne e1)] at q5
   obtain ⟨a1,a2,a3⟩:=vE b (hold j1 q3 e1 v1 q5 b q6)
   refine ⟨a1,a2,(a3 κ _ aj).1 gN,λ ah x1 hne hx=> ?_⟩
   obtain ⟨ep,x2,p1,p2,p3⟩:=yO ah x1 hne hx
   exact ⟨λ aq=>(a3 ah x2 p1).1 (p2 aq),λ hi=>(a3 ah x2 p1).2 hne (p3 _ hi)⟩
end
end Go.Rx
