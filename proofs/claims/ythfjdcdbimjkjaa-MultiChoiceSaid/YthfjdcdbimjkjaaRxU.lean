/- Reflection, part U: one walk of the text's order serves every order that a region may draw. -/
import Derived.Test.YthfjdcdbimjkjaaRxT
set_option linter.unusedVariables false
set_option linter.unusedSimpArgs false
set_option linter.unusedSectionVars false
namespace Go.Rx
inductive jG (all:List Oper) (i:Nat):Nat->Prop where
 |base (j:Nat) (o:Oper) (e:Edge) (ho:all[j]?=some o) (he:e∈o.after) (hb:Region.binds .any e=true) (h:e.on=i):jG all i j
 |step (j:Nat) (o:Oper) (e:Edge) (ho:all[j]?=some o) (he:e∈o.after) (hb:Region.binds .any e=true) (h:jG all i e.on):jG all i j
def pO (ms:List Nat) (l:List Edge):Nat:=l.foldl (λ s e=>match Region.binds .any e with
 |true=>s ||| (2 ^ e.on ||| ms.getD e.on 0)
 |false=>s) 0
def masks:List Nat->List Oper->List Nat
 |ms,[]=>ms
 |ms,o::r=>masks (ms++[pO ms o.after.toList]) r
def vF (F G:bg):Bool:=match F.kl with
 |none=>true
 |some κ=>G.kl.isNone && !G.ur.contains κ && !G.vr.contains κ && F.rs.all λ t=> !G.os.contains t
def uT (F G:bg):Bool:= !F.mg && !G.mg && F.upd.all (λ κ=> !G.acc.contains κ) && G.upd.all (λ κ=> !F.acc.contains κ) && vF F G && vF G F
def nv (ms:List Nat) (i:Nat) (F:bg):Nat->List bg->Bool
 |_,[]=>true
 |j,G::r=>(uT F G || (ms.getD j 0).testBit i) && nv ms i F (j+1) r
def nw (ms:List Nat):Nat->List bg->Bool
 |_,[]=>true
 |i,F::r=>nv ms i F (i+1) r && nw ms (i+1) r
def wZ (all:List Oper) (Fs:List bg):Bool:=nw (masks [] all) 0 Fs
def uV (all:List Oper):Bool:=Region.lexB .any all.toArray
theorem rj {F G:bg} (h:vF F G=true):Ag F G:=λ κ aa=>by
 unfold vF at h
 rw [aa] at h
 simp only [Bool.and_eq_true,Option.isNone_iff_eq_none,Bool.not_eq_true',List.all_eq_true] at h
 exact ⟨h.1.1.1,by simpa using h.1.1.2,by simpa using h.1.2,λ t ht=>by simpa using h.2 t ht⟩
theorem uU {F G:bg} (h:uT F G=true):kP F G:=by
 simp only [uT,Bool.and_eq_true,Bool.not_eq_true',List.all_eq_true] at h
 exact ⟨h.1.1.1.1.1,h.1.1.1.1.2,λ κ aa=>by simpa using h.1.1.1.2 κ aa,λ κ aa=>by simpa using h.1.1.2 κ aa,rj h.1.2,rj h.2⟩
theorem kP.symm {F G:bg} (h:kP F G):kP G F:=⟨h.2.1,h.1,h.2.2.2.1,h.2.2.1,h.2.2.2.2.2,h.2.2.2.2.1⟩
theorem mC {ms:List Nat} {i:Nat} {F:bg}:∀{l:List bg} {j:Nat},nv ms i F j l=true->∀k G,l[k]?=some G->kP F G\/(ms.getD (j+k) 0).testBit i=true
 | [],_,_,k,G,hk=>by simp at hk
 |G::l,j,h,k,H,hk=>by
  simp only [nv,Bool.and_eq_true,Bool.or_eq_true] at h
  cases k with
  |zero=>simp at hk;subst hk;exact h.1.imp uU id
  |succ k=>
   have:=mC h.2 k H (by simpa using hk)
   rwa [show j+1+k=j+(k+1) by omega] at this
theorem jy {ms:List Nat}:∀{l:List bg} {s:Nat},nw ms s l=true->∀i j F G,i <j->l[i]?=some F->l[j]?=some G->kP F G\/(ms.getD (s+j) 0).testBit (s+i)=true
 | [],_,_,i,_,_,_,_,hi,_=>by simp at hi
 |F::l,s,h,i,j,F',G',hij,hi,hj=>by
  simp only [nw,Bool.and_eq_true] at h
  obtain ⟨j,rfl⟩:∃j',j=j'+1:=⟨j - 1,by omega⟩
  cases i with
  |zero=>
   simp at hi;subst hi
   have:=mC h.1 j G' (by simpa using hj)
   rwa [show s+1+j=s+(j+1) by omega] at this
  |succ i=>
   have:=jy h.2 i j F' G' (by omega) (by simpa using hi) (by simpa using hj)
   rwa [show s+1+j=s+(j+1) by omega,show s+1+i=s+(i+1) by omega] at this
theorem pP (ms:List Nat):∀(l:List Edge) (s k:Nat),(l.foldl (λ s e=>match Region.binds .any e with
 |true=>s ||| (2 ^ e.on ||| ms.getD e.on 0)
 |false=>s) s).testBit k=true->s.testBit k=true\/∃e∈l,Region.binds .any e=true/\(e.on=k\/(ms.getD e.on 0).testBit k=true)
 | [],s,k,h=>.inl h
 |e::l,s,k,h=>by
  simp only [List.foldl_cons] at h
  rcases pP ms l _ k h with h|⟨e',h1,h2,h3⟩
  ·split at h
   ·rename_i hb
    simp only [Nat.testBit_or,Bool.or_eq_true] at h
    rcases h with h|h|h
    ·exact .inl h
    ·refine .inr ⟨e,by simp,hb,.inl ?_⟩
     simpa [Nat.testBit_two_pow] using h
    ·exact .inr ⟨e,by simp,hb,.inr h⟩
   ·exact .inl h
  ·exact .inr ⟨e',by simp [h1],h2,h3⟩
theorem jC:∀(l:List Oper) (ms:List Nat) (k:Nat),k <ms.length->(masks ms l).getD k 0=ms.getD k 0
 | [],ms,k,_=>rfl
 |o::l,ms,k,h=>by
  simp only [masks]
  rw [jC l _ k (by simp;omega)]
  simp only [List.getD_eq_getElem?_getD]
  rw [List.getElem?_append_left h]
theorem td:∀(l:List Oper) (ms:List Nat) (k i:Nat),((masks ms l).getD (ms.length+k) 0).testBit i=true->∃o,l[k]?=some o/\∃e∈o.after,Region.binds .any e=true/\(e.on=i\/(e.on <ms.length+k/\((masks ms l).getD e.on 0).testBit i=true))
 | [],ms,k,i,h=>by
   simp only [masks] at h
   rw [List.getD_eq_getElem?_getD,List.getElem?_eq_none (by omega)] at h
   simp at h
 |o::l,ms,k,i,h=>by
  simp only [masks] at h ⊢
  cases k with
  |zero=>
   rw [jC l _ _ (by simp)] at h
   have e1:(ms++[pO ms o.after.toList]).getD (ms.length+0) 0=pO ms o.after.toList:=by
    simp [List.getD_eq_getElem?_getD]
   rw [e1] at h
   rcases pP ms _ 0 i h with h|⟨e,h1,h2,h3⟩
   ·simp at h
   ·refine ⟨o,by simp,e,by simpa using h1,h2,h3.imp id λ h=> ?_⟩
    have hlt:e.on <ms.length:=by
     rcases Nat.lt_or_ge e.on ms.length with g|g
     ·exact g
     ·rw [List.getD_eq_getElem?_getD,List.getElem?_eq_none g] at h;simp at h
    refine ⟨by omega, ?_⟩
    rw [jC l _ _ (by simp;omega)]
    simp only [List.getD_eq_getElem?_getD] at h ⊢
    rwa [List.getElem?_append_left hlt]
  |succ k=>
   obtain ⟨o',h1,e,h2,h3,h4⟩:=td l (ms++[pO ms o.after.toList]) k i (by rw [List.length_append,List.length_singleton,show ms.length+1+k=ms.length+(k+1) by omega];exact h)
   refine ⟨o',by simpa using h1,e,h2,h3,h4.imp id λ h=>⟨?_,h.2⟩⟩
   have:=h.1
   simp only [List.length_append,List.length_singleton] at this
   omega
theorem jG.xk {all:List Oper} {i:Nat}:∀(j:Nat),((masks [] all).getD j 0).testBit i=true->jG all i j:=λ j=>by
 induction j using Nat.strongRecOn with
 |_ j ih=>
  intro h
  obtain ⟨o,h1,e,h2,h3,h4⟩:=td all [] j i (by simpa using h)
  rcases h4 with h4|⟨h4,h5⟩
  ·exact .base j o e h1 h2 h3 h4
  ·exact .step j o e h1 h2 h3 (ih e.on (by simpa using h4) h5)
def ji (all:List Oper) (listed:Array Bool):Prop:=∀k o,all[k]?=some o->listed.getD k false=true->∀e∈o.after,Region.binds .any e=true->listed.getD e.on false=true
theorem ji.dep {all:List Oper} {listed:Array Bool} (h:ji all listed) {i j:Nat} (hd:jG all i j) (hj:∀o,all[j]?=some o->∀e∈o.after,Region.binds .any e=true->listed.getD e.on false=true):listed.getD i false=true:=by
 induction hd with
 |base j o e ho he hb hh=>rw [<-hh];exact hj o ho e he hb
 |step j o e ho he hb hd ih=>exact ih λ o' ho' e' he' hb'=>h e.on o' ho' (hj o ho e he hb) e' he' hb'
theorem kf {listed:Array Bool} {i j:Nat} (h:listed.getD j false=true):(listed.setIfInBounds i true).getD j false=true:=by
 by_cases e:i=j
 ·subst e
  have hlt:i <listed.size:=by
   rcases Nat.lt_or_ge i listed.size with g|g
   ·exact g
   ·simp [Array.getD,Nat.not_lt.2 g] at h
  simp [Array.getD,hlt]
 ·rw [getD_set_ne false e];exact h
theorem ji.set {all:List Oper} {listed:Array Bool} (h:ji all listed) {i:Nat} (hi:i∈Region.ready .any all.toArray listed):ji all (listed.setIfInBounds i true):=λ k o ho hk e he hb=>by
 by_cases hki:i=k
 ·subst hki
  obtain ⟨_,o',ho',hall⟩:=mem_ready.1 hi
  rw [List.getElem?_toArray,ho] at ho'
  cases ho'
  exact kf (hall e he hb)
 ·rw [getD_set_ne false hki] at hk
  exact kf (h k o ho hk e he hb)
section
variable {T:bh} {Y:dY} {E:Env} {all:List Oper} {Fs:Nat->bg}
def sx (T:bh) (Y:dY) (E:Env) (all:List Oper) (Fs:Nat->bg) (Q:St->Prop):Nat->Array Bool->St->Prop
 | 0,listed,σ=>Region.ready .any all.toArray listed=[]/\Q σ
 |n+1,listed,σ=>(Region.ready .any all.toArray listed=[]->Q σ)/\
  ∀i∈Region.ready .any all.toArray listed,∃o σ',all[i]?=some o/\fP T Y E all o σ σ' (Fs i)/\sx T Y E all Fs Q n (listed.setIfInBounds i true) σ'
theorem uL {Q:St->Prop} {i:Nat} {oi:Oper} (hi:all[i]?=some oi) (vo:∀j,j≠i-> ¬jG all i j-> ¬jG all j i->(all[j]?).isSome=true->kP (Fs i) (Fs j)):
 ∀(fuel:Nat) (listed:Array Bool) (σ qd:St),ji all listed->
  (∀j oj,all[j]?=some oj->j≠i->listed.getD j true=false->(∀e∈oj.after,Region.binds .any e=true->e.on≠i)->oi.apart all.toArray oj=true)->
  i∈Region.ready .any all.toArray listed->fP T Y E all oi σ qd (Fs i)->
  sx T Y E all Fs Q fuel (listed.setIfInBounds i true) qd->sx T Y E all Fs Q (fuel+1) listed σ:=by
 intro fuel
 induction fuel with
 |zero=>
  intro listed σ qd hcl _ hr hy H
  refine ⟨λ h=>(by rw [h] at hr;cases hr),λ j hj=> ?_⟩
  by_cases hji:j=i
  ·subst hji;exact ⟨oi,qd,hi,hy,H⟩
  ·have:=ready_mono hj hji
   rw [H.1] at this
   cases this
 |succ fuel ih=>
  intro listed σ qd hcl hfree hr hy H
  refine ⟨λ h=>(by rw [h] at hr;cases hr),λ j hj=> ?_⟩
  by_cases hji:j=i
  ·subst hji;exact ⟨oi,qd,hi,hy,H⟩
  ·obtain ⟨oj,vS,um,CB,H3⟩:=H.2 j (ready_mono hj hji)
   obtain ⟨xV,Db,zV,hall⟩:=mem_ready.1 hj
   rw [List.getElem?_toArray,um] at zV
   cases zV
   obtain ⟨Bx,Da,zU,AB⟩:=mem_ready.1 hr
   rw [List.getElem?_toArray,hi] at zU
   cases zU
   have hun:∀k,listed.getD k true=false->listed.getD k false≠true:=λ k hk=>by
    rcases Nat.lt_or_ge k listed.size with g|g
    ·simp [Array.getD,g] at hk ⊢; exact hk
    ·simp [Array.getD,Nat.not_lt.2 g] at hk
   have eo: ¬jG all i j:=λ hd=>hun i Bx (hcl.dep hd λ o ho e he hb=>by rw [um] at ho;cases ho;exact hall e he hb)
   have hd2: ¬jG all j i:=λ hd=>hun j xV (hcl.dep hd λ o ho e he hb=>by rw [hi] at ho;cases ho;exact AB e he hb)
   have hnot:∀e∈oj.after,Region.binds .any e=true->e.on≠i:=λ e he hb heq=>eo (.base j oj e um he hb heq)
   obtain ⟨xD,g1,g2⟩:=vP hy CB (hfree j oj um hji xV hnot) (vo j hji eo hd2 (by rw [um];rfl))
   have zN:∀k ok,all[k]?=some ok->k≠i->(listed.setIfInBounds j true).getD k true=false->
    (∀e∈ok.after,Region.binds .any e=true->e.on≠i)->oi.apart all.toArray ok=true:=λ k ok hk hki hun hno=>by
    refine hfree k ok hk hki ?_ hno
    by_cases hjk:j=k
    ·subst hjk;exact xV
    ·rw [getD_set_ne true hjk] at hun;exact hun
   refine ⟨oj,xD,um,g1,ih (listed.setIfInBounds j true) xD vS (hcl.set hj) zN (ready_mono hr (Ne.symm hji)) g2 ?_⟩
   rw [Array.setIfInBounds_comm _ _ hji]
   exact H3
theorem sy {Q:St->Prop} (vo:∀i j,j≠i-> ¬jG all i j-> ¬jG all j i->(all[i]?).isSome=true->(all[j]?).isSome=true->kP (Fs i) (Fs j)):∀(l:List Oper) (k:Nat) (listed:Array Bool) (σ σ':St) (Gs:List bg),ji all listed->(∀j,l[j]?=all[k+j]?)->(∀j G,Gs[j]?=some G->Fs (k+j)=G)->
 Region.lexFrom .any all.toArray l.length k listed=true->Lex T Y E all l σ σ' Gs->Q σ'->sx T Y E all Fs Q l.length listed σ
 | [],_,listed,σ,σ',Gs,_,_,_,hB,hL,hQ=>by
   cases hL
   exact ⟨by simpa [Region.lexFrom] using hB,hQ⟩
 |o::l,k,listed,σ,σ',Gs,hcl,hl,hG,hB,hL,hQ=>by
  have h0:all[k]?=some o:=by simpa using (hl 0).symm
  simp only [List.length_cons,Region.lexFrom,Bool.and_eq_true] at hB
  obtain ⟨⟨hr,hf⟩,B1⟩:=hB
  cases hL with
  |cons _ _ _ σ1 _ F Gs' h1 ht=>
   have hF:Fs k=F:=by simpa using hG 0 F (by simp)
   have hr':k∈Region.ready .any all.toArray listed:=by simpa using hr
   refine uL h0 (λ j hj eo hd2 Ch=>vo k j hj eo hd2 (by rw [h0];rfl) Ch) l.length listed σ σ1 hcl (λ j oj hj hne hun hno=>Region.free_spec (by rw [List.getElem?_toArray];exact h0) hf j oj (by rw [List.getElem?_toArray];exact hj) hne hun hno) hr' (by rw [hF];exact h1) ?_
   exact sy vo l (k+1) _ σ1 σ' Gs' (hcl.set hr') (λ j=>by have:=hl (j+1);simpa [Nat.add_assoc,Nat.add_comm 1 j] using this) (λ j G hg=>by have:=hG (j+1) G (by simpa using hg);rw [show k+1+j=k+(j+1) by omega];exact this) B1 ht hQ
end
section
variable {w0:World} {Fz av:Nat->Prop} {Lo:Nat->RL}
variable {P:Program} {T:bh} {Y:dY} {E:Env}
theorem oN (hT:bA P T) (hE:dg P E) (dV:eO P E) (aZ:∀b,b <w0.heap.size->Fz b\/av b) {all:List Oper} {Fs:Nat->bg} {Q':St->Prop} {Q:Exit->Act->World->Prop} (hQ:∀σ R Pr a w,Inv w0 Fz av Lo R Pr σ a w->Q' σ->Q .normal a w):
 ∀(fuel:Nat) (listed:Array Bool) (σ:St) (R:Nat->RL) (Pr:Nat->Prop) (a:Act) (w:World),Inv w0 Fz av Lo R Pr σ a w->sx T Y E all Fs Q' fuel listed σ->wpAny P .any all.toArray Q fuel listed a w
 | 0,_,σ,R,Pr,a,w,h,H=>⟨H.1,hQ σ R Pr a w h H.2⟩
 |fuel+1,listed,σ,R,Pr,a,w,h,H=>⟨λ h0=>hQ σ R Pr a w h (H.1 h0),λ i hi=>by
   obtain ⟨o,σ',ho,hs,H2⟩:=H.2 i hi
   unfold wpOp
   rw [List.getElem?_toArray,ho]
   have:=oc hT hE dV aZ h hs (K:=wpAny P .any all.toArray Q fuel (listed.setIfInBounds i true)) (Q:=Q) (λ u R' ak w' h'=>oN hT hE dV aZ hQ fuel _ σ' R' ak _ w' h' H2)
   simp only
   by_cases hw:Region.wanted o (yielded all.toArray a.tmps)=true
   ·rw [if_pos hw] at this ⊢; exact .inl this
   ·rw [if_neg hw] at this ⊢; exact this⟩
theorem tQ (hT:bA P T) (hE:dg P E) (dV:eO P E) (aZ:∀b,b <w0.heap.size->Fz b\/av b) (hm:P.follows .mixedOrders=true) {all:List Oper} {id:Nat} (aG:uV all=true) {σ σ':St} {Fs:List bg} {R:Nat->RL} {Pr:Nat->Prop} {a:Act} {w:World} {Q:Exit->Act->World->Prop}
 (hL:Lex T Y E all all σ σ' Fs) (hi:wZ all Fs=true) (h:Inv w0 Fz av Lo R Pr σ a w) (hq:∀R' ak a' w',Inv w0 Fz av Lo R' ak σ' a' w'->Q .normal a' w'):(Code.region id all.toArray true).wp P Q a w:=by
 simp only [uV,Bool.and_eq_true,Region.lexB] at aG
 have hlen:∀{l:List Oper} {σ σ':St} {Fs:List bg},Lex T Y E all l σ σ' Fs->Fs.length=l.length:=λ h=>by
  induction h with
  |nil=>rfl
  |cons _ _ _ _ _ _ _ _ _ ih=>simp [ih]
 have AW:=hlen hL
 refine wp_region_any hm ?_
 have hd:Inv w0 Fz av Lo R Pr σ a { w with drawn:=w.drawn+1 }:=h.same rfl ⟨Nat.le_refl _,rfl,rfl,rfl,(by first|exact Nat.le_refl _|exact Nat.le_succ _|exact Nat.le_add_right _ _)⟩
 have key:=sy (T:=T) (Y:=Y) (E:=E) (all:=all) (Fs:=λ i=>Fs.getD i fN) (Q:=λ τ=>τ=σ') (λ i j hne h1 h2 hsome z7=>by
  have hF:∀k,Fs[k]?=none->Fs.getD k fN=fN:=λ k hk=>by rw [List.getD_eq_getElem?_getD,hk];rfl
  have hS:∀k F,Fs[k]?=some F->Fs.getD k fN=F:=λ k F hk=>by rw [List.getD_eq_getElem?_getD,hk];rfl
  have hi':i <Fs.length:=by
   obtain ⟨o,ho⟩:=Option.isSome_iff_exists.1 hsome
   rw [AW];exact (List.getElem?_eq_some_iff.1 ho).1
  have kr:Fs[i]?=some Fs[i]:=List.getElem?_eq_getElem hi'
  have hj:j <Fs.length:=by
   obtain ⟨o,ho⟩:=Option.isSome_iff_exists.1 z7
   rw [AW];exact (List.getElem?_eq_some_iff.1 ho).1
  have zL:Fs[j]?=some Fs[j]:=List.getElem?_eq_getElem hj
  simp only [hS i _ kr,hS j _ zL]
  rcases Nat.lt_or_gt_of_ne hne with g|g
  ·rcases jy hi j i _ _ g zL kr with k|k
   ·exact k.symm
   ·simp only [Nat.zero_add] at k;exact (h2 (jG.xk i k)).elim
  ·rcases jy hi i j _ _ g kr zL with k|k
   ·exact k
   ·simp only [Nat.zero_add] at k;exact (h1 (jG.xk j k)).elim) all 0 (Array.replicate all.length false) σ σ' Fs (λ k o ho hk=>by
   rcases Nat.lt_or_ge k all.length with g|g
   ·simp [Array.getD,g] at hk
   ·simp [Array.getD,Nat.not_lt.2 g] at hk) (by simp) (λ j G hg=>by simp only [Nat.zero_add];rw [List.getD_eq_getElem?_getD,hg];rfl) (by simpa using aG.2) hL rfl
 have:=oN hT hE dV aZ (Q:=Q) (λ τ R Pr a w h e=>by subst e;exact hq R Pr a w h) _ _ σ R Pr a _ hd key
 simpa using this
end
end Go.Rx
