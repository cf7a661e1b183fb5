/- Reflection, part U: one walk of the text's order serves every order that a region may draw. -/
import Derived.Test.YtollcjadobpfdaaGreatRxT
set_option linter.unusedVariables false
set_option linter.unusedSimpArgs false
set_option linter.unusedSectionVars false
namespace Go.Rx
inductive jI (all:List Oper) (i:Nat):Nat->Prop where
 |base (j:Nat) (o:Oper) (e:Edge) (ho:all[j]?=some o) (he:e∈o.after) (hb:Region.binds .any e=true) (h:e.on=i):jI all i j
 |step (j:Nat) (o:Oper) (e:Edge) (ho:all[j]?=some o) (he:e∈o.after) (hb:Region.binds .any e=true) (h:jI all i e.on):jI all i j
def pS (ms:List Nat) (l:List Edge):Nat:=l.foldl (λ s e=>match Region.binds .any e with
 |true=>s ||| (2 ^ e.on ||| ms.getD e.on 0)
 |false=>s) 0
def masks:List Nat->List Oper->List Nat
 |ms,[]=>ms
 |ms,o::r=>masks (ms++[pS ms o.after.toList]) r
def vN (F G:bg):Bool:=match F.kl with
 |none=>true
 |some κ=>G.kl.isNone && !G.ur.contains κ && !G.vr.contains κ && F.rs.all λ t=> !G.os.contains t
def u6 (F G:bg):Bool:= !F.mj && !G.mj && F.upd.all (λ κ=> !G.acc.contains κ) && G.upd.all (λ κ=> !F.acc.contains κ) && vN F G && vN G F
def ny (ms:List Nat) (i:Nat) (F:bg):Nat->List bg->Bool
 |_,[]=>true
 |j,G::r=>(u6 F G || (ms.getD j 0).testBit i) && ny ms i F (j+1) r
def nA (ms:List Nat):Nat->List bg->Bool
 |_,[]=>true
 |i,F::r=>ny ms i F (i+1) r && nA ms (i+1) r
def xk (all:List Oper) (Fs:List bg):Bool:=nA (masks [] all) 0 Fs
def u9 (all:List Oper):Bool:=Region.lexB .any all.toArray
theorem rA {F G:bg} (h:vN F G=true):Av F G:=λ κ aa=>by
 unfold vN at h
 rw [aa] at h
 simp only [Bool.and_eq_true,Option.isNone_iff_eq_none,Bool.not_eq_true',List.all_eq_true] at h
 exact ⟨h.1.1.1,by simpa using h.1.1.2,by simpa using h.1.2,λ t ht=>by simpa using h.2 t ht⟩
theorem u7 {F G:bg} (h:u6 F G=true):kR F G:=by
 simp only [u6,Bool.and_eq_true,Bool.not_eq_true',List.all_eq_true] at h
 exact ⟨h.1.1.1.1.1,h.1.1.1.1.2,λ κ aa=>by simpa using h.1.1.1.2 κ aa,λ κ aa=>by simpa using h.1.1.2 κ aa,rA h.1.2,rA h.2⟩
theorem kR.symm {F G:bg} (h:kR F G):kR G F:=⟨h.2.1,h.1,h.2.2.2.1,h.2.2.1,h.2.2.2.2.2,h.2.2.2.2.1⟩
theorem mE {ms:List Nat} {i:Nat} {F:bg}:∀{l:List bg} {j:Nat},ny ms i F j l=true->∀k G,l[k]?=some G->kR F G\/(ms.getD (j+k) 0).testBit i=true
 | [],_,_,k,G,hk=>by simp at hk
 |G::l,j,h,k,H,hk=>by
  simp only [ny,Bool.and_eq_true,Bool.or_eq_true] at h
  cases k with
  |zero=>simp at hk;subst hk;exact h.1.imp u7 id
  |succ k=>
   have:=mE h.2 k H (by simpa using hk)
   rwa [show j+1+k=j+(k+1) by omega] at this
theorem jA {ms:List Nat}:∀{l:List bg} {s:Nat},nA ms s l=true->∀i j F G,i <j->l[i]?=some F->l[j]?=some G->kR F G\/(ms.getD (s+j) 0).testBit (s+i)=true
 | [],_,_,i,_,_,_,_,hi,_=>by simp at hi
 |F::l,s,h,i,j,F',G',hij,hi,hj=>by
  simp only [nA,Bool.and_eq_true] at h
  obtain ⟨j,rfl⟩:∃j',j=j'+1:=⟨j - 1,by omega⟩
  cases i with
  |zero=>
   simp at hi;subst hi
   have:=mE h.1 j G' (by simpa using hj)
   rwa [show s+1+j=s+(j+1) by omega] at this
  |succ i=>
   have:=jA h.2 i j F' G' (by omega) (by simpa using hi) (by simpa using hj)
   rwa [show s+1+j=s+(j+1) by omega,show s+1+i=s+(i+1) by omega] at this
theorem pT (ms:List Nat):∀(l:List Edge) (s k:Nat),(l.foldl (λ s e=>match Region.binds .any e with
 |true=>s ||| (2 ^ e.on ||| ms.getD e.on 0)
 |false=>s) s).testBit k=true->s.testBit k=true\/∃e∈l,Region.binds .any e=true/\(e.on=k\/(ms.getD e.on 0).testBit k=true)
 | [],s,k,h=>.inl h
 |e::l,s,k,h=>by
  simp only [List.foldl_cons] at h
  rcases pT ms l _ k h with h|⟨e',h1,h2,h3⟩
  ·split at h
   ·rename_i hb
    simp only [Nat.testBit_or,Bool.or_eq_true] at h
    rcases h with h|h|h
    ·exact .inl h
    ·refine .inr ⟨e,by simp,hb,.inl ?_⟩
     simpa [Nat.testBit_two_pow] using h
    ·exact .inr ⟨e,by simp,hb,.inr h⟩
   ·exact .inl h
  ·exact .inr ⟨e',by simp [h1],h2,h3⟩
theorem jD:∀(l:List Oper) (ms:List Nat) (k:Nat),k <ms.length->(masks ms l).getD k 0=ms.getD k 0
 | [],ms,k,_=>rfl
 |o::l,ms,k,h=>by
  simp only [masks]
  rw [jD l _ k (by simp;omega)]
  simp only [List.getD_eq_getElem?_getD]
  rw [List.getElem?_append_left h]
theorem tv:∀(l:List Oper) (ms:List Nat) (k i:Nat),((masks ms l).getD (ms.length+k) 0).testBit i=true->∃o,l[k]?=some o/\∃e∈o.after,Region.binds .any e=true/\(e.on=i\/(e.on <ms.length+k/\((masks ms l).getD e.on 0).testBit i=true))
 | [],ms,k,i,h=>by
   simp only [masks] at h
   rw [List.getD_eq_getElem?_getD,List.getElem?_eq_none (by omega)] at h
   simp at h
 |o::l,ms,k,i,h=>by
  simp only [masks] at h ⊢
  cases k with
  |zero=>
   rw [jD l _ _ (by simp)] at h
   have e1:(ms++[pS ms o.after.toList]).getD (ms.length+0) 0=pS ms o.after.toList:=by
    simp [List.getD_eq_getElem?_getD]
   rw [e1] at h
   rcases pT ms _ 0 i h with h|⟨e,h1,h2,h3⟩
   ·simp at h
   ·refine ⟨o,by simp,e,by simpa using h1,h2,h3.imp id λ h=> ?_⟩
    have hlt:e.on <ms.length:=by
     rcases Nat.lt_or_ge e.on ms.length with g|g
     ·exact g
     ·rw [List.getD_eq_getElem?_getD,List.getElem?_eq_none g] at h;simp at h
    refine ⟨by omega, ?_⟩
    rw [jD l _ _ (by simp;omega)]
    simp only [List.getD_eq_getElem?_getD] at h ⊢
    rwa [List.getElem?_append_left hlt]
  |succ k=>
   obtain ⟨o',h1,e,h2,h3,h4⟩:=tv l (ms++[pS ms o.after.toList]) k i (by rw [List.length_append,List.length_singleton,show ms.length+1+k=ms.length+(k+1) by omega];exact h)
   refine ⟨o',by simpa using h1,e,h2,h3,h4.imp id λ h=>⟨?_,h.2⟩⟩
   have:=h.1
   simp only [List.length_append,List.length_singleton] at this
   omega
theorem jI.xB {all:List Oper} {i:Nat}:∀(j:Nat),((masks [] all).getD j 0).testBit i=true->jI all i j:=λ j=>by
 induction j using Nat.strongRecOn with
 |_ j ih=>
  intro h
  obtain ⟨o,h1,e,h2,h3,h4⟩:=tv all [] j i (by simpa using h)
  rcases h4 with h4|⟨h4,h5⟩
  ·exact .base j o e h1 h2 h3 h4
  ·exact .step j o e h1 h2 h3 (ih e.on (by simpa using h4) h5)
def jk (all:List Oper) (listed:Array Bool):Prop:=∀k o,all[k]?=some o->listed.getD k false=true->∀e∈o.after,Region.binds .any e=true->listed.getD e.on false=true
theorem jk.dep {all:List Oper} {listed:Array Bool} (h:jk all listed) {i j:Nat} (hd:jI all i j) (hj:∀o,all[j]?=some o->∀e∈o.after,Region.binds .any e=true->listed.getD e.on false=true):listed.getD i false=true:=by
 induction hd with
 |base j o e ho he hb hh=>rw [<-hh];exact hj o ho e he hb
 |step j o e ho he hb hd ih=>exact ih λ o' ho' e' he' hb'=>h e.on o' ho' (hj o ho e he hb) e' he' hb'
theorem kj {listed:Array Bool} {i j:Nat} (h:listed.getD j false=true):(listed.setIfInBounds i true).getD j false=true:=by
 by_cases e:i=j
 ·subst e
  have hlt:i <listed.size:=by
   rcases Nat.lt_or_ge i listed.size with g|g
   ·exact g
   ·simp [Array.getD,Nat.not_lt.2 g] at h
  simp [Array.getD,hlt]
 ·rw [getD_set_ne false e];exact h
theorem jk.set {all:List Oper} {listed:Array Bool} (h:jk all listed) {i:Nat} (hi:i∈Region.ready .any all.toArray listed):jk all (listed.setIfInBounds i true):=λ k o ho hk e he hb=>by
 by_cases hki:i=k
 ·subst hki
  obtain ⟨_,o',ho',hall⟩:=mem_ready.1 hi
  rw [List.getElem?_toArray,ho] at ho'
  cases ho'
  exact kj (hall e he hb)
 ·rw [getD_set_ne false hki] at hk
  exact kj (h k o ho hk e he hb)
section
variable {T:bh} {Y:dZ} {E:Env} {all:List Oper} {Fs:Nat->bg}
def sE (T:bh) (Y:dZ) (E:Env) (all:List Oper) (Fs:Nat->bg) (Q:St->Prop):Nat->Array Bool->St->Prop
 | 0,listed,σ=>Region.ready .any all.toArray listed=[]/\Q σ
 |n+1,listed,σ=>(Region.ready .any all.toArray listed=[]->Q σ)/\
  ∀i∈Region.ready .any all.toArray listed,∃o σ',all[i]?=some o/\fQ T Y E all o σ σ' (Fs i)/\sE T Y E all Fs Q n (listed.setIfInBounds i true) σ'
theorem uU {Q:St->Prop} {i:Nat} {oi:Oper} (hi:all[i]?=some oi) (vD:∀j,j≠i-> ¬jI all i j-> ¬jI all j i->(all[j]?).isSome=true->kR (Fs i) (Fs j)):
 ∀(fuel:Nat) (listed:Array Bool) (σ qi:St),jk all listed->
  (∀j oj,all[j]?=some oj->j≠i->listed.getD j true=false->(∀e∈oj.after,Region.binds .any e=true->e.on≠i)->oi.apart all.toArray oj=true)->
  i∈Region.ready .any all.toArray listed->fQ T Y E all oi σ qi (Fs i)->
  sE T Y E all Fs Q fuel (listed.setIfInBounds i true) qi->sE T Y E all Fs Q (fuel+1) listed σ:=by
 intro fuel
 induction fuel with
 |zero=>
  intro listed σ qi hcl _ hr hy H
  refine ⟨λ h=>(by rw [h] at hr;cases hr),λ j hj=> ?_⟩
  by_cases hji:j=i
  ·subst hji;exact ⟨oi,qi,hi,hy,H⟩
  ·have:=ready_mono hj hji
   rw [H.1] at this
   cases this
 |succ fuel ih=>
  intro listed σ qi hcl hfree hr hy H
  refine ⟨λ h=>(by rw [h] at hr;cases hr),λ j hj=> ?_⟩
  by_cases hji:j=i
  ·subst hji;exact ⟨oi,qi,hi,hy,H⟩
  ·obtain ⟨oj,v7,uC,CP,H3⟩:=H.2 j (ready_mono hj hji)
   obtain ⟨x9,Dq,Ah,hall⟩:=mem_ready.1 hj
   rw [List.getElem?_toArray,uC] at Ah
   cases Ah
   obtain ⟨BP,Dp,Ag,AS⟩:=mem_ready.1 hr
   rw [List.getElem?_toArray,hi] at Ag
   cases Ag
   have hun:∀k,listed.getD k true=false->listed.getD k false≠true:=λ k hk=>by
    rcases Nat.lt_or_ge k listed.size with g|g
    ·simp [Array.getD,g] at hk ⊢; exact hk
    ·simp [Array.getD,Nat.not_lt.2 g] at hk
   have ep: ¬jI all i j:=λ hd=>hun i BP (hcl.dep hd λ o ho e he hb=>by rw [uC] at ho;cases ho;exact hall e he hb)
   have hd2: ¬jI all j i:=λ hd=>hun j x9 (hcl.dep hd λ o ho e he hb=>by rw [hi] at ho;cases ho;exact AS e he hb)
   have hnot:∀e∈oj.after,Region.binds .any e=true->e.on≠i:=λ e he hb heq=>ep (.base j oj e uC he hb heq)
   obtain ⟨xO,g1,g2⟩:=vX hy CP (hfree j oj uC hji x9 hnot) (vD j hji ep hd2 (by rw [uC];rfl))
   have z7:∀k ok,all[k]?=some ok->k≠i->(listed.setIfInBounds j true).getD k true=false->
    (∀e∈ok.after,Region.binds .any e=true->e.on≠i)->oi.apart all.toArray ok=true:=λ k ok hk hki hun hno=>by
    refine hfree k ok hk hki ?_ hno
    by_cases hjk:j=k
    ·subst hjk;exact x9
    ·rw [getD_set_ne true hjk] at hun;exact hun
   refine ⟨oj,xO,uC,g1,ih (listed.setIfInBounds j true) xO v7 (hcl.set hj) z7 (ready_mono hr (Ne.symm hji)) g2 ?_⟩
   rw [Array.setIfInBounds_comm _ _ hji]
   exact H3
theorem sF {Q:St->Prop} (vD:∀i j,j≠i-> ¬jI all i j-> ¬jI all j i->(all[i]?).isSome=true->(all[j]?).isSome=true->kR (Fs i) (Fs j)):∀(l:List Oper) (k:Nat) (listed:Array Bool) (σ σ':St) (Gs:List bg),jk all listed->(∀j,l[j]?=all[k+j]?)->(∀j G,Gs[j]?=some G->Fs (k+j)=G)->
 Region.lexFrom .any all.toArray l.length k listed=true->Lex T Y E all l σ σ' Gs->Q σ'->sE T Y E all Fs Q l.length listed σ
 | [],_,listed,σ,σ',Gs,_,_,_,hB,hL,hQ=>by
   cases hL
   exact ⟨by simpa [Region.lexFrom] using hB,hQ⟩
 |o::l,k,listed,σ,σ',Gs,hcl,hl,hG,hB,hL,hQ=>by
  have h0:all[k]?=some o:=by simpa using (hl 0).symm
  simp only [List.length_cons,Region.lexFrom,Bool.and_eq_true] at hB
  obtain ⟨⟨hr,hf⟩,Ci⟩:=hB
  cases hL with
  |cons _ _ _ σ1 _ F Gs' h1 ht=>
   have hF:Fs k=F:=by simpa using hG 0 F (by simp)
   have hr':k∈Region.ready .any all.toArray listed:=by simpa using hr
   refine uU h0 (λ j hj ep hd2 Cy=>vD k j hj ep hd2 (by rw [h0];rfl) Cy) l.length listed σ σ1 hcl (λ j oj hj hne hun hno=>Region.free_spec (by rw [List.getElem?_toArray];exact h0) hf j oj (by rw [List.getElem?_toArray];exact hj) hne hun hno) hr' (by rw [hF];exact h1) ?_
   exact sF vD l (k+1) _ σ1 σ' Gs' (hcl.set hr') (λ j=>by have:=hl (j+1);simpa [Nat.add_assoc,Nat.add_comm 1 j] using this) (λ j G hg=>by have:=hG (j+1) G (by simpa using hg);rw [show k+1+j=k+(j+1) by omega];exact this) Ci ht hQ
end
section
variable {w0:World} {Fz av:Nat->Prop} {Lo:Nat->RL}
variable {P:Program} {T:bh} {Y:dZ} {E:Env}
theorem oP (hT:bC P T) (hE:bR P E) (dW:dH P E) (aZ:∀b,b <w0.heap.size->Fz b\/av b) {all:List Oper} {Fs:Nat->bg} {Q':St->Prop} {Q:Exit->Act->World->Prop} (hQ:∀σ R Pr a w,Inv w0 Fz av Lo R Pr σ a w->Q' σ->Q .normal a w):
 ∀(fuel:Nat) (listed:Array Bool) (σ:St) (R:Nat->RL) (Pr:Nat->Prop) (a:Act) (w:World),Inv w0 Fz av Lo R Pr σ a w->sE T Y E all Fs Q' fuel listed σ->wpAny P .any all.toArray Q fuel listed a w
 | 0,_,σ,R,Pr,a,w,h,H=>⟨H.1,hQ σ R Pr a w h H.2⟩
 |fuel+1,listed,σ,R,Pr,a,w,h,H=>⟨λ h0=>hQ σ R Pr a w h (H.1 h0),λ i hi=>by
   obtain ⟨o,σ',ho,hs,H2⟩:=H.2 i hi
   unfold wpOp
   rw [List.getElem?_toArray,ho]
   have:=oh hT hE dW aZ h hs (K:=wpAny P .any all.toArray Q fuel (listed.setIfInBounds i true)) (Q:=Q) (λ u R' ak w' h'=>oP hT hE dW aZ hQ fuel _ σ' R' ak _ w' h' H2)
   simp only
   by_cases hw:Region.wanted o (yielded all.toArray a.tmps)=true
   ·rw [if_pos hw] at this ⊢; exact .inl this
   ·rw [if_neg hw] at this ⊢; exact this⟩
theorem tY (hT:bC P T) (hE:bR P E) (dW:dH P E) (aZ:∀b,b <w0.heap.size->Fz b\/av b) (hm:P.follows .mixedOrders=true) {all:List Oper} {id:Nat} (aF:u9 all=true) {σ σ':St} {Fs:List bg} {R:Nat->RL} {Pr:Nat->Prop} {a:Act} {w:World} {Q:Exit->Act->World->Prop}
 (hL:Lex T Y E all all σ σ' Fs) (hi:xk all Fs=true) (h:Inv w0 Fz av Lo R Pr σ a w) (hq:∀R' ak a' w',Inv w0 Fz av Lo R' ak σ' a' w'->Q .normal a' w'):(Code.region id all.toArray true).wp P Q a w:=by
 simp only [u9,Bool.and_eq_true,Region.lexB] at aF
 have hlen:∀{l:List Oper} {σ σ':St} {Fs:List bg},Lex T Y E all l σ σ' Fs->Fs.length=l.length:=λ h=>by
  induction h with
  |nil=>rfl
  |cons _ _ _ _ _ _ _ _ _ ih=>simp [ih]
 have Bc:=hlen hL
 refine wp_region_any hm ?_
 have hd:Inv w0 Fz av Lo R Pr σ a { w with drawn:=w.drawn+1 }:=h.same rfl ⟨Nat.le_refl _,rfl,rfl,rfl,(by first|exact Nat.le_refl _|exact Nat.le_succ _|exact Nat.le_add_right _ _)⟩
 have key:=sF (T:=T) (Y:=Y) (E:=E) (all:=all) (Fs:=λ i=>Fs.getD i fO) (Q:=λ τ=>τ=σ') (λ i j hne h1 h2 hsome An=>by
  have hF:∀k,Fs[k]?=none->Fs.getD k fO=fO:=λ k hk=>by rw [List.getD_eq_getElem?_getD,hk];rfl
  have hS:∀k F,Fs[k]?=some F->Fs.getD k fO=F:=λ k F hk=>by rw [List.getD_eq_getElem?_getD,hk];rfl
  have hi':i <Fs.length:=by
   obtain ⟨o,ho⟩:=Option.isSome_iff_exists.1 hsome
   rw [Bc];exact (List.getElem?_eq_some_iff.1 ho).1
  have kA:Fs[i]?=some Fs[i]:=List.getElem?_eq_getElem hi'
  have hj:j <Fs.length:=by
   obtain ⟨o,ho⟩:=Option.isSome_iff_exists.1 An
   rw [Bc];exact (List.getElem?_eq_some_iff.1 ho).1
  have zZ:Fs[j]?=some Fs[j]:=List.getElem?_eq_getElem hj
  simp only [hS i _ kA,hS j _ zZ]
  rcases Nat.lt_or_gt_of_ne hne with g|g
  ·rcases jA hi j i _ _ g zZ kA with k|k
   ·exact k.symm
   ·simp only [Nat.zero_add] at k;exact (h2 (jI.xB i k)).elim
  ·rcases jA hi i j _ _ g kA zZ with k|k
   ·exact k
   ·simp only [Nat.zero_add] at k;exact (h1 (jI.xB j k)).elim) all 0 (Array.replicate all.length false) σ σ' Fs (λ k o ho hk=>by
   rcases Nat.lt_or_ge k all.length with g|g
   ·simp [Array.getD,g] at hk
   ·simp [Array.getD,Nat.not_lt.2 g] at hk) (by simp) (λ j G hg=>by simp only [Nat.zero_add];rw [List.getD_eq_getElem?_getD,hg];rfl) (by simpa using aF.2) hL rfl
 have:=oP hT hE dW aZ (Q:=Q) (λ τ R Pr a w h e=>by subst e;exact hq R Pr a w h) _ _ σ R Pr a _ hd key
 simpa using this
end
end Go.Rx
