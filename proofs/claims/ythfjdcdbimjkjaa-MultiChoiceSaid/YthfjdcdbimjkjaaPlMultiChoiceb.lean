/- Plain laws for MultiChoice. No condition. -/
import Derived.Test.YthfjdcdbimjkjaaPlMultiChoicea
set_option linter.unusedVariables false
set_option linter.unusedSimpArgs false
set_option linter.unusedSectionVars false
namespace Go.Proofs.Ythfjdcdbimjkjaa.Rw
open Go.Rx
def Hj (x y:W2):Int:=if FP [x.2.1,x.2.2,(x.1.length:Int)] [y.2.1,y.2.2,(y.1.length:Int)]=0 then FP x.1 y.1 else FP [x.2.1,x.2.2,(x.1.length:Int)] [y.2.1,y.2.2,(y.1.length:Int)]
theorem KS (x y:W2) (hl:(x.1.length:Int)<=1073741824):Ev (λ k=>f182 k x y) (Hj x y,()):=by
 obtain ⟨K,h1⟩:=JH [x.2.1,x.2.2,(x.1.length:Int)] [y.2.1,y.2.2,(y.1.length:Int)] (by simp)
 obtain ⟨L,h2⟩:=JH x.1 y.1 hl
 refine ⟨K+L,λ k hk=> ?_⟩
 have e1:=h1 k (by omega)
 have e2:=h2 k (by omega)
 simp only at e1 e2
 simp only [f182,f182.sk,e1,e2,Option.bind_some,Hj]
 by_cases c:FP [x.2.1,x.2.2,(x.1.length:Int)] [y.2.1,y.2.2,(y.1.length:Int)]=0
 ·rw [if_neg (by simpa using c),if_pos c]
 ·rw [if_pos c,if_neg c]
theorem KT (x y:W2):(Hj x y <0->ES x.2 y.2)/\(¬Hj x y <0->ES y.2 x.2):=by
 unfold Hj ES
 simp only [FP]
 by_cases c1:x.2.1 <y.2.1
 ·simp [c1]
 ·by_cases c2:y.2.1 <x.2.1
  ·simp [c1,c2]
  ·by_cases c3:x.2.2 <y.2.2
   ·simp only [c1,c2,c3,if_true,if_false];exact ⟨λ _=>.inr ⟨by omega,by omega⟩,λ h=>(h (by simp)).elim⟩
   ·by_cases c4:y.2.2 <x.2.2
    ·simp only [c1,c2,c3,c4,if_true,if_false];exact ⟨λ h=>absurd h (by simp),λ h=>.inr ⟨by omega,by omega⟩⟩
    ·exact ⟨λ _=>.inr ⟨by omega,by omega⟩,λ _=>.inr ⟨by omega,by omega⟩⟩
theorem getD_take {op:List L2} {i:Nat} (h:i <op.length):op.take (i+1)=op.take i++[op.getD i (0,([],(0,0)))]:=by
 rw [List.getD_eq_getElem?_getD,List.getElem?_eq_getElem h,List.take_add_one,List.getElem?_eq_getElem h];rfl
theorem GG (N:List Pt) (E:List Ed) (B:List Pt) (b:List Int) (e4:List (List W2)) {op:List L2} (hl:op.length<=100000000) (hw:∀y∈op,(y.2.1.length:Int)<=1073741824):∀(d i j:Nat),i+d=op.length->j <op.length->(∀y∈op.take i,ES (op.getD j (0,([],(0,0)))).2.2 y.2.2)->
 ∃j',j' <op.length/\(∀y∈op,ES (op.getD j' (0,([],(0,0)))).2.2 y.2.2)/\gb (λ k n=>f147.l0 k n N E B b e4 op (op.length:Int) (i:Int) (j:Int)) ((((N,(E,B)),b,()),(e4,((op.set j' (op.getD (op.length - 1) (0,([],(0,0))))).take (op.length - 1),()))),(op.getD j' (0,([],(0,0))),()))
 | 0,i,j,hd,hj,hi=>by
   refine ⟨j,hj,λ y hy=>hi y (by rwa [List.take_of_length_le (by omega)]),gb.step (λ k n=> ?_) (gb.pure _)⟩
   have hw1:Ar ((op.length:Int) - 1)=((op.length - 1:Nat):Int):=by rw [CH (by omega) (by omega)];omega
   simp only [f147.l0,f147.u0,hw1,List.length_set,Int.toNat_natCast]
   rw [if_neg (by omega),if_pos (by omega),if_pos (by omega),if_pos (by omega),if_pos (by omega),if_pos (by omega),if_pos (by omega),if_pos (by omega),if_pos (by omega)]
 |d+1,i,j,hd,hj,hi=>by
  have hil:i <op.length:=by omega
  have hm:∀q,q <op.length->op.getD q (0,([],(0,0)))∈op:=λ q hq=>by
   rw [List.getD_eq_getElem?_getD,List.getElem?_eq_getElem hq];exact List.getElem_mem hq
  have hwi:Ar ((i:Int)+1)=((i+1:Nat):Int):=by rw [CH (by omega) (by omega)];omega
  obtain ⟨K,hK⟩:=KS (op.getD i (0,([],(0,0)))).2 (op.getD j (0,([],(0,0)))).2 (hw _ (hm i hil))
  obtain ⟨hc1,uk⟩:=KT (op.getD i (0,([],(0,0)))).2 (op.getD j (0,([],(0,0)))).2
  have key:∀q,q <op.length->ES (op.getD q (0,([],(0,0)))).2.2 (op.getD i (0,([],(0,0)))).2.2->(∀y∈op.take i,ES (op.getD q (0,([],(0,0)))).2.2 y.2.2)->∀y∈op.take (i+1),ES (op.getD q (0,([],(0,0)))).2.2 y.2.2:=λ q hq h1 h2 y hy=>by
   rw [getD_take hil] at hy
   rcases List.mem_append.1 hy with hy|hy
   ·exact h2 y hy
   ·rw [List.mem_singleton.1 hy];exact h1
  by_cases c:Hj (op.getD i (0,([],(0,0)))).2 (op.getD j (0,([],(0,0)))).2 <0
  ·obtain ⟨j',g1,g2,g3⟩:=GG N E B b e4 hl hw d (i+1) i (by omega) hil (key i hil (Io _) λ y hy=>HK (hc1 c) (hi y hy))
   refine ⟨j',g1,g2,gb.Eo K (λ k n hk=> ?_) g3⟩
   have e:=hK k hk
   simp only at e
   rw [f147.l0,f147.u0,if_pos (by omega),if_pos (by omega),if_pos (by omega),if_pos (by omega),if_pos (by omega)]
   simp only [Int.toNat_natCast,e,Option.bind_some]
   rw [if_pos c,f147.mm,f147.E1,hwi]
  ·obtain ⟨j',g1,g2,g3⟩:=GG N E B b e4 hl hw d (i+1) j (by omega) hj (key j hj (uk c) hi)
   refine ⟨j',g1,g2,gb.Eo K (λ k n hk=> ?_) g3⟩
   have e:=hK k hk
   simp only at e
   rw [f147.l0,f147.u0,if_pos (by omega),if_pos (by omega),if_pos (by omega),if_pos (by omega),if_pos (by omega)]
   simp only [Int.toNat_natCast,e,Option.bind_some]
   rw [if_neg c,f147.mm,f147.E1,hwi]
theorem Lp (N:List Pt) (E:List Ed) (B:List Pt) (b:List Int) (e4:List (List W2)) {op:List L2} (h0:op≠[]) (hl:op.length<=100000000) (hw:∀y∈op,(y.2.1.length:Int)<=1073741824):
 ∃x op',JX op x op'/\Ev (λ k=>f147 k (N,(E,B)) b e4 op) ((((N,(E,B)),b,()),(e4,(op',()))),(x,())):=by
 have hp:0 <op.length:=List.length_pos_iff.2 h0
 obtain ⟨j,g1,g2,g3⟩:=GG N E B b e4 hl hw op.length 0 0 (by omega) hp (λ y hy=>by simp at hy)
 refine ⟨_,_,⟨?_, ?_,g2⟩,g3.diag⟩
 ·obtain ⟨l,z,rfl⟩:∃l z,op=l++[z]:=⟨op.dropLast,op.getLast h0,(List.dropLast_concat_getLast h0).symm⟩
  have hz:(l++[z]).getD ((l++[z]).length - 1) (0,([],(0,0)))=z:=by simp
  rw [hz]
  simp only [List.length_append,List.length_singleton,Nat.add_sub_cancel] at g1 ⊢
  by_cases c:j <l.length
  ·have e1:(l++[z]).getD j (0,([],(0,0)))=l[j]:=by
    rw [List.getD_eq_getElem?_getD,List.getElem?_append_left c,List.getElem?_eq_getElem c];rfl
   have e2:((l++[z]).set j z).take l.length=l.set j z:=by
    rw [List.set_append_left _ _ c];exact List.take_left' (by simp)
   rw [e1,e2]
   intro y
   rw [List.mem_append,List.mem_singleton]
   constructor
   ·rintro (hy|rfl)
    ·obtain ⟨i,hi,rfl⟩:=List.getElem_of_mem hy
     by_cases q:i=j
     ·subst q;exact .inl rfl
     ·refine .inr ?_
      have:(l.set j z)[i]'(by simpa using hi)=l[i]:=List.getElem_set_ne (λ e=>q e.symm) _
      rw [<-this];exact List.getElem_mem _
    ·exact .inr (List.mem_set c _)
   ·rintro (rfl|hy)
    ·exact .inl (List.getElem_mem c)
    ·exact List.mem_or_eq_of_mem_set hy
  ·obtain rfl:j=l.length:=by omega
   have e1:(l++[z]).getD l.length (0,([],(0,0)))=z:=by simp
   have e2:((l++[z]).set l.length z).take l.length=l:=by
    rw [List.set_append_right _ _ (Nat.le_refl _)];simp
   rw [e1,e2]
   intro y
   rw [List.mem_append,List.mem_singleton]
   exact Or.comm
 ·simp only [List.length_take,List.length_set];omega
theorem KM (k:Nat) (y x:Int×Int):f48 k y x=some (decide (Eh y x),()):=KV k y x
open Classical in
theorem HI (l:List W2) (w:W2) (hl:l.length<=1000):∀(d i:Nat),i+d=l.length->∃r:Int,gb (λ k n=>f151.l0 k n l w (l.length:Int) (i:Int)) (r,())/\(0<=r↔∃z∈l.drop i,Eh z.2 w.2)
 | 0,i,hd=>⟨-1,gb.step (g:=λ _ _=>some (-1,())) (λ k n=>by
    rw [f151.l0,f151.u0,if_neg (by omega)]) (gb.pure _),by rw [List.drop_eq_nil_of_le (by omega)];simp⟩
 |d+1,i,hd=>by
  have h:i <l.length:=by omega
  have hw:Ar ((i:Int)+1)=((i+1:Nat):Int):=by rw [CH (by omega) (by omega)];omega
  obtain ⟨r,h1,h2⟩:=HI l w hl d (i+1) (by omega)
  have GP:l.drop i=l.getD i ([],(0,0))::l.drop (i+1):=by
   rw [List.drop_eq_getElem_cons h,List.getD_eq_getElem?_getD,List.getElem?_eq_getElem h];rfl
  have hb:∀k,f183 k (l.getD i ([],(0,0))) w=some (decide (Eh (l.getD i ([],(0,0))).2 w.2),()):=λ k=>by
   simp only [f183,f183.sk,KM,Option.bind_some,decide_eq_true_eq]
  by_cases c:Eh (l.getD i ([],(0,0))).2 w.2
  ·refine ⟨i,gb.step (g:=λ _ _=>some ((i:Int),())) (λ k n=> ?_) (gb.pure _),by rw [GP];exact ⟨λ _=>⟨_,List.mem_cons_self,c⟩,λ _=>by omega⟩⟩
   rw [f151.l0,f151.u0,if_pos (by omega),if_pos (by omega),if_pos (by omega)]
   simp only [Int.toNat_natCast,hb,Option.bind_some]
   rw [if_pos (by simpa using c)]
  ·refine ⟨r,gb.step (λ k n=> ?_) h1,by
    rw [GP,h2]
    exact ⟨λ ⟨z,q1,q2⟩=>⟨z,List.mem_cons_of_mem _ q1,q2⟩,λ ⟨z,q1,q2⟩=>(List.mem_cons.1 q1).elim (λ e=>absurd (e▸q2) c) λ q1=>⟨z,q1,q2⟩⟩⟩
   rw [f151.l0,f151.u0,if_pos (by omega),if_pos (by omega),if_pos (by omega)]
   simp only [Int.toNat_natCast,hb,Option.bind_some,hw]
   rw [if_neg (by simpa using c)]
open Classical in
theorem Hw (N:List Pt) (E:List Ed) (B:List Pt) (b:List Int) (e4:List (List W2)) (op:List L2) {v:Int} (w:W2) (hv:Cp v e4.length) (hl:(e4.getD v.toNat []).length<=1000):
 Ev (λ k=>f148 k ((N,(E,B)),(b,(e4,op))) v w) (decide (∃z∈e4.getD v.toNat [],Eh z.2 w.2),()):=by
 obtain ⟨r,h1,h2⟩:=HI (e4.getD v.toNat []) w hl (e4.getD v.toNat []).length 0 (by omega)
 obtain ⟨K,hK⟩:=h1.diag
 refine ⟨K,λ k hk=> ?_⟩
 have e:=hK k hk
 simp only at e
 simp only [f148,f148.sk]
 rw [if_pos hv.1,if_pos hv.2]
 simp only [f102,f102.sk,f151,f151.sk]
 have e':f151.l0 k k (e4.getD v.toNat []) w ((e4.getD v.toNat []).length:Int) 0=some (r,()):=e
 simp only [e',Option.bind_some,h2,List.drop_zero,decide_eq_true_eq]
theorem JI (k:Nat) (l:List Int) (q:Int) (hl:l.length<=10000000):f149 (k+3) [l,[q]]=some (l++[q],()):=by
 have h1:Ar (0+(l.length:Int))=(l.length:Int):=by rw [CH (by omega) (by omega)];omega
 have h2:Ar ((l.length:Int)+1)=(l.length:Int)+1:=CH (by omega) (by omega)
 have h3:Ar (0+1)=1:=by decide
 have h4:Ar (1+1)=2:=by decide
 have a0:([l,[q]]:List (List Int)).getD (0:Int).toNat []=l:=rfl
 have a1:([l,[q]]:List (List Int)).getD (1:Int).toNat []=[q]:=rfl
 have l2:(([l,[q]]:List (List Int)).length:Int)=2:=rfl
 have r7:(([q]:List Int).length:Int)=1:=rfl
 have Np:([q]:List Int).length=1:=rfl
 have hg:f184 (k+3) none ((l.length:Int)+1)=some (([]:List Int),()):=by
  simp only [f184,yx]
  rw [if_pos (by omega)]
  rfl
 simp only [f149,f149.sk,f149.l0,f149.u0,f149.ox,f149.FM,l2,a0,h1,h3]
 rw [if_pos (by decide),if_pos (by decide),if_pos (by decide),if_neg (by omega)]
 simp only [a1,r7,h2,h4]
 rw [if_pos (by decide),if_pos (by decide),if_pos (by decide),if_neg (by omega),if_neg (by decide)]
 rw [hg]
 simp only [Option.bind_some,f149.l2,f149.Dl,a0,a1,h3,h4,Np,l2,List.nil_append,List.length_nil]
 rw [if_pos (by decide),if_pos (by decide),if_pos (by decide),if_pos (by first|omega| (simp;omega)|simp),if_pos (by decide),if_pos (by decide),if_pos (by decide),if_pos (by first|omega| (simp;omega)|simp),if_neg (by decide)]
end Go.Proofs.Ythfjdcdbimjkjaa.Rw
namespace Go.Proofs.Ythfjdcdbimjkjaa.Rw
open Go.Rx
section
variable {N:List Pt} {E:List Ed} {b:List Int} {s:Int}
structure HU (N:List Pt) (E:List Ed) (b:List Int):Prop where
 n:N.length<=200
 e:E.length<=600
 c:HT E b
 lb:b.length=E.length
 ends:∀k,Cp k E.length->Cp (DX E k) N.length/\Cp (D8 E k) N.length
theorem MI.cnt {n:Nat} {e4:List (List W2)} {op:List L2} {ex:Int->W2->Int->Prop} (h:MI E b s n ex e4 op) (hn:n<=200):EP e4<=10000:=by
 have h2:=Hl (m:=50) (e4:=e4) λ l hl=>by
  obtain ⟨i,hi,rfl⟩:=List.getElem_of_mem hl
  have:=(h.st (i:Int) ⟨Int.natCast_nonneg _,by rw [<-h.len];omega⟩).2
  rw [Int.toNat_natCast,List.getD_eq_getElem?_getD,List.getElem?_eq_getElem hi] at this
  exact this
 rw [h.len] at h2
 omega
theorem IB (hN:HU N E b) {e4:List (List W2)} {v:Int} {w:W2} (hv:Cp v N.length) (hp:Fj E b s v w) (hd:w∈e4.getD v.toNat []) (hlo:∀u,Cp u N.length->∀z∈e4.getD u.toNat [],ES z.2 w.2) (hlen:w.1.length+1<=EP e4):
 ∀(d i:Nat) (op:List L2),i+d=(DY v 0 E).length->op.length+d<=10000000->MI E b s N.length (λ u y k=>u=v/\y=w/\k∈(DY v 0 E).drop i) e4 op->
 ∃op',MI E b s N.length FC e4 op'/\op'.length<=op.length+d/\∀res,gb (λ k n=>f99.l0 k n N E [] b e4 op') res->qI (λ k n m=>f99.l2 k (f99.l0 k n) m N E [] b e4 op v w.1 w.2.1 w.2.2 (DY v 0 E) ((DY v 0 E).length:Int) (i:Int)) res
 | 0,i,op,hi,hop,iB=>by
   refine ⟨op,⟨iB.len,iB.pd,iB.po,iB.st,iB.lo,iB.c0,λ u hu y hy k hk hf he=>iB.q5 u hu y hy k hk hf λ q=> ?_⟩,by omega,λ res hr=>qI.step (λ k n m=> ?_) hr.three⟩
   ·rw [List.drop_eq_nil_of_le (by omega)] at q;cases q.2.2
   ·rw [f99.l2,f99.Dl,if_neg (by omega),f99.b1,f99.I1]
 |d+1,i,op,hi,hop,iB=>by
  have hil:i <(DY v 0 E).length:=by omega
  have hE:=hN.e
  have ho:=GF v E 0
  have hwi:Ar ((i:Int)+1)=((i+1:Nat):Int):=by rw [CH (by omega) (by omega)];omega
  have hmem:(DY v 0 E).getD i 0∈DY v 0 E:=by rw [List.getD_eq_getElem?_getD,List.getElem?_eq_getElem hil];exact List.getElem_mem hil
  have GP:(DY v 0 E).drop i=(DY v 0 E).getD i 0::(DY v 0 E).drop (i+1):=by
   rw [List.drop_eq_getElem_cons hil,List.getD_eq_getElem?_getD,List.getElem?_eq_getElem hil];rfl
  generalize hq:(DY v 0 E).getD i 0=q at hmem GP
  obtain ⟨Gg,Ni⟩:=Iw.1 hmem
  have hto:=(hN.ends q Gg).2
  obtain ⟨l1,l2⟩:=hp.le hN.c
  have B7:=iB.cnt hN.n
  have hc:=hN.c q Gg
  have e1:Ar (w.2.1+(E.getD q.toNat (0,(0,(0,0)))).2.2.1)=w.2.1+DG E q:=by
   show Ar (w.2.1+DG E q)=_
   simp only [c2] at hc
   exact CH (by omega) (by omega)
  have e2:Ar (w.2.2+b.getD q.toNat 0)=w.2.2+b.getD q.toNat 0:=by
   simp only [c2] at hc
   exact CH (by omega) (by omega)
  have h50:=(iB.st (D8 E q) hto).2
  obtain ⟨K,hK⟩:=Hw N E [] b e4 op (v:=D8 E q) (w.1++[q],EY w.2 (c2 E b q)) (by rw [iB.len];exact hto) (by omega)
  have Lg:=λ k=>JI k w.1 q (by omega)
  have Mo:∀op',((op'=op/\∃z∈e4.getD (D8 E q).toNat [],Eh z.2 (EY w.2 (c2 E b q)))\/op'=op++[(D8 E q,(w.1++[q],EY w.2 (c2 E b q)))])->MI E b s N.length (λ u y k=>u=v/\y=w/\k∈(DY v 0 E).drop (i+1)) e4 op':=λ op' h=>
   iB.MP (x:=(v,w)) hN.c (λ k hk=>(hN.ends k hk).2) hv hd hlo hlen hp Gg Ni (λ u y k' q1 q2=>⟨q1.1,q1.2.1,by
    rw [GP] at q1
    rcases List.mem_cons.1 q1.2.2 with g|g
    ·exact g
    ·exact (q2 ⟨q1.1,q1.2.1,g⟩).elim⟩) h
  by_cases hb:∃z∈e4.getD (D8 E q).toNat [],Eh z.2 (EY w.2 (c2 E b q))
  ·obtain ⟨op',g1,g2,g3⟩:=IB hN hv hp hd hlo hlen d (i+1) op (by omega) (by omega) (Mo op (.inl ⟨rfl,hb⟩))
   refine ⟨op',g1,by omega,λ res hr=>qI.Eo (K+3) (λ k n m hk=> ?_) (g3 res hr)⟩
   obtain ⟨k,rfl⟩:∃j,k=j+3:=⟨k - 3,by omega⟩
   have e:=hK (k+3) (by omega)
   simp only [decide_eq_true hb] at e
   rw [f99.l2,f99.Dl,if_pos (by omega),if_pos (by omega),if_pos (by omega)]
   simp only [Int.toNat_natCast,hq,Lg,Option.bind_some]
   rw [if_pos Gg.1,if_pos Gg.2,if_pos Gg.1,if_pos (by rw [hN.lb];exact Gg.2),e1,e2]
   erw [e]
   simp only [Option.bind_some]
   rw [if_neg (by simp),f99.Kw,f99.HO,hwi]
  ·obtain ⟨op',g1,g2,g3⟩:=IB hN hv hp hd hlo hlen d (i+1) (op++[(D8 E q,(w.1++[q],EY w.2 (c2 E b q)))]) (by omega) (by simp;omega) (Mo _ (.inr rfl))
   refine ⟨op',g1,by simp at g2;omega,λ res hr=>qI.Eo (K+3) (λ k n m hk=> ?_) (g3 res hr)⟩
   obtain ⟨k,rfl⟩:∃j,k=j+3:=⟨k - 3,by omega⟩
   have e:=hK (k+3) (by omega)
   simp only [decide_eq_false hb] at e
   rw [f99.l2,f99.Dl,if_pos (by omega),if_pos (by omega),if_pos (by omega)]
   simp only [Int.toNat_natCast,hq,Lg,Option.bind_some]
   rw [if_pos Gg.1,if_pos Gg.2,if_pos Gg.1,if_pos (by rw [hN.lb];exact Gg.2),e1,e2]
   erw [e]
   simp only [Option.bind_some]
   rw [if_pos (by simp),if_pos (by omega),f99.Kw,f99.HO,hwi]
   rfl
theorem Kj {c M o o' o2 l e:Nat} (hm:(10000 - c) * 601+o<=M+1) (hc:c+1<=10000) (h1:o=o'+1) (h2:o2<=o'+l) (h3:l<=e) (h4:e<=600):(10000 - (c+1)) * 601+o2<=M:=by
 obtain ⟨x,hx⟩:∃x,10000 - (c+1)=x:=⟨_,rfl⟩
 have h:10000 - c=x+1:=by omega
 rw [hx]
 rw [h,Nat.succ_mul] at hm
 clear h hx hc
 generalize x * 601=y at *
 omega
theorem IC {e4:List (List W2)} (iB:MI E b s N.length FC e4 []):∃E2 op' r,gb (λ k n=>f99.l0 k n N E [] b e4 []) ((((N,(E,[])),b,op',()),(E2,())),(r,()))/\(r=0/\MI E b s N.length FC E2 []\/r=2):=
 ⟨e4,[],0,gb.step (λ k n=>by
   rw [f99.l0,f99.u0,if_neg (by simp)]) (gb.pure _),.inl ⟨rfl,iB⟩⟩
theorem Ki (hN:HU N E b):∀(M:Nat) (e4:List (List W2)) (op:List L2),(10000 - EP e4) * 601+op.length<=M->op.length<=1+600 * EP e4->MI E b s N.length FC e4 op->
 ∃E2 op' r,gb (λ k n=>f99.l0 k n N E [] b e4 op) ((((N,(E,[])),b,op',()),(E2,())),(r,()))/\(r=0/\MI E b s N.length FC E2 []\/r=2):=by
 intro M
 induction M with
 |zero=>
  intro e4 op hm ho iB
  cases op with
  |nil=>exact IC iB
  |cons y op=>simp at hm
 |succ M ih=>
  intro e4 op hm ho iB
  by_cases hop0:op=[]
  ·subst hop0;exact IC iB
  have hpos:0 <(op.length:Int):=by have:=List.length_pos_iff.2 hop0;omega
  have hn:=hN.n
  have B7:=iB.cnt hn
  obtain ⟨x,op',hP,K1,h1⟩:=Lp N E [] b e4 hop0 (by omega) (λ y hy=>by have:=(iB.po y hy).2.2;omega)
  have hx:x∈op:=(hP.mem x).2 (.inl rfl)
  obtain ⟨xr,xp,r9⟩:=iB.po x hx
  have KL:x.1 <(e4.length:Int):=by rw [iB.len];exact xr.2
  have h50:=(iB.st x.1 xr).2
  have hl:=hP.len
  obtain ⟨K2,h2⟩:=Hw N E [] b e4 op' (v:=x.1) x.2 (by rw [iB.len];exact xr) (by omega)
  by_cases hb:∃z∈e4.getD x.1.toNat [],Eh z.2 x.2.2
  ·obtain ⟨E2,KN,r,g1,g2⟩:=ih e4 op' (by omega) (by omega) (iB.K8 hP hb)
   refine ⟨E2,KN,r,gb.Eo (K1+K2) (λ k n hk=> ?_) g1,g2⟩
   have e1:=h1 k (by omega)
   have e2:=h2 k (by omega)
   simp only [decide_eq_true hb] at e1 e2
   rw [f99.l0,f99.u0,if_pos hpos,e1]
   simp only [Option.bind_some]
   erw [e2]
   simp only [Option.bind_some,if_true]
   rw [f99.b1,f99.I1]
  ·by_cases h5:(e4.getD x.1.toNat []).length=50
   ·refine ⟨e4,op',2,gb.Eo (K1+K2) (g:=λ _ _=>some _) (λ k n hk=> ?_) (gb.pure _),.inr rfl⟩
    have e1:=h1 k (by omega)
    have e2:=h2 k (by omega)
    simp only [decide_eq_false hb] at e1 e2
    rw [f99.l0,f99.u0,if_pos hpos,e1]
    simp only [Option.bind_some]
    erw [e2]
    simp only [Option.bind_some]
    rw [if_neg (by simp),if_pos xr.1,if_pos KL,if_pos (by omega)]
   ·have hS:=iB.settle hP hb (by omega)
    have sV:(e4.set x.1.toNat (e4.getD x.1.toNat []++[x.2])).getD x.1.toNat []=e4.getD x.1.toNat []++[x.2]:=by
     rw [Gf (by rw [iB.len];exact Fi xr),if_pos rfl]
    have hcs:=Gz (x:=x.2) (e4:=e4) (v:=x.1.toNat) (by rw [iB.len];exact Fi xr)
    have Lh:=hS.cnt hn
    have uq:=GF x.1 E 0
    have hE:=hN.e
    obtain ⟨KN,g1,g2,g3⟩:=IB hN (e4:=e4.set x.1.toNat (e4.getD x.1.toNat []++[x.2])) (w:=x.2) xr xp (by rw [sV];simp) (λ u hu z hz=>by
     rw [Gf (by rw [iB.len];exact Fi xr)] at hz
     split at hz
     ·rename_i e
      rcases List.mem_append.1 hz with hz|hz
      ·exact iB.lo x.1 xr z hz x hx
      ·rw [List.mem_singleton.1 hz];exact Io _
     ·exact iB.lo u hu z hz x hx) (by rw [hcs];omega) (DY x.1 0 E).length 0 op' (by omega) (by omega) ⟨hS.len,hS.pd,hS.po,hS.st,hS.lo,hS.c0,λ u hu y hy k hk hf he=>by
      by_cases q:u=x.1/\y=x.2
      ·exact (he ⟨q.1,q.2,by rw [List.drop_zero];exact Iw.2 ⟨hk,by rw [hf];exact q.1⟩⟩).elim
      ·exact hS.q5 u hu y hy k hk hf q⟩
    have hA:=Kj hm (by rw [hcs] at Lh;exact Lh) hl g2 uq hE
    have hB:KN.length<=1+600 * (EP e4+1):=by omega
    obtain ⟨E2,Nq,r,k1,k2⟩:=ih _ KN (by rw [hcs];exact hA) (by rw [hcs];exact hB) g1
    obtain ⟨K3,h3⟩:=KW N E [] x.1 hE
    refine ⟨E2,Nq,r,gb.Eo (K1+K2+K3) (λ k n hk=> ?_) (g3 _ k1).C8,k2⟩
    have e1:=h1 k (by omega)
    have e2:=h2 k (by omega)
    have e3:=h3 k (by omega)
    simp only [decide_eq_false hb] at e1 e2 e3
    rw [f99.l0,f99.u0,if_pos hpos,e1]
    simp only [Option.bind_some]
    erw [e2]
    simp only [Option.bind_some]
    rw [if_neg (by simp),if_pos xr.1,if_pos KL,if_neg (by omega),if_pos xr.1,if_pos KL,if_pos (by omega),if_pos xr.1,if_pos KL,if_pos trivial]
    erw [e3]
    rfl
theorem Lu (hN:HU N E b) (hs:Cp s N.length):∃E2 op' r,Ev (λ k=>f99 k (N,(E,[])) b [] (List.replicate N.length []) s) ((((N,(E,[])),b,op',()),(E2,())),(r,()))/\(r=0/\MI E b s N.length FC E2 []\/r=2):=by
 obtain ⟨E2,op',r,h1,h2⟩:=Ki hN _ (List.replicate N.length []) [(s,([],(0,0)))] (Nat.le_refl _) (by simp) (MI.start hs)
 exact ⟨E2,op',r,h1.diag,h2⟩
end
theorem Hx {N:List Pt} {E:List Ed} {b:List Int} {s t:Int} (hc:∀k,k <b.length->0<=b.getD k 0/\b.getD k 0<=1099511627776) (hl:b.length<=600) {res:List W2×Int×Unit}
 (hs:Cp s N.length) (ht:Cp t N.length) (hr:Ev (λ k=>f40.FI k N E [] b s t false) res):∀(d i:Nat),i+d=b.length->gb (λ k n=>f40.l0 k n N E [] b s t (b.length:Int) (i:Int)) res
 | 0,i,hd=>by
   refine gb.step (λ k n=> ?_) hr.two
   rw [f40.l0,f40.u0,if_neg (by omega),if_neg (by have:=hs.1;omega),if_neg (by have:=ht.1;omega),if_neg (by have:=hs.2;omega),decide_eq_false (by have:=ht.2;omega)]
 |d+1,i,hd=>by
  have h1:=hc i (by omega)
  have hwi:Ar ((i:Int)+1)=((i+1:Nat):Int):=by rw [CH (by omega) (by omega)];omega
  refine gb.step (λ k n=> ?_) (Hx hc hl hs ht hr d (i+1) (by omega))
  rw [f40.l0,f40.u0,if_pos (by omega),if_pos (by omega),if_pos (by omega),Int.toNat_natCast,if_neg (by omega),decide_eq_false (by omega),f40.Gw,f40.Fu,if_neg (by simp),hwi]
theorem KP {N:List Pt} {E:List Ed} {b:List Int} {s t:Int} (h0:Fm (N,(E,[]))=0) (hb:b.length=E.length) (hc:∀k,k <b.length->0<=b.getD k 0/\b.getD k 0<=1099511627776) (hN:HU N E b) (hs:Cp s N.length) (ht:Cp t N.length):
 ∃l r,Ev (λ k=>f40 k (N,(E,[])) b s t) (l,r,())/\((r=0/\l≠[]/\Fw E b s t l)\/(r=17/\l=[]/\Fw E b s t [])\/(r=2/\l=[])):=by
 have hE:=hN.e
 have hn:=hN.n
 obtain ⟨E2,op',r,h1,h2⟩:=Lu hN hs
 obtain ⟨K1,k1⟩:=JG (N,(E,[]))
 have main:∀res,Ev (λ k=>f40.FI k N E [] b s t false) res->Ev (λ k=>f40 k (N,(E,[])) b s t) res:=λ res hr=>by
  obtain ⟨K2,k2⟩:=(Hx hc (by omega) hs ht hr b.length 0 (by omega)).diag
  refine ⟨K1+K2,λ k hk=> ?_⟩
  have e1:=k1 k (by omega)
  have e2:=k2 k (by omega)
  simp only at e1 e2
  rw [h0] at e1
  simp only [f40,f40.sk,e1,Option.bind_some]
  rw [if_neg (by simp),if_neg (by simp),if_neg (by simp [hb])]
  exact e2
 obtain ⟨K3,k3⟩:=h1
 have kW:List.replicate ((N.length:Int)).toNat ([]:List (List Int×(Int×Int)))=List.replicate N.length []:=by rw [Int.toNat_natCast]
 rcases h2 with ⟨rfl,h2⟩|rfl
 ·have hF:=h2.done hN.n (λ k hk=>hN.ends k hk) hs ht
  have dz:t <(E2.length:Int):=by rw [h2.len];exact ht.2
  by_cases hz:E2.getD t.toNat []=[]
  ·refine ⟨[],17,main _ ⟨K3,λ k hk=> ?_⟩,.inr (.inl ⟨rfl,rfl,by rw [<-hz];exact hF⟩)⟩
   have e:=k3 k hk
   simp only at e
   show f40.FI k N E [] b s t false=_
   rw [f40.FI,f40.Fv,if_neg (by simp),if_pos (by omega),if_pos (by omega),kW,e]
   simp only [Option.bind_some]
   rw [if_neg (by simp),if_pos ht.1,if_pos dz,if_pos (by rw [hz];rfl)]
  ·refine ⟨E2.getD t.toNat [],0,main _ ⟨K3,λ k hk=> ?_⟩,.inl ⟨rfl,hz,hF⟩⟩
   have e:=k3 k hk
   simp only at e
   show f40.FI k N E [] b s t false=_
   have A7: ¬((E2.getD t.toNat []).length:Int)=0:=by
    have:=List.length_pos_iff.2 hz;omega
   rw [f40.FI,f40.Fv,if_neg (by simp),if_pos (by omega),if_pos (by omega),kW,e]
   simp only [Option.bind_some]
   rw [if_neg (by simp),if_pos ht.1,if_pos dz,if_neg A7,if_pos ht.1,if_pos dz]
 ·refine ⟨[],2,main _ ⟨K3,λ k hk=> ?_⟩,.inr (.inr ⟨rfl,rfl⟩)⟩
  have e:=k3 k hk
  simp only at e
  show f40.FI k N E [] b s t false=_
  rw [f40.FI,f40.Fv,if_neg (by simp),if_pos (by omega),if_pos (by omega),kW,e]
  simp only [Option.bind_some]
  rw [if_pos (by simp)]
end Go.Proofs.Ythfjdcdbimjkjaa.Rw
namespace Go.Proofs.Ythfjdcdbimjkjaa.Rw
open Go.Rx
def Small (hi:Int) (b:List Int):Prop:=∀x∈b,0<=x/\x<=hi
theorem Small.get {hi:Int} (h0:0<=hi) {b:List Int} (h:Small hi b) (k:Nat):0<=b.getD k 0/\b.getD k 0<=hi:=by
 rw [List.getD_eq_getElem?_getD]
 cases e:b[k]? with
 |none=>exact ⟨Int.le_refl _,h0⟩
 |some x=>exact h x (List.mem_of_getElem? e)
theorem Hs {b:List Int} (h:Small 11 b):∀w:List Int,0<=Ec b w/\Ec b w<=11 * (w.length:Int)
 | []=>by simp [Ec]
 |k::w=>by
  have h1:=h.get (by decide) k.toNat
  have h2:=Hs h w
  simp only [Ec,List.length_cons];omega
theorem Gv:∀(d i:Nat) (a b:List Int),i+d=b.length->b.length<=600->Small 11 b->∃b',b'.length=b.length/\Small 11 b'/\gb (λ k n=>f45.l0 k n a b (b.length:Int) (i:Int)) (b',())
 | 0,i,a,b,hd,hl,hb=>⟨b,rfl,hb,gb.step (g:=λ _ _=>some (b,())) (λ k n=>by rw [f45.l0,f45.u0,if_neg (by omega)]) (gb.pure _)⟩
 |d+1,i,a,b,hd,hl,hb=>by
  have hn:=Em (a:=a) (n:=12) (by decide)
  have hwi:Ar ((i:Int)+1)=((i+1:Nat):Int):=by rw [CH (by omega) (by omega)];omega
  obtain ⟨b',h1,h2,h3⟩:=Gv d (i+1) (Dv a 12).1 (b.set i (Dv a 12).2) (by simp;omega) (by simpa using hl) (λ x hx=>by
   rcases List.mem_or_eq_of_mem_set hx with hx|rfl
   ·exact hb x hx
   ·omega)
  rw [List.length_set] at h1 h3
  refine ⟨b',h1,h2,gb.step (λ k n=> ?_) h3⟩
  rw [f45.l0,f45.u0,if_pos (by omega),next_eq k a 12 (by decide) (by decide)]
  simp only [Option.bind_some,hwi,Int.toNat_natCast]
  rw [if_pos (by omega),if_pos (by omega)]
theorem JM (n:Nt) (m:List Int) (hl:n.2.1.length<=600):∃b,b.length=n.2.1.length/\Small 11 b/\Ev (λ k=>f45 k n m) (b,()):=by
 obtain ⟨b,h1,h2,h3⟩:=Gv n.2.1.length 0 m (List.replicate n.2.1.length 0) (by simp) (by simpa using hl) (λ x hx=>by rw [(List.mem_replicate.1 hx).2];omega)
 refine ⟨b,by simpa using h1,h2,Ev.of (λ k=> ?_) h3.diag⟩
 simp only [f45,f45.sk]
 rw [if_pos (by omega),if_pos (by omega),Int.toNat_natCast]
 rfl
theorem MV {N:List Pt} {E:List Ed} {b:List Int} (hN:N.length<=8) (hE:EK N.length E) (hl:E.length<=16) (hb:b.length=E.length) (hs:Small 11 b):HU N E b:=by
 have hg:∀k,Cp k E.length->E.getD k.toNat zE∈E:=λ k hk=>by
  have:k.toNat <E.length:=Fi hk
  rw [List.getD_eq_getElem?_getD,List.getElem?_eq_getElem this];exact List.getElem_mem this
 refine ⟨by omega,by omega,λ k hk=> ?_,hb,λ k hk=>⟨(hE _ (hg k hk)).1,(hE _ (hg k hk)).2.1⟩⟩
 have h1:=hE _ (hg k hk)
 have h2:=hs.get (by decide) k.toNat
 simp only [c2,DG]
 omega
theorem GN:Ev (λ k=>f46 k) (true,()):=by
 obtain ⟨m,h1,h2,h3,h4⟩:=Ig [(2,2),(1,1)] (by decide)
 have hm:m=[(1,1)]:=Jj h2 (by simp) λ x=>by
  rw [h3]
  unfold Gr EJ
  simp only [List.mem_cons,List.not_mem_nil,or_false]
  constructor
  ·rintro ⟨rfl|rfl,h⟩
   ·have:=h (1,1) (by simp)
    simp at this
   ·rfl
  ·rintro rfl
   refine ⟨by simp, ?_⟩
   rintro y (rfl|rfl)<;>simp
 subst hm
 have h5:=HG [(1,1)] (by decide)
 refine Ev.of (g:=λ k=>(f50 k [(2,2),(1,1)]).bind λ r1=>(f49 k r1.1 [(1,1)]).bind λ r2=>some (decide (r2.1=true),())) (λ k=>rfl) (h1.bind (h5.bind ?_))
 simpa using Ev.pure (true,())
end Go.Proofs.Ythfjdcdbimjkjaa.Rw
namespace Go.Proofs.Ythfjdcdbimjkjaa.Rw
open Go.Rx
section
variable {N:List Pt} {E:List Ed} {b:List Int} {A C:Int}
theorem HM {b w:List Int} {i:Nat} (h:i <w.length):Ec b (w.take (i+1))=Ec b (w.take i)+b.getD (w.getD i 0).toNat 0:=by
 have e:w.getD i 0=w[i]:=by rw [List.getD_eq_getElem?_getD,List.getElem?_eq_getElem h];rfl
 rw [e,List.take_add_one,List.getElem?_eq_getElem h,Option.toList_some,Gj]
theorem HB (hb:Small 11 b) {all:List (Int×Int)} {l:List W2} {x:W2} (hx:∀k∈x.1,Cp k b.length) (hlen:x.1.length<=10000) (Lk:Ec b x.1=x.2.2) (hall:all.length<=1000) {f:Bool} {i:Nat} {res:Bool×Unit}
 (hr:gb (λ k n=>f9.l2 k n A C (all++[x.2]) l N E [] (f || decide (Eh x.2 (A,C))) b (l.length:Int) (Ar ((i:Int)+1))) res):∀(d j:Nat),j+d=x.1.length->
 qI (λ k n m=>f9.l4 k (f9.l2 k n) m A C all x.1 x.2.1 x.2.2 l N E [] f x.2.1 0 (Ec b (x.1.take j)) b (l.length:Int) (i:Int) (x.1.length:Int) (j:Int)) res
 | 0,j,hd=>by
   refine qI.step (λ k n m=> ?_) hr.three
   rw [f9.l4,f9.Es,if_neg (by omega),if_neg (by simp),if_neg (by simp),List.take_of_length_le (by omega),Lk,decide_eq_false (by simp)]
   rw [f9.Ls,f9.HR,if_neg (by simp),if_pos (by omega),KM]
   simp only [f9.r32,f9.Jh,Option.bind_some]
   cases f with
   |true=>rw [if_pos (by simp)];simp
   |false=>rw [if_neg (by simp)];simp
 |d+1,j,hd=>by
  have hj:j <x.1.length:=by omega
  have hm:x.1.getD j 0∈x.1:=by rw [List.getD_eq_getElem?_getD,List.getElem?_eq_getElem hj];exact List.getElem_mem hj
  have hk:=hx _ hm
  have Nl:Ar ((j:Int)+1)=((j+1:Nat):Int):=by rw [CH (by omega) (by omega)];omega
  have hs1:=Hs hb (x.1.take (j+1))
  rw [List.length_take] at hs1
  have hs2:=HM (b:=b) hj
  have ih:=HB hb hx hlen Lk hall hr d (j+1) (by omega)
  refine qI.step (λ k n m=> ?_) ih
  rw [f9.l4,f9.Es,if_pos (by omega),if_pos (by omega),if_pos (by omega),Int.toNat_natCast,if_neg (by have:=hk.1;omega),decide_eq_false (by have:=hk.2;omega)]
  rw [f9.Lr,f9.Jg,if_neg (by simp),if_pos hk.1,if_pos hk.2, <-hs2,CH (by omega) (by omega),Nl]
  simp
theorem GL (h0:Fm (N,(E,[]))=0) {n0:Nat} (hE:EK n0 E) (hb:Small 11 b) (jN:b.length=E.length) {s t:Int} {l:List W2} (hl:Fw E b s t l) (hw:∃x∈l,Eh x.2 (A,C)):∀(d i:Nat),i+d=l.length->
 gb (λ k n=>f9.l2 k n A C ((l.take i).map (·.2)) l N E [] (decide (∃x∈l.take i,Eh x.2 (A,C))) b (l.length:Int) (i:Int)) (true,())
 | 0,i,hd=>by
   have h50:=hl.len
   rw [List.take_of_length_le (by omega),decide_eq_true hw]
   obtain ⟨g1,g2⟩:=hl.front
   obtain ⟨m,m1,m2,m3,m4⟩:=Ig (l.map (·.2)) (by simp;omega)
   obtain rfl:m=l.map (·.2):=Jj m2 g1 λ x=>by rw [m3, <-g2]
   obtain ⟨K1,k1⟩:=m1
   obtain ⟨K2,k2⟩:=HG (l.map (·.2)) (by simp;omega)
   refine gb.Eo (K1+K2) (λ k n hk=> ?_) (gb.pure _)
   have e1:=k1 k (by omega)
   have e2:=k2 k (by omega)
   simp only at e1 e2
   rw [f9.l2,f9.Dl,if_neg (by omega),if_pos rfl,e1]
   simp only [Option.bind_some,e2,f9.Lt,f9.Ji]
   simp
 |d+1,i,hd=>by
  have h50:=hl.len
  have hil:i <l.length:=by omega
  have hm:l.getD i ([],(0,0))∈l:=by rw [List.getD_eq_getElem?_getD,List.getElem?_eq_getElem hil];exact List.getElem_mem hil
  have KK:l.take (i+1)=l.take i++[l.getD i ([],(0,0))]:=by
   rw [List.getD_eq_getElem?_getD,List.getElem?_eq_getElem hil,List.take_add_one,List.getElem?_eq_getElem hil];rfl
  have ih:=GL h0 hE hb jN hl hw d (i+1) (by omega)
  generalize hx:l.getD i ([],(0,0))=x at hm KK
  have hp:=hl.path x hm
  have hlen:=hl.wl x hm
  obtain ⟨c1,c2,c3,c4,c5,mm⟩:=hp.chain
  have hwi:Ar ((i:Int)+1)=((i+1:Nat):Int):=by rw [CH (by omega) (by omega)];omega
  obtain ⟨K,hK⟩:=KU (N,(E,[])) x.1 (by omega)
  rw [I4,if_pos h0,Gt hE x.1 none 0 c1 (by omega) (by omega),Int.zero_add,c2] at hK
  rw [KK,List.map_append,List.map_singleton] at ih
  have MQ:decide (∃y∈l.take i++[x],Eh y.2 (A,C))=(decide (∃y∈l.take i,Eh y.2 (A,C)) || decide (Eh x.2 (A,C))):=by
   rw [<-Bool.decide_or]
   congr 1
   simp only [List.mem_append,List.mem_singleton,eq_iff_iff]
   constructor
   ·rintro ⟨y,q|rfl,h⟩
    ·exact .inl ⟨y,q,h⟩
    ·exact .inr h
   ·rintro (⟨y,q,h⟩|h)
    ·exact ⟨y,.inl q,h⟩
    ·exact ⟨x,.inr rfl,h⟩
  rw [MQ, <-hwi] at ih
  have hin:=HB (N:=N) (E:=E) hb (x:=x) (by rw [jN];exact c5) hlen c3 (by simp;omega) ih x.1.length 0 (by omega)
  refine gb.Eo K (λ k n hk=> ?_) hin.C8
  have e:=hK k hk
  simp only at e
  rw [f9.l2,f9.Dl,if_pos (by omega),if_pos (by omega),if_pos (by omega),Int.toNat_natCast,hx,e]
  simp [Ec]
theorem GM (hb:Small 11 b) {w:List Int} (hw:∀k∈w,Cp k b.length) (hl:w.length<=1000) {at_:Int} {res:Bool×Unit} (hr:Ev (λ k=>(f40 k (N,(E,[])) b 0 at_).bind λ r1=>(f46 k).bind λ r2=>if r2.1=true then f9.Gw k A (Ec b w) r1.1 N E [] r1.2.1 (decide (r1.2.1=2)) b else f9.Gw k A (Ec b w) r1.1 N E [] r1.2.1 false b) res):∀(d i:Nat),i+d=w.length->
 gb (λ k n=>f9.l0 k n A (Ec b (w.take i)) b N E [] at_ w (w.length:Int) (i:Int)) res
 | 0,i,hd=>by
   refine gb.step (λ k n=> ?_) hr.two
   rw [f9.l0,f9.u0,if_neg (by omega),List.take_of_length_le (by omega)]
 |d+1,i,hd=>by
  have hil:i <w.length:=by omega
  have hm:w.getD i 0∈w:=by rw [List.getD_eq_getElem?_getD,List.getElem?_eq_getElem hil];exact List.getElem_mem hil
  have hk:=hw _ hm
  have hwi:Ar ((i:Int)+1)=((i+1:Nat):Int):=by rw [CH (by omega) (by omega)];omega
  have hs1:=Hs hb (w.take (i+1))
  rw [List.length_take] at hs1
  have hs2:=HM (b:=b) hil
  refine gb.step (λ k n=> ?_) (GM hb hw hl hr d (i+1) (by omega))
  rw [f9.l0,f9.u0,if_pos (by omega),if_pos (by omega),if_pos (by omega),Int.toNat_natCast,if_pos hk.1,if_pos hk.2, <-hs2,CH (by omega) (by omega),hwi]
end
theorem Ks {E:List Ed} {B:List Pt} {s sum at_:Int} {way:List Int} {n:Nat} (hE:EK n E) (h:FG E B s way sum at_) (hs:Cp s n):Cp at_ n:=by
 rw [h.at_]
 cases hl:way.getLast? with
 |none=>exact hs
 |some y=>
  have hy:y∈way:=List.mem_of_getLast? hl
  have hc:∀(w:List Int) (p:Option Int),Fl E B p w->∀k∈w,Cp k E.length:=λ w=>by
   induction w with
   |nil=>intro p _ k hk;cases hk
   |cons z w ih=>
    intro p hc k hk
    rcases List.mem_cons.1 hk with rfl|hk
    ·exact hc.1
    ·exact ih _ hc.2.2 k hk
  have hr:=hc way none h.ch y hy
  have:y.toNat <E.length:=Fi hr
  have hg:E.getD y.toNat zE∈E:=by rw [List.getD_eq_getElem?_getD,List.getElem?_eq_getElem this];exact List.getElem_mem this
  exact (hE _ hg).2.1
theorem Kf (a:List Int):∃(N:List Pt) (E:List Ed),2<=N.length/\N.length<=8/\EK N.length E/\E.length<=16/\Fm (N,(E,[]))=0/\Ev (λ k=>f14 k a) ((N,(E,([]:List Pt))),()):=by
 obtain ⟨N,E,B,n1,n2,n3,e1,e2,b1,b2,MS⟩:=Lo a
 refine ⟨N,E,n2,n3,e1,e2,I7 n1 n3 e1 e2 ⟨List.nodup_nil,λ q hq=>by cases hq⟩ (Nat.zero_le _), ?_⟩
 simp only [f14,f14.sk]
 exact MS.bind (Ev.pure _)
theorem I3 (a m w:List Int):Ev (λ k=>f9 k a m w) (true,()):=by
 obtain ⟨N,E,n2,n3,e1,e2,h0,hp⟩:=Kf a
 obtain ⟨b,b1,b2,ho⟩:=JM (N,(E,[])) m (by simp only;omega)
 have Nh:uB false (w.length:Int) 10=((min w.length 10:Nat):Int):=by rw [BS];omega
 have hml:(w.take (min w.length 10)).length<=12:=by rw [List.length_take];omega
 obtain ⟨way,sum,at_,hW,Ll,LJ⟩:=KY (N:=N) (B:=[]) e1 (by omega) (by simp) 0 hml
 have hend:=Ks e1 hW ⟨by omega,by omega⟩
 have Ka:=Kt (b:=b) hW
 have iB:=MV n3 e1 e2 b1 b2
 simp only at b1
 have hc:∀k,k <b.length->0<=b.getD k 0/\b.getD k 0<=1099511627776:=λ k _=>by have:=b2.get (by decide) k;omega
 obtain ⟨l,r,LI,hres⟩:=KP h0 b1 hc iB (s:=0) (t:=at_) ⟨by omega,by omega⟩ hend
 simp only [f9,f9.sk]
 refine hp.bind (ho.bind ?_)
 simp only [Nh]
 refine Ev.of (λ k=>by rw [if_pos (by omega),if_pos (by omega),Int.toNat_natCast]) (LJ.bind ?_)
 refine (GM b2 (w:=way) (by rw [b1];exact Ka.chain.2.2.2.2.1) (by omega) (LI.bind (GN.bind ?_)) way.length 0 (by omega)).diag
 simp only [if_true]
 rcases hres with ⟨rfl,hl0,hF⟩|⟨rfl,rfl,hF⟩|⟨rfl,rfl⟩
 ·have hall:=hF.all _ Ka
  simp only [f9.Gw,f9.Fu]
  refine Ev.of (λ k=>by rw [if_neg (by simp)]) (GN.bind ?_)
  simp only [f9.Lq,f9.HQ]
  have:=(GL (N:=N) h0 e1 b2 b1 hF hall l.length 0 (by omega)).diag
  simpa using this
 ·obtain ⟨x,hx,_⟩:=hF.all _ Ka
  cases hx
 ·simp only [f9.Gw,f9.Fu]
  simpa using Ev.pure (true,())
theorem pure_MultiChoice:Gy:=by
 rintro ⟨a,m,w,u⟩ hwf
 exact (I3 a m w).get
end Go.Proofs.Ythfjdcdbimjkjaa.Rw
