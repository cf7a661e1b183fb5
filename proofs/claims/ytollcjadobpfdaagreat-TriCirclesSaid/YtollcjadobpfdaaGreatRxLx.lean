/- Reflection, part Lx: arrays that are written or kept for good, maps that are made and written. -/
import Derived.Test.YtollcjadobpfdaaGreatRxL
set_option linter.unusedVariables false
set_option linter.unusedSimpArgs false
set_option linter.unusedSectionVars false
namespace Go.Rx
section
variable {w0:World} {Fz av:Nat->Prop} {Lo:Nat->RL} {R:Nat->RL} {Pr:Nat->Prop} {σ:St} {a:Act} {w:World}
theorem Inv.zN (h:Inv w0 Fz av Lo R Pr σ a w) {κ:Nat} {cs:List C} {e:Ty} {y:e.D} (aj:σ.ob κ=some (.box cs)) (hy:e.of cs=some (y,[])) (aZ:∀b,b <w0.heap.size->Fz b\/av b):
 Inv w0 Fz av Lo R (λ b=>Pr b\/b=(R κ).blk) (σ.aK κ (some (.cG e y))) a w:=by
 obtain ⟨el,vs,h1,h2⟩:=h.ob κ _ aj
 obtain ⟨u1,u2,g1,g2,g3⟩:=c8 hy h2
 have eP:u2=[]:=by
  cases u2 with
  |nil=>rfl
  |cons _ _=>exact g3.elim
 subst eP
 rw [List.append_nil] at g1
 have Ai:∀b,Pr b->(Pr b\/b=(R κ).blk):=λ b hb=>.inl hb
 have hlt:κ <σ.objs.length:=c6 (by rw [aj];simp)
 have bG:∀ah x,(σ.aK κ (some (.cG e y))).ob ah=some x->(ah=κ/\x=.cG e y)\/(ah≠κ/\σ.ob ah=some x):=λ ah x hx=>by
  rw [St.aL] at hx
  by_cases g:κ=ah
  ·rw [if_pos ⟨g,hlt⟩] at hx;cases hx;exact .inl ⟨g.symm,rfl⟩
  ·rw [if_neg (λ z=>g z.1)] at hx;exact .inr ⟨λ z=>g z.symm,hx⟩
 have hne:∀ah,σ.ob ah≠none->(σ.aK κ (some (.cG e y))).ob ah≠none:=λ ah hk=>by
  rw [St.aL];split
  ·simp
  ·exact hk
 have Cn:=h.un κ _ aj trivial
 refine { h with tm:=λ t=>aA.move (λ _ _=>rfl) Ai (λ _ _=>rfl) (h.tm t),ob:=λ ah x hx=> ?_,un:=λ ah x hx aq=> ?_,ds:=λ ah aH x x' hx hx' aq dK hkk=> ?_,wt:=λ t ah hk=>hne ah (h.wt t ah hk),wo:=λ aH x ah hx hk=> ?_,sz:=h.sz,pr:=λ b hb=> ?_,po:=λ b hb hpb=> ?_,fx:=λ ah hk=>h.fx ah (by simpa [St.aK] using hk),lm:=λ ah x b hx hb=> ?_ }
 ·rcases bG ah x hx with ⟨rfl,rfl⟩|⟨hk,hx⟩
  ·refine ⟨.inr rfl,vs,el,(0,0),u1,h1,λ c u hu=> ?_,g2.move (λ _ _=>rfl) Ai⟩
   rw [Nat.zero_add, <-Array.getElem?_toList,g1];exact hu
  ·exact az.move (λ _ _=>rfl) Ai (λ _=>rfl) rfl (λ _ _=>rfl) (h.ob ah x hx)
 ·rcases bG ah x hx with ⟨rfl,rfl⟩|⟨hk,hx⟩
  ·exact aq.elim
  ·obtain ⟨q1,q2⟩:=h.un ah x hx aq
   exact ⟨λ z=>z.elim q1 (λ z=>h.ds ah κ x _ hx aj aq trivial hk z),q2⟩
 ·rcases bG ah x hx with ⟨rfl,rfl⟩|⟨hk,hx⟩
  ·exact aq.elim
  ·rcases bG aH x' hx' with ⟨rfl,rfl⟩|⟨hk',hx'⟩
   ·exact dK.elim
   ·exact h.ds ah aH x x' hx hx' aq dK hkk
 ·rcases bG aH x hx with ⟨rfl,rfl⟩|⟨hk',hx⟩
  ·cases hk
  ·exact hne ah (h.wo aH x ah hx hk)
 ·rcases hb with hb|rfl
  ·exact h.pr b hb
  ·exact az.lt (o:=.box cs) trivial (h.ob κ _ aj)
 ·rcases hpb with hpb|rfl
  ·exact h.po b hb hpb
  ·exact (aZ _ hb).resolve_left Cn.2
 ·rcases bG ah x hx with ⟨rfl,rfl⟩|⟨hk,hx⟩
  ·exact hb.elim
  ·obtain ⟨q1,q2,q3⟩:=h.lm ah x b hx hb
   refine ⟨λ z=>z.elim q1 (λ z=>(q3 κ _ aj).1 trivial z.symm),q2,λ aH x' hx'=> ?_⟩
   rcases bG aH x' hx' with ⟨rfl,rfl⟩|⟨hk',hx'⟩
   ·exact ⟨λ z=>z.elim,λ _ z=>z.elim⟩
   ·exact q3 aH x' hx'
theorem tU {w:World} {R:Nat->RL} {Pr:Nat->Prop} {k:IntKind} {i:Nat} {v:Int}:∀{l:List Int} {us:List Value} {j:Nat},us=l.map (Value.int k)->an (au w R Pr) (qM k i v j l) ((us.zipIdx j).map λ (u,q)=>if i=q then Value.int k v else u)
 | [],us,j,h=>by subst h;trivial
 |a::l,us,j,h=>by
  subst h
  refine ⟨?_,tU rfl⟩
  show (if i=j then Value.int k v else Value.int k a)=Value.int k (if i=j then v else a)
  split<;>rfl
variable {P:Program} {T:bh} (hT:bC P T) {Y:dZ}
include hT
theorem uI (h:Inv w0 Fz av Lo R Pr σ a w) {κ:Nat} {K V:Ty} {l l':List (K.D×V.D)} {it:Option (Nat×List (K.D×V.D)×Option (K.D×V.D))} (aj:σ.ob κ=some (.map K V l it)) {w':World} {es':Array MapEntry} {clock':Nat} {dst:Option Nat} {u:Value}
 (h1:w'.heap[(R κ).blk]?=some (.map es' clock')) (h2:∀q,q≠(R κ).blk->w'.heap[q]?=w.heap[q]?) (hg:Grow w w') (hm:jm w' Pr K V l' es' clock'):
 Inv w0 Fz av Lo R Pr ((σ.aK κ (some (.map K V l' none))).put dst bA) (a.put dst u) w':=by
 have h3:=h.upd κ _ (.map K V l' none) aj (w':=w') (R':=R) (λ _ _=>rfl) (.inl rfl) (λ b hb hne=>h2 b (hne trivial)) hg (λ _=>.inr ⟨trivial,rfl⟩)
  ⟨es',clock',h1,hm.1,hm.2.1,hm.2.2,λ _ _ _ z=>by cases z⟩ (λ af aa=>by cases aa) (λ b hb=>by obtain ⟨_,_,z,_⟩:=hb;cases z)
 exact h3.put dst bA u trivial (λ κ aa=>by cases aa)
theorem vq (aZ:∀b,b <w0.heap.size->Fz b\/av b) (h:Inv w0 Fz av Lo R Pr σ a w) {o:Oper} {e:bK} (he:bZ T Y σ.ρ σ.ob σ.objs.length o.dst o.op=some e) (hh:cz e.conds):
 ∃n u w' R' ak,(execOp a.eval o).run P w=.ok n w'/\(n=.value u\/(n=.skip/\u=undef))/\Inv w0 Fz av Lo R' ak (σ.ef o.dst e) (a.put o.dst u) w':=by
 obtain ⟨dst,op,ty,pos,after,guard⟩:=o
 simp only at he ⊢
 cases op with
 |load t p=>
  simp only [bZ] at he
  split at he
  ·rename_i d κ sz j off hp
   split at he
   ·rename_i y i e1 ll tt mm xs hY hi ho
    split at he
    case h_2=>cases he
    rename_i hc
    cases he
    simp only [Bool.and_eq_true] at hc
    obtain ⟨hd,hsz,hoff⟩:=hc
    have hsz:=Nat.eq_of_beq_eq_true hsz
    have hoff:=Nat.eq_of_beq_eq_true hoff
    subst hsz hoff
    have hpv:=h.cu p
    rw [hp] at hpv
    obtain ⟨hj,o1,n1,c1,q1,q2⟩:=hpv
    obtain ⟨g0,⟨g1,_⟩|⟨o2,cap,cells,el,g1,g2,g3,g4,g5,_⟩⟩:=h.ob κ _ ho
    ·rw [g1] at q1;cases q1
    rw [g1] at q1
    cases q1
    rw [g0] at hj
    have hrow:ll[j]?=some (ll.getD j []):=by rw [List.getD_eq_getElem?_getD,List.getElem?_eq_getElem hj];rfl
    obtain ⟨v1,r1,r2⟩:=g5 j _ hrow (by simp)
    have lQ:au w R Pr (.new e1 (ll.getD j [])) v1:=by
     rcases r2 with ⟨rfl,r2⟩|⟨blk,o3,c3,ce,De,r2,_⟩
     ·exact ⟨none,0,by rw [r2];rfl⟩
     ·exact ⟨_,_,r2⟩
    obtain ⟨yH,hel⟩:∃yH,i.d=.slice yH:=by revert hd;cases i.d<;>simp [pL]
    obtain ⟨u,k1,k2,_⟩:=jf (P:=P) (R:=R) (Pr:=Pr) (o:=o1+cw off j) (off:=0) (us:=[v1]) (cs:=[.new e1 (ll.getD j [])]) (x:=.one (.new e1 (ll.getD j []))) hT hi g3 (λ c u hu=>by
     cases c with
     |zero=>simp only [List.getElem?_cons_zero] at hu;cases hu;exact r1
     |succ c=>simp at hu) ⟨lQ,trivial⟩ (by unfold gE;rw [hel];rfl)
    have hu:a.eval p=.pointer (some ⟨(R κ).blk,o1+cw off j+0,none⟩):=by rw [q2];simp [cw,Nat.add_assoc]
    rw [<-hu] at k1
    refine ⟨.value u,u,w,R,Pr,by simp [execOp,k1],.inl rfl, ?_⟩
    exact h.put (some d) _ u k2 (λ ah bq=>by cases bq)
   ·cases he
  ·cases he
 |store t p x=>
  simp only [bZ] at he
  split at he
  ·rename_i κ off n sz i k v e1 e2
   split at he
   ·rename_i ti cs Ao aj
    split at he
    ·rename_i l hc hl
     cases he
     simp only [Bool.and_eq_true] at hc
     obtain ⟨⟨c1,c2⟩,c3⟩:=hc
     have c1:=Nat.eq_of_beq_eq_true c1
     have c2:=Nat.eq_of_beq_eq_true c2
     have c3:=Nat.le_of_ble_eq_true c3
     subst c2
     have hp:=h.cu p
     have hx:=h.cu x
     rw [e1] at hp
     rw [e2] at hx
     obtain ⟨hi,b,o,hb,hp⟩:=hp
     have hb:Value.pointer (some ⟨b,o,none⟩)=.pointer (some ⟨(R κ).blk,off,none⟩):=hb
     cases hb
     have hx:a.eval x=.int k v:=hx
     obtain ⟨el,vs,h1,h2⟩:=h.ob κ _ aj
     have hlen:=h2.length
     simp only [Array.length_toList] at hlen
     obtain ⟨k1,k2⟩:=gZ hT Ao h1 (o:=off+i * 1) (xs:=[.int k v]) (x:=.one (.int k v)) rfl (w:=w) (R:=R) (Pr:=Pr) (v:=.int k v) rfl (by simp [c1]) (by omega) (by simp)
     refine ⟨.skip,undef,w.setRow (R κ).blk (vs.toList.take (off+i * 1)++[Value.int k v]++vs.toList.drop (off+i * 1+[Value.int k v].length)).toArray,R,Pr, ?_,.inr ⟨rfl,rfl⟩, ?_⟩
     ·have:(execOp a.eval ⟨dst,.store t p x,ty,pos,after,guard⟩)=(do Instr.storeAt t (a.eval p) (a.eval x);pure .skip):=rfl
      rw [this,hp,hx,Sem.run_bind,k1];rfl
     ·have bw:∀b,b≠(R κ).blk->(w.setRow (R κ).blk (vs.toList.take (off+i * 1)++[Value.int k v]++vs.toList.drop (off+i * 1+[Value.int k v].length)).toArray).heap[b]?=w.heap[b]?:=λ b hb=>setRow_other w _ b _ hb
      have eE:∀b,Pr b->b≠(R κ).blk:=λ b hb e=>(h.un κ _ aj trivial).1 (e▸hb)
      have h3:=h.upd κ _ (.box (cs.take off++qM k i v 0 l++cs.drop (off+n))) aj (w':=w.setRow (R κ).blk (vs.toList.take (off+i * 1)++[Value.int k v]++vs.toList.drop (off+i * 1+[Value.int k v].length)).toArray) (R':=R) (λ _ _=>rfl) (.inl rfl)
       (λ b hb hne=>bw b (hne trivial)) ⟨by simp,rfl,rfl,rfl,(by first|exact Nat.le_refl _|exact Nat.le_succ _|exact Nat.le_add_right _ _)⟩ (λ _=>.inr ⟨trivial,rfl⟩) ⟨el,_,dL w _ h1, ?_⟩ ?_
      ·exact h3.put dst bA undef trivial (λ κ aa=>by cases aa)
      ·have Am:(vs.toList.drop off).take n=l.map (Value.int k):=by
        have h4:=(h2.drop off).take n
        have key:∀{ds:List C} {l:List Int} {us:List Value},eA k ds=some l->an (au w R Pr) ds us->us=l.map (Value.int k):=by
         intro ds
         induction ds with
         |nil=>
          intro l us q1 q2
          simp only [eA] at q1;cases q1
          cases us with
          |nil=>rfl
          |cons _ _=>exact q2.elim
         |cons c ds ih=>
          intro l us q1 q2
          cases c with
          |int k' z=>
           simp only [eA] at q1
           split at q1
           ·rename_i ek
            obtain ⟨m,hm,rfl⟩:=Option.map_eq_some_iff.1 q1
            cases us with
            |nil=>exact q2.elim
            |cons u us=>
             rw [List.map_cons, <-ih hm q2.2, <-ek,show u=_ from q2.1]
           ·cases q1
          |_=>simp [eA] at q1
        exact key hl h4
       have C5:l.length=n:=by
        have:=congrArg List.length Am
        simp at this;omega
       have hall:an (au w R Pr) (cs.take off++qM k i v 0 l++cs.drop (off+n)) (vs.toList.take off++(((vs.toList.drop off).take n).zipIdx 0).map (λ (u,q)=>if i=q then Value.int k v else u)++vs.toList.drop (off+n)):=
        an.append (an.append (h2.take off) (tU Am)) (h2.drop (off+n))
       have heq:(vs.toList.take off++(((vs.toList.drop off).take n).zipIdx 0).map (λ (u,q)=>if i=q then Value.int k v else u)++vs.toList.drop (off+n))=(vs.toList.take (off+i * 1)++[Value.int k v]++vs.toList.drop (off+i * 1+[Value.int k v].length)):=by
        apply List.ext_getElem?
        intro q
        simp only [List.length_singleton,Nat.mul_one]
        by_cases q1:q <off
        ·rw [List.append_assoc,List.getElem?_append_left (by simp;omega),List.append_assoc,List.getElem?_append_left (by simp;omega),List.getElem?_take,List.getElem?_take,if_pos q1,if_pos (by omega)]
        ·have hlo:(vs.toList.take off).length=off:=by simp;omega
         have Ac:((((vs.toList.drop off).take n).zipIdx 0).map (λ (u,q)=>if i=q then Value.int k v else u)).length=n:=by simp;omega
         by_cases q2:q <off+n
         ·rw [List.append_assoc,List.getElem?_append_right (by rw [hlo];omega),List.getElem?_append_left (by rw [Ac,hlo];omega),List.getElem?_map,List.getElem?_zipIdx,List.getElem?_take,hlo,if_pos (by omega),List.getElem?_drop]
          have hv:vs.toList[off+(q - off)]?=some (vs.toList[q]'(by simp;omega)):=by rw [show off+(q - off)=q by omega];exact List.getElem?_eq_getElem _
          rw [hv]
          simp only [Option.map_some,Nat.zero_add]
          by_cases q3:i=q - off
          ·rw [if_pos q3,List.append_assoc,List.getElem?_append_right (by simp;omega),List.getElem?_append_left (by simp;omega)]
           have:q - (vs.toList.take (off+i)).length=0:=by simp;omega
           rw [this];rfl
          ·rw [if_neg q3]
           by_cases q4:q <off+i
           ·rw [List.append_assoc,List.getElem?_append_left (by simp;omega),List.getElem?_take,if_pos q4]
            exact (List.getElem?_eq_getElem _).symm
           ·rw [List.getElem?_append_right (by simp;omega),List.getElem?_drop]
            have:off+i+1+(q - (vs.toList.take (off+i)++[Value.int k v]).length)=q:=by simp;omega
            rw [this]
            exact (List.getElem?_eq_getElem _).symm
         ·have hlr:(vs.toList.take (off+i)++[Value.int k v]).length=off+i+1:=by
           rw [List.length_append,List.length_take,Array.length_toList,List.length_singleton];omega
          rw [List.getElem?_append_right (by rw [List.length_append,hlo,Ac];omega),List.getElem?_append_right (by rw [hlr];omega),List.getElem?_drop,List.getElem?_drop,List.length_append,hlo,Ac,hlr]
          congr 1
          omega
       rw [heq] at hall
       exact hall.mono λ c _ u hu=>au.move (λ b hb=>bw b (eE b hb)) (λ _ h=>h) (λ _ _=>rfl) hu
      ·intro af aD
       obtain ⟨c,hc,hk⟩:=List.mem_flatMap.1 aD
       have hno:∀(l:List Int) (j:Nat),∀c∈qM k i v j l,c.refs=[]:=by
        intro l
        induction l with
        |nil=>intro j c hc;cases hc
        |cons z l ih=>
         intro j c hc
         rcases List.mem_cons.1 hc with rfl|hc
         ·rfl
         ·exact ih _ c hc
       rcases List.mem_append.1 hc with hc|hc
       ·rcases List.mem_append.1 hc with hc|hc
        ·exact h.wo κ _ af aj (List.mem_flatMap.2 ⟨c,List.mem_of_mem_take hc,hk⟩)
        ·rw [hno l 0 c hc] at hk;cases hk
       ·exact h.wo κ _ af aj (List.mem_flatMap.2 ⟨c,List.mem_of_mem_drop hc,hk⟩)
    ·cases he
   ·cases he
  ·cases he
 |slice t x lo hi mx=>
  cases lo with
  |some _=>cases hi<;>cases mx<;>simp only [bZ] at he<;>cases he
  |none=>
   cases hi with
   |some _=>cases mx<;>simp only [bZ] at he<;>cases he
   |none=>
    cases mx with
    |some _=>simp only [bZ] at he;cases he
    |none=>
     simp only [bZ] at he
     split at he
     ·rename_i κ e1
      split at he
      ·rename_i cs ey aj hY
       split at he
       ·rename_i y hy
        obtain ⟨c,hc,rfl⟩:=Option.map_eq_some_iff.1 he
        have hx:=h.cu x
        rw [e1] at hx
        have hx:a.eval x=.pointer (some ⟨(R κ).blk,0,none⟩):=hx
        have h2:=h.zN aj hy aZ
        have hlt:κ <σ.objs.length:=c6 (by rw [aj];simp)
        obtain ⟨k2,cells,el,fr,us,k3,k4,k5⟩:=h2.ob κ (.cG ey y) (by rw [St.aL,if_pos ⟨rfl,hlt⟩])
        obtain ⟨u,m1,m2,m3⟩:=kN hT hc k2 k3 k4 (bu (R:=R) k5)
        refine ⟨_,u,w,R,_, ?_,.inl rfl,h2.put dst (aQ c) u m2 (λ κ aa=>by
         have aa:κ∈c.refs:=aa
         rw [m3] at aa;cases aa)⟩
        have:(execOp a.eval ⟨dst,.slice t x none none none,ty,pos,after,guard⟩)=(do pure (.value (<-Instr.sliceAt t (a.eval x) none none none))):=rfl
        rw [this,hx,Sem.run_bind,show Instr.sliceAt t (Value.pointer (some ⟨(R κ).blk,0,none⟩)) none none none=Instr.sliceAt t (Value.pointer (some ⟨(R κ).blk,0+0,none⟩)) none none none from rfl,m1]
        rfl
       ·cases he
      ·cases he
     ·cases he
 |makeMap t r=>
  cases r with
  |some _=>simp only [bZ] at he;cases he
  |none=>
   simp only [bZ] at he
   split at he
   ·rename_i d K V hs hY
    split at he
    ·rename_i y hy
     obtain ⟨k,v,hu,hk,_⟩:=iy hT hy
     obtain ⟨hok,hd,rfl⟩:=b9 he
     obtain ⟨R',g⟩:=h.nE (d:=d) (o:=.map K V [] none) (loc:=⟨w.heap.size,none,0,0⟩) (w':=w.alloc (.map #[] 0)) hd hok (λ b hb=>bH w _ b hb) ⟨by simp,rfl,rfl,rfl,(by first|exact Nat.le_refl _|exact Nat.le_succ _|exact Nat.le_add_right _ _)⟩ (λ _=>rfl)
      (λ R' hR _=> ⟨#[], 0,by rw [hR];exact cO w _,⟨by simp,λ e he=>by simp at he⟩,rfl,λ i kv en h1=>by simp at h1,λ _ _ _ z=>by cases z⟩) (λ κ aa=>by cases aa) (some d) (.mp d) (.map (some w.heap.size)) (λ R' hR=>by show _=_;rw [hR]) rfl (λ R' b hR hb=>by obtain ⟨_,_,z,_⟩:=hb;cases z)
     refine ⟨_,.map (some w.heap.size),w.alloc (.map #[] 0),R',Pr, ?_,.inl rfl,g⟩
     simp [execOp,Instr.makeMap]
    ·cases he
   ·cases he
 |mapUpdate t m k x=>
  simp only [bZ] at he
  split at he
  ·rename_i κ e1
   split at he
   ·rename_i K V l it aj
    split at he
    ·rename_i y kk xx hy hk hx
     cases he
     have hm:=h.cu m
     rw [e1] at hm
     have hm:a.eval m=.map (some (R κ).blk):=hm
     obtain ⟨es,clock,g1,g2,g3,g4,_⟩:=h.ob κ _ aj
     obtain ⟨es',clock',w',r1,r2,r3,r4,r5,r6⟩:=qJ hT hy (h.un κ _ aj trivial).1 g1 ⟨g2,g3,g4⟩ kk (jK hk (h.cu k)) xx (jK hx (h.cu x))
     refine ⟨_,undef,w',R,Pr, ?_,.inr ⟨rfl,rfl⟩,uI hT h aj r2 r3 r5 r6⟩
     have:(execOp a.eval ⟨dst,.mapUpdate t m k x,ty,pos,after,guard⟩)=(do Instr.mapUpdate t (a.eval m) (a.eval k) (a.eval x);pure .skip):=rfl
     rw [this,hm,Sem.run_bind,r1];rfl
    ·cases he
   ·cases he
  ·cases he
 |call c=>
  obtain ⟨callee,args,argTypes⟩:=c
  cases callee with
  |builtin b=>
   cases b with
   |delete=>
    simp only [bZ] at he
    split at he
    ·rename_i m k t t' e0 zJ
     split at he
     ·rename_i κ e1
      split at he
      ·rename_i K V l it aj
       split at he
       ·rename_i y kk hy hk
        cases he
        obtain rfl:args= #[m, k]:=by apply Array.ext';simpa using e0
        obtain rfl:argTypes= #[t, t']:=by apply Array.ext';simpa using zJ
        have hm:=h.cu m
        rw [e1] at hm
        have hm:a.eval m=.map (some (R κ).blk):=hm
        obtain ⟨es,clock,g1,g2,g3,g4,_⟩:=h.ob κ _ aj
        obtain ⟨es',clock',w',r1,r2,r3,r4,r5,r6⟩:=qG hT (t':=t') (ty:=ty) hy (h.un κ _ aj trivial).1 g1 ⟨g2,g3,g4⟩ kk (jK hk (h.cu k))
        exact ⟨_,.tuple #[], w',R,Pr,by simp [execOp,resolve,invoke,builtin,hm,r1],.inl rfl,uI hT h aj r2 r3 r5 r6⟩
       ·cases he
      ·cases he
     ·cases he
    ·cases he
   |_=>simp only [bZ] at he;cases he
  |_=>simp only [bZ] at he;cases he
 |_=>simp only [bZ] at he;cases he
theorem wF (h:Inv w0 Fz av Lo R Pr σ a w) {e0:Ty} {o:Oper} {e:bK} (he:qU T σ.ρ e0 o.op=some e):
 ∃n u w' R' ak,(execOp a.eval o).run P w=.ok n w'/\(n=.value u\/(n=.skip/\u=undef))/\Inv w0 Fz av Lo R' ak (σ.ef o.dst e) (a.put o.dst u) w':=by
 obtain ⟨dst,op,ty,pos,after,guard⟩:=o
 simp only at he ⊢
 cases op with
 |buildSlice t n parts=>
  simp only [qU] at he
  split at he
  ·rename_i it hit
   split at he
   ·rename_i el hd
    split at he
    ·rename_i i hi
     split at he
     ·rename_i b z hz
      split at he
      ·rename_i aY
       obtain ⟨hzl,hsz,hbig⟩:=aY
       split at he
       ·rename_i cs hcs
        split at he
        ·rename_i l hl
         have hu:=bY hT hit hd
         obtain ⟨ti,zv,g1,g2,g3,g4,g5,g6⟩:=fc hT hi hz w R Pr
         have hzs:zv.cells.size=i.size:=by have:=g5.length;simp only [Array.length_toList] at this;omega
         have hp:an (λ p v=>p.1=v.1/\aA w R Pr p.2 v.2) (parts.toList.map λ p=>(p.1,σ.ρ p.2)) (parts.map λ (i,x)=>(i,a.eval x)).toList:=by
          rw [Array.toList_map]
          exact dG _ λ p _=>⟨rfl,h.cu p.2⟩
         have ir:an (au w R Pr) (eB n z) (((Array.range (n * i.size)).map (zv.cells[· % zv.cells.size]!))).toList:=by
          rw [<-hzs,iU]
          exact oG g5 n
         obtain ⟨us,k1,k2,k3⟩:=jv (w:=w) (R:=R) (Pr:=Pr) _ _ _ cs _ hcs ir hp
         obtain ⟨l1,l2⟩:=qC hl k2
         have Ar:us.size=n * i.size:=by rw [l9 _ _ _ k1];simp
         cases he
         have hold:∀b,b <w.heap.size->(w.alloc (.cells us el)).heap[b]?=w.heap[b]?:=λ b hb=>bH w _ b hb
         have h2:=h.world (w':=w.alloc (.cells us el)) (ak:=λ b=>Pr b\/b=w.heap.size) hold ⟨by simp,rfl,rfl,rfl,Nat.le_refl _⟩ (λ b hb=>.inl hb) (λ b hb hlt=>hb.elim id (λ z=>by omega)) (λ b hb=>by
          rcases hb with hb|rfl
          ·have:=h.pr b hb;simp;omega
          ·simp)
         have kY:ay (w.alloc (.cells us el)) (λ b=>Pr b\/b=w.heap.size) (.sl false e0) l [.slice (some ⟨w.heap.size,0,none⟩) n n]:=by
          refine ⟨some ⟨w.heap.size,0,none⟩,n,by show [_]=[Value.slice _ (List.length l) n];rw [l2],by show List.length l<=n;omega,(λ z=>by cases z),λ _=>⟨w.heap.size,0,us,el,(0,0),rfl,.inr rfl,cO w _, ?_⟩⟩
          have hr':=l1.move (w':=w.alloc (.cells us el)) (ak:=λ b=>Pr b\/b=w.heap.size) (λ b hb=>hold b (h.pr b hb)) (λ _ h=>.inl h)
          exact hr'.idx (λ c u hu=>by simpa using hu)
         refine ⟨_,_,_,R,_, ?_,.inl rfl,h2.put dst _ _ kY (λ κ aa=>by cases aa)⟩
         have vu: ¬16777216 <n * i.size:=by omega
         have xe:(zeroValue el).run P w=.ok zv w:=by simp [zeroValue,typeInfo,g1,g2]
         have mu:n * i.size=0->((Array.range (n * i.size)).map (λ x=> (#[] :Array Value)[x % (#[] :Array Value).size]!))=((Array.range (n * i.size)).map (zv.cells[· % zv.cells.size]!)):=λ h0=>by
          rw [h0];apply Array.ext';simp
         have hsize:=bQ hT hi w
         have hrun:(Instr.buildSlice t n (parts.map λ (i,x)=>(i,a.eval x))).run P w=.ok (.slice (some ⟨w.heap.size,0,none⟩) n n) (w.alloc (.cells us el)):=by
          unfold Instr.buildSlice
          simp only [Sem.run_bind,run_underlying hu,Result.andThen_ok,hsize]
          rw [if_neg (by simpa using vu)]
          by_cases hz0:n * i.size=0
          ·rw [if_pos hz0]
           simp only [Sem.run_bind,Sem.run_pure,Result.andThen_ok,mu hz0,k1]
           simp [newRow]
          ·rw [if_neg hz0]
           simp only [Sem.run_bind,Sem.run_pure,Result.andThen_ok,xe,k1]
           simp [newRow]
         simp [execOp,hrun]
        ·cases he
       ·cases he
      ·cases he
     ·cases he
    ·cases he
   ·cases he
  ·cases he
 |_=>simp only [qU] at he;cases he
theorem wO (aZ:∀b,b <w0.heap.size->Fz b\/av b) (h:Inv w0 Fz av Lo R Pr σ a w) {o:Oper} {e:bK} (he:jt T Y σ.ρ σ.ob σ.objs.length o.dst o.op=some e) (hh:cz e.conds):
 ∃n u w' R' ak,(execOp a.eval o).run P w=.ok n w'/\(n=.value u\/(n=.skip/\u=undef))/\Inv w0 Fz av Lo R' ak (σ.ef o.dst e) (a.put o.dst u) w':=by
 have lift:(∃n u w' R',(execOp a.eval o).run P w=.ok n w'/\(n=.value u\/(n=.skip/\u=undef))/\Inv w0 Fz av Lo R' Pr (σ.ef o.dst e) (a.put o.dst u) w')->∃n u w' R' ak,(execOp a.eval o).run P w=.ok n w'/\(n=.value u\/(n=.skip/\u=undef))/\Inv w0 Fz av Lo R' ak (σ.ef o.dst e) (a.put o.dst u) w':=
  λ ⟨n,u,w',R',k⟩=>⟨n,u,w',R',Pr,k⟩
 unfold jt at he
 split at he
 ·exact wF hT h he
 unfold l8 at he
 split at he
 ·rename_i e' he'
  cases he
  exact lift (vo hT h he' hh)
 ·split at he
  ·rename_i e' he'
   cases he
   exact lift (wJ hT h he' hh)
  ·split at he
   ·rename_i e' he'
    cases he
    exact lift (wL hT h he' hh)
   ·split at he
    ·rename_i e' he'
     cases he
     exact lift (wD hT h he')
    ·exact vq hT aZ h he hh
end
end Go.Rx
