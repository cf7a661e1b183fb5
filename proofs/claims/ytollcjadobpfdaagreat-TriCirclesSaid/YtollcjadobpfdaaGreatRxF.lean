/- Reflection, part F: composite values, lengths, minima and maxima. -/
import Derived.Test.YtollcjadobpfdaaGreatRxE
import Derived.Laws.Tables
set_option linter.unusedVariables false
set_option linter.unusedSimpArgs false
set_option linter.unusedSectionVars false
namespace Go.Rx
theorem ay.flat {w:World} {Pr:Nat->Prop}:∀{e:Ty} {x:e.D} {us:List Value},ay w Pr e x us->∀u∈us,(∀y,u≠ .agg y)/\∀y,u≠ .tuple y
 | .int _,_,_,h,u,hu=>by rw [show _=_ from h] at hu;rw [List.mem_singleton] at hu;subst hu;simp
 | .bool,_,_,h,u,hu=>by rw [show _=_ from h] at hu;rw [List.mem_singleton] at hu;subst hu;simp
 | .str,_,_,h,u,hu=>by rw [show _=_ from h] at hu;rw [List.mem_singleton] at hu;subst hu;simp
 | .fn _,_,_,h,u,hu=>by rw [show _=_ from h] at hu;rw [List.mem_singleton] at hu;subst hu;simp
 | .pair a b,x,us,h,u,hu=>by
   obtain ⟨u1,u2,rfl,h1,h2⟩:=h
   rcases List.mem_append.1 hu with hu|hu
   ·exact ay.flat h1 u hu
   ·exact ay.flat h2 u hu
 | .sl _ _,_,_,h,u,hu=>by obtain ⟨A,cap,rfl,_⟩:=h;rw [List.mem_singleton] at hu;subst hu;simp
 | .ptr _,_,_,h,u,hu=>by obtain ⟨v,rfl,blk,o,cells,el,fr,cs,rfl,_⟩:=h;rw [List.mem_singleton] at hu;subst hu;simp
 | .cL _ _,_,_,h,u,hu=>by obtain ⟨v,ps,rfl,rfl,_⟩:=h;rw [List.mem_singleton] at hu;subst hu;simp
 | .map _ _,_,_,h,u,hu=>by obtain ⟨v,blk,es,clock,rfl,rfl,_⟩:=h;rw [List.mem_singleton] at hu;subst hu;simp
theorem au.one {w:World} {R:Nat->RL} {Pr:Nat->Prop} {c:C} {v:Value} (h:au w R Pr c v) (hc:c≠ .any):(∀x,v≠ .agg x)/\∀x,v≠ .tuple x:=by
 have key:∀{k:Value},v=k->(∀x,k≠ .agg x)->(∀x,k≠ .tuple x)->(∀x,v≠ .agg x)/\∀x,v≠ .tuple x:=λ e h1 h2=>by subst e;exact ⟨h1,h2⟩
 cases c with
 |any=>exact (hc rfl).elim
 |own κ=>exact key h (by simp [RL.aF]) (by simp [RL.aF])
 |val b e x=>obtain ⟨A,cap,h1,_⟩:=h;exact key (by simpa using h1) (by simp) (by simp)
 |dO κ sz i off=>obtain ⟨_,o,n,c,_,h1⟩:=h;exact key h1 (by simp) (by simp)
 |fG e x off=>obtain ⟨blk,o,cells,el,fr,us,h1,_⟩:=h;exact key h1 (by simp) (by simp)
 |part κ sz lo n=>obtain ⟨_,A,c,h1,_⟩:=h;exact key h1 (by simp) (by simp)
 |mp κ=>exact key h (by simp) (by simp)
 |dat e x=>exact ay.flat h v (List.mem_singleton.2 rfl)
 |jo c n sz i=>obtain ⟨_,b,o,_,h1⟩:=h;exact key h1 (by simp) (by simp)
 |new e l=>obtain ⟨A,c,h1⟩:=h;exact key h1 (by simp) (by simp)
 |lit b=>exact key h (by simp) (by simp)
 |int k n=>exact key h (by simp) (by simp)
 |prop p d=>exact key h (by simp) (by simp)
 |str s=>exact key h (by simp) (by simp)
 |ptr κ off=>exact key h (by simp) (by simp)
 |nil=>exact key h (by simp) (by simp)
 |fn f cap=>exact key h (by simp) (by simp)
theorem dI {w:World} {R:Nat->RL} {Pr:Nat->Prop} {x:Cp} {v:Value} {cs:List C} (h:bf w R Pr x v) (hc:bV x=some cs):an (au w R Pr) cs v.cells.toList/\∀u∈v.cells.toList,True:=by
 unfold bV at hc
 split at hc
 ·cases hc
 ·rename_i c hne
  cases hc
  have:=(au.one h (λ e=>hne (by rw [e])))
  have hv:v.cells= #[v] :=by
   cases v<;>first|rfl|exact absurd rfl (this.1 _)
  rw [hv]
  exact ⟨⟨h,trivial⟩,λ _ _=>trivial⟩
 ·cases hc
  obtain ⟨vs,rfl,h2⟩:=h
  exact ⟨h2,λ _ _=>trivial⟩
theorem o9:∀(us:List Value) (k off:Nat) (cells:Array Value),off+k+us.length<=cells.size->
 ((us.zipIdx k).foldl (λ cs (c,j)=>cs.setIfInBounds (off+j) c) cells).toList=cells.toList.take (off+k)++us++cells.toList.drop (off+k+us.length)
 | [],k,off,cells,_=>by simp
 |u::us,k,off,cells,h=>by
  simp only [List.length_cons] at h
  have ih:=o9 us (k+1) off (cells.setIfInBounds (off+k) u) (by simp;omega)
  simp only [List.zipIdx_cons,List.foldl_cons]
  rw [ih]
  simp only [Array.toList_setIfInBounds]
  have hl:off+k <cells.toList.length:=by simp;omega
  apply List.ext_getElem?
  intro i
  simp only [List.getElem?_append,List.getElem?_take,List.getElem?_drop,List.length_take,List.length_append,List.length_set,List.length_cons,Array.length_toList,List.getElem?_set]
  simp only [Array.length_toList] at hl
  rcases Nat.lt_trichotomy i (off+k) with hi|hi|hi
  ·have e1:i <min (off+(k+1)) cells.size:=by omega
   have e2:i <min (off+k) cells.size:=by omega
   have e3:i <min (off+(k+1)) cells.size+us.length:=by omega
   have e4:i <min (off+k) cells.size+(us.length+1):=by omega
   have e5:i <off+(k+1):=by omega
   have e6: ¬off+k=i:=by omega
   simp [e1,e2,e3,e4,e5,e6,hi]
  ·subst hi
   have e1:off+k <min (off+(k+1)) cells.size:=by omega
   have e2: ¬off+k <min (off+k) cells.size:=by omega
   have e3:off+k <min (off+(k+1)) cells.size+us.length:=by omega
   have e4:off+k <min (off+k) cells.size+(us.length+1):=by omega
   have e5:off+k <off+(k+1):=by omega
   have e6:off+k - min (off+k) cells.size=0:=by omega
   simp [e1,e2,e3,e4,e5,e6,hl]
  ·have e1: ¬i <min (off+(k+1)) cells.size:=by omega
   have e2: ¬i <min (off+k) cells.size:=by omega
   by_cases e3:i <min (off+(k+1)) cells.size+us.length
   ·have e4:i <min (off+k) cells.size+(us.length+1):=by omega
    obtain ⟨j,hj⟩:∃j,i - min (off+k) cells.size=j+1:=⟨i - min (off+k) cells.size - 1,by omega⟩
    have e5:i - min (off+(k+1)) cells.size=j:=by omega
    simp [e1,e2,e3,e4,e5,hj]
   ·have e4: ¬i <min (off+k) cells.size+(us.length+1):=by omega
    have e5:off+(k+1)+us.length+(i - (min (off+(k+1)) cells.size+us.length))=off+k+(us.length+1)+(i - (min (off+k) cells.size+(us.length+1))):=by omega
    have e6: ¬off+k=off+k+(us.length+1)+(i - (min (off+k) cells.size+(us.length+1))):=by omega
    simp only [e1,e2,e3,e4,e5,e6,if_false]
section
variable {P:Program} {T:bh} (hT:bC P T) {w:World} {R:Nat->RL} {Pr:Nat->Prop}
theorem jv {place:Nat->Option (Nat×Nat)}:∀(parts:List (Nat×AV)) (vals:List (Nat×Value)) (cells cs:List C) (vs:Array Value),iO place cells parts=some cs->an (au w R Pr) cells vs.toList->
 an (λ p v=>p.1=v.1/\aA w R Pr p.2 v.2) parts vals->∃us,Instr.fill place vs vals=some us/\an (au w R Pr) cs us.toList/\∀c∈cs,∀κ∈c.refs,(∃c∈cells,κ∈c.refs)\/∃p∈parts,κ∈p.2.refs
 | [],[],cells,cs,vs,h,hr,_=>by
   simp only [iO] at h
   cases h
   exact ⟨vs,rfl,hr,λ c hc κ aa=>.inl ⟨c,hc,aa⟩⟩
 | (i,.cp x)::parts,(j,v)::vals,cells,cs,vs,h,hr,hp=>by
   obtain ⟨⟨rfl,hx⟩,hp⟩:=hp
   simp only at hx
   simp only [iO] at h
   split at h
   ·rename_i off size xs h1 h2
    split at h
    ·rename_i hc
     obtain ⟨hc1,uB⟩:=hc
     have hxs:=(dI hx h2).1
     have hl:=hxs.length
     have gh:=hr.length
     have hf:=o9 v.cells.toList 0 off vs (by simp only [Array.length_toList] at hl gh ⊢; omega)
     have hr':an (au w R Pr) (cells.take off++xs++cells.drop (off+size)) (v.cells.zipIdx.foldl (λ cs (c,j)=>cs.setIfInBounds (off+j) c) vs).toList:=by
      have e:v.cells.zipIdx.foldl (λ cs (c,j)=>cs.setIfInBounds (off+j) c) vs=(v.cells.toList.zipIdx 0).foldl (λ cs (c,j)=>cs.setIfInBounds (off+j) c) vs:=by
       rw [<-Array.foldl_toList,Array.toList_zipIdx]
      rw [e,hf]
      refine an.append (an.append (by simpa using hr.take off) hxs) ?_
      rw [<-hl,hc1]
      simpa using hr.drop (off+size)
     obtain ⟨us,k1,k2,k3⟩:=jv parts vals _ cs _ h hr' hp
     refine ⟨us, ?_,k2,λ c hc κ aa=> ?_⟩
     ·simp only [Array.length_toList] at hl gh
      simp only [Instr.fill,h1]
      rw [if_neg]
      ·exact k1
      ·simp only [Bool.or_eq_true,decide_eq_true_eq]
       omega
     ·rcases k3 c hc κ aa with ⟨c',g1,g2⟩|⟨p,g1,g2⟩
      ·rcases List.mem_append.1 g1 with g1|g1
       ·rcases List.mem_append.1 g1 with g1|g1
        ·exact .inl ⟨c',List.mem_of_mem_take g1,g2⟩
        ·refine .inr ⟨(i,.cp x),by simp, ?_⟩
         cases x with
         |one c1=>
          unfold bV at h2
          split at h2
          ·cases h2
          ·rename_i c2 _ e;cases e;cases h2;simp at g1;subst g1;exact g2
          ·rename_i e;cases e
         |agg l=>simp only [bV] at h2;cases h2;exact List.mem_flatMap.2 ⟨c',g1,g2⟩
       ·exact .inl ⟨c',List.mem_of_mem_drop g1,g2⟩
      ·exact .inr ⟨p,by simp [g1],g2⟩
    ·cases h
   ·cases h
 | (i,.bO _)::parts,_,cells,cs,vs,h,hr,hp=>by simp only [iO] at h;cases h
 | [],_::_,_,_,_,_,_,hp=>hp.elim
 | (_,.cp _)::_,[],_,_,_,_,_,hp=>hp.elim
include hT
theorem xC {t:TypeId} {gs:Array Field} (hi:∃i,T.get t=some i/\i.d=.struct (gs.toList.map λ f=>(f.offset,f.type))) {places:List (Nat×Nat)} (hp:gs.toList.mapM (λ f=>(P.info? f.type).map λ i=>(f.offset,i.size))=some places)
 (hall:∀f∈gs.toList,(T.get f.type).isSome=true):∀n,tG T t n=places.toArray[n]?:=λ n=>by
 obtain ⟨i,h1,h2⟩:=hi
 have key:∀(l:List Field) (ps:List (Nat×Nat)),l.mapM (λ f=>(P.info? f.type).map λ i=>(f.offset,i.size))=some ps->(∀f∈l,(T.get f.type).isSome=true)->∀n:Nat,
  (match (l.map λ f=>(f.offset,f.type))[n]? with|some (o,ft)=>(match T.get ft with|some i=>some (o,i.size)|none=>none)|none=>none)=ps[n]?:=λ l=>by
  induction l with
  |nil=>intro ps h _ n;simp at h;subst h;simp
  |cons f l ih=>
   intro ps h ha n
   simp only [List.mapM_cons,Option.bind_eq_bind,Option.pure_def] at h
   obtain ⟨fi,kA⟩:=Option.isSome_iff_exists.1 (ha f (by simp))
   obtain ⟨ti,g1,g2,_⟩:=dM hT kA
   cases hr:l.mapM (λ f=>(P.info? f.type).map λ i=>(f.offset,i.size)) with
   |none=>simp [g1,hr] at h
   |some rest=>
    simp [g1,hr] at h
    subst h
    cases n with
    |zero=>simp [kA,g2]
    |succ n=>simpa using ih rest hr (λ f hf=>ha f (by simp [hf])) n
 have:=key gs.toList places hp hall n
 simp only [tG,kg,h1,h2]
 rw [List.getElem?_toArray]
 refine Eq.trans ?_ this
 rfl
theorem n5:∀(l:List Field),(∀f∈l,(T.get f.type).isSome=true)->∃ps,l.mapM (λ f=>(P.info? f.type).map λ i=>(f.offset,i.size))=some ps
 | [],_=>⟨[],rfl⟩
 |f::l,h=>by
  obtain ⟨fi,kA⟩:=Option.isSome_iff_exists.1 (h f (by simp))
  obtain ⟨ti,g1,_⟩:=dM hT kA
  obtain ⟨ps,hps⟩:=n5 l (λ f hf=>h f (by simp [hf]))
  exact ⟨(f.offset,ti.size)::ps,by simp [g1,hps]⟩
theorem gG {v:Value} {b:Bool} {z:List C} (h:zeroOf v=some (b,z)):an (au w R Pr) z v.cells.toList/\(∀c∈z,c.refs=[])/\(b=true->∃vs,v=.agg vs):=by
 unfold zeroOf at h
 split at h
 ·rename_i cs
  cases h
  refine ⟨?_,λ c hc=> ?_,λ _=>⟨_,rfl⟩⟩
  ·show an _ (List.map nP cs.toList) cs.toList
   generalize cs.toList=l
   induction l with
   |nil=>trivial
   |cons a l ih=>exact ⟨kD _ _ _ _,ih⟩
  ·obtain ⟨x,_,rfl⟩:=List.mem_map.1 hc;exact lB x
 ·cases h
 ·rename_i h1 h2
  cases h
  have hv:v.cells= #[v] :=by
   cases v<;>first|rfl|exact absurd rfl (h1 _)
  rw [hv]
  exact ⟨⟨kD _ _ _ _,trivial⟩,λ c hc=>by simp at hc;subst hc;exact lB v,λ h=>by cases h⟩
theorem rP {t:TypeId} {parts:List (Nat×AV)} {vals:Array (Nat×Value)} {out:Out} (h:ql T t parts=some out) (hp:an (λ p v=>p.1=v.1/\aA w R Pr p.2 v.2) parts vals.toList):
 ∃r,(Instr.build t vals).run P w=.ok r w/\aA w R Pr out.v r/\∀κ∈out.v.refs,∃p∈parts,κ∈p.2.refs:=by
 unfold ql at h
 split at h
 ·rename_i i hi
  split at h
  ·rename_i fs z hd hz
   split at h
   ·rename_i hall
    obtain ⟨cs,hcs,rfl⟩:=Option.map_eq_some_iff.1 h
    obtain ⟨ti,d,g1,g2,rfl⟩:=ga hT hi
    simp only at hd hz
    obtain ⟨zv,s8,mC⟩:=Option.bind_eq_some_iff.1 hz
    obtain ⟨z1,z2,z3⟩:=gG hT (w:=w) (R:=R) (Pr:=Pr) mC
    cases d<;>simp only [dN] at hd<;>cases hd
    rename_i gs
    have yK:∀f∈gs.toList,(T.get f.type).isSome=true:=λ f hf=>by
     have:=List.all_eq_true.1 hall (f.offset,f.type) (List.mem_map.2 ⟨f,hf,rfl⟩)
     simpa using this
    obtain ⟨places,Bj⟩:=n5 hT gs.toList yK
    obtain ⟨us,k1,k2,k3⟩:=jv parts vals.toList z cs zv.cells hcs z1 hp
    have hpe:=xC hT ⟨_,hi,rfl⟩ Bj yK
    have hb:P.built t vals.toList=some us:=by
     simp only [Program.built,g1,g2,s8,Bj]
     rw [<-k1]
     congr 1
     funext n
     exact (hpe n).symm
    refine ⟨_,run_build w t vals us hb,⟨us,rfl,k2⟩,λ κ aa=> ?_⟩
    obtain ⟨c,hc,hk⟩:=List.mem_flatMap.1 aa
    rcases k3 c hc κ hk with ⟨c',g1,g2⟩|g
    ·rw [z2 c' g1] at g2;cases g2
    ·exact g
   ·cases h
  ·rename_i m el z hd hz
   split at h
   ·rename_i ei eD
    obtain ⟨cs,hcs,rfl⟩:=Option.map_eq_some_iff.1 h
    obtain ⟨te,q1,q2,_⟩:=dM hT eD
    obtain ⟨ti,d,g1,g2,rfl⟩:=ga hT hi
    simp only at hd hz
    obtain ⟨zv,s8,mC⟩:=Option.bind_eq_some_iff.1 hz
    obtain ⟨z1,z2,z3⟩:=gG hT (w:=w) (R:=R) (Pr:=Pr) mC
    cases d<;>simp only [dN] at hd<;>cases hd
    obtain ⟨us,k1,k2,k3⟩:=jv parts vals.toList z cs zv.cells hcs z1 hp
    have hb:P.built t vals.toList=some us:=by
     simp only [Program.built,g1,g2,s8,q1,q2]
     exact k1
    refine ⟨_,run_build w t vals us hb,⟨us,rfl,k2⟩,λ κ aa=> ?_⟩
    obtain ⟨c,hc,hk⟩:=List.mem_flatMap.1 aa
    rcases k3 c hc κ hk with ⟨c',g1,g2⟩|g
    ·rw [z2 c' g1] at g2;cases g2
    ·exact g
   ·cases h
  ·cases h
 ·cases h
theorem mI (mx:Bool) {k:IntKind}:∀(l:List AV) (x:Int) (vs:List Value) (c:C),uK mx k x l=some c->an (aA w R Pr) l vs->
 ∃u,(vs.foldlM (if mx then Builtin.max2 else Builtin.min2) (.int k x)).run P w=.ok u w/\au w R Pr c u/\c.refs=[]
 | [],x,[],c,h,_=>by
   simp only [uK] at h
   cases h
   exact ⟨_,by simp,rfl,rfl⟩
 |a::l,x,v::vs,c,h,hr=>by
  unfold uK at h
  split at h
  ·rename_i e;cases e
  ·rename_i j y r e
   cases e
   split at h
   ·rename_i hj
    subst hj
    obtain ⟨u,k1,k2,k3⟩:=mI mx l _ vs c h hr.2
    have hv:v=.int j y:=hr.1
    subst hv
    refine ⟨u, ?_,k2,k3⟩
    rw [List.foldlM_cons,Sem.run_bind]
    cases mx<;>simpa [Builtin.max2,Builtin.min2,uJ] using k1
   ·cases h
  ·cases h
 | [],_,_::_,_,_,hr=>hr.elim
 |_::_,_,[],_,_,hr=>hr.elim
theorem ud {ob:Nat->Option Ob} (aj:∀κ o,ob κ=some o->az w R Pr κ o) {t ty:TypeId} {i:TI} (hi:T.get t=some i) (hd:(∃e,i.d=.slice e)\/i.d=.str) {c:C} {v:Value} {out:Out} (h:jM ob c=some out) (hs:i.d=.str↔∃s,c=.str s) (hc:au w R Pr c v):
 ∃u,(Builtin.len_ #[t] ty #[v]).run P w=.ok u w/\aA w R Pr out.v u/\out.v.refs=[]:=by
 have mz:∀e,i.d=.slice e->∀A n cp,v=.slice A n cp->(Builtin.len_ #[t] ty #[v]).run P w=.ok (.int .i64 n) w:=λ e he A n cp hv=>by
  subst hv
  simp [Builtin.len_,run_underlying (bY hT hi he),goInt]
 have hnot:(∀s,c≠ .str s)->∃e,i.d=.slice e:=λ h=>hd.resolve_right λ g=>by
  obtain ⟨s,hs⟩:=hs.1 g;exact h s hs
 unfold jM at h
 split at h
 ·rename_i κ sz lo m
  cases h
  obtain ⟨el,he⟩:=hnot (by simp)
  obtain ⟨_,A,cap,h1,_⟩:=hc
  exact ⟨_,mz el he A _ cap h1,rfl,rfl⟩
 ·rename_i b e x
  cases h
  obtain ⟨el,he⟩:=hnot (by simp)
  obtain ⟨A,cap,h1,_⟩:=hc
  exact ⟨_,mz el he A _ cap (by simpa using h1),rfl,rfl⟩
 ·rename_i κ
  split at h
  ·rename_i e l ho
   cases h
   obtain ⟨el,he⟩:=hnot (by simp)
   have hl:(R κ).len=l.length:=(aj κ _ ho).1
   exact ⟨_,mz el he _ _ _ hc,by rw [hl];rfl,rfl⟩
  ·rename_i e ll _ _ _ _ ho
   cases h
   obtain ⟨el,he⟩:=hnot (by simp)
   have hl:(R κ).len=ll.length:=(aj κ _ ho).1
   exact ⟨_,mz el he _ _ _ hc,by rw [hl];rfl,rfl⟩
  ·cases h
 ·cases h
  obtain ⟨el,he⟩:=hnot (by simp)
  obtain ⟨A,c,hc⟩:=hc
  exact ⟨_,mz el he _ _ _ hc,rfl,rfl⟩
 ·rename_i s
  cases h
  have he:=hs.2 ⟨s,rfl⟩
  obtain ⟨d,h1,h2⟩:=cq hT hi
  rw [he] at h2
  cases d<;>simp only [dN] at h2<;>cases h2
  simp only [au] at hc
  subst hc
  exact ⟨_,by simp [Builtin.len_,run_underlying h1,goInt],rfl,rfl⟩
 ·cases h
  obtain ⟨el,he⟩:=hnot (by simp)
  exact ⟨_,mz el he _ _ _ hc,rfl,rfl⟩
 ·cases h
def c9 (ρ:Operand->AV):Option Operand->Option (Option Int)
 |none=>some none
 |some x=>match ρ x with
  | .cp (.one (.int _ n))=>some (some n)
  |_=>none
def bP (n:Nat):Option Int->Int
 |none=>n
 |some h=>h
def br:Option Int->Int
 |none=>0
 |some l=>l
def mT (n:Nat):Option Int->List DP
 |none=>[]
 |some h=>[⟨0<=h,inferInstance⟩,⟨h<=(n:Int),inferInstance⟩]
def mU (hi:Int):Option Int->List DP
 |none=>[]
 |some l=>[⟨0<=l,inferInstance⟩,⟨l<=hi,inferInstance⟩]
def dh {α:Type}:Option Int->List α->List α
 |none,l=>l
 |some h,l=>l.take h.toNat
def dg {α:Type}:Option Int->List α->List α
 |none,l=>l
 |some h,l=>l.drop h.toNat
def eM (T:bh) (ob:Nat->Option Ob) (t:TypeId) (c:C) (lo hi:Option Int):Option Out:=
 match c with
 | .own κ=>match ob κ with
   |some (.vec e l)=>match T.get t with
    |some it=>match it.d with
     | .slice el=>match T.get el with
       |some i=>match e.n.beq i.size with
        |true=>some ⟨mT l.length hi++mU (bP l.length hi) lo,[κ],aQ (.part κ e.n (br lo).toNat ((bP l.length hi).toNat - (br lo).toNat))⟩
        |false=>none
       |none=>none
     |_=>none
    |none=>none
   |_=>none
 | .val b e x=>match T.get t with
   |some it=>match it.d with
    | .slice el=>match T.get el with
      |some i=>match e.n.beq i.size with
       |true=>some ⟨mT (bX b x).length hi++mU (bP (bX b x).length hi) lo,[],aQ (.val false e (dg lo (dh hi (bX b x))))⟩
       |false=>none
      |none=>none
    |_=>none
   |none=>none
 |_=>none
theorem kO {ρ:Operand->AV} {ev:Operand->Value} (hρ:∀x,aA w R Pr (ρ x) (ev x)) {low high:Option Operand} {lo hi:Option Int} (hlo:c9 ρ low=some lo) (hhi:c9 ρ high=some hi) {n cap:Nat} (hc:n<=cap) (h1:cz (mT n hi)) (h2:cz (mU (bP n hi) lo)):
 (Instr.sliceBounds true n cap (low.map ev) (high.map ev) none).run P w=.ok ((br lo).toNat,(bP n hi).toNat,cap) w/\0<=br lo/\br lo<=bP n hi/\bP n hi<=(n:Int):=by
 have hint:∀{x:Operand} {m:Int},c9 ρ (some x)=some (some m)->∃k,ev x=.int k m:=λ {x m} h=>by
  have hx:=hρ x
  simp only [c9] at h
  split at h
  ·rename_i k n' e
   cases h
   rw [e] at hx
   exact ⟨k,hx⟩
  ·cases h
 have vC:0<=bP n hi/\bP n hi<=(n:Int):=by
  cases hi with
  |none=>simp [bP]
  |some h=>exact ⟨h1 ⟨0<=h,inferInstance⟩ (by simp [mT]),h1 ⟨h<=(n:Int),inferInstance⟩ (by simp [mT])⟩
 have qu:0<=br lo/\br lo<=bP n hi:=by
  cases lo with
  |none=>exact ⟨by simp [br],by simpa [br] using vC.1⟩
  |some l=>exact ⟨h2 ⟨0<=l,inferInstance⟩ (by simp [mU]),h2 ⟨l<=bP n hi,inferInstance⟩ (by simp [mU])⟩
 refine ⟨?_,qu.1,qu.2,vC.2⟩
 have no:∀{x:Operand},c9 ρ (some x)≠some none:=λ {x} h=>by
  simp only [c9] at h;split at h<;>cases h
 cases high with
 |none=>
  simp only [c9] at hhi;cases hhi
  cases low with
  |none=>
   simp only [c9] at hlo;cases hlo
   simp [Instr.sliceBounds,bP,br]
  |some y=>
   cases lo with
   |none=>exact (no hlo).elim
   |some l=>
    obtain ⟨k,hk⟩:=hint hlo
    have q:0<=l/\l<=(n:Int):=⟨qu.1,qu.2⟩
    simp [Instr.sliceBounds,Instr.sliceBound,hk,asIntOf,q,bP,br]
 |some x=>
  cases hi with
  |none=>exact (no hhi).elim
  |some h=>
   obtain ⟨k,hk⟩:=hint hhi
   have q:0<=h/\h<=(cap:Int):=⟨vC.1,by have:=vC.2;simp only [bP] at this;omega⟩
   cases low with
   |none=>
    simp only [c9] at hlo;cases hlo
    simp [Instr.sliceBounds,Instr.sliceBound,hk,asIntOf,q,bP,br]
   |some y=>
    cases lo with
    |none=>exact (no hlo).elim
    |some l=>
     obtain ⟨k2,hk2⟩:=hint hlo
     have q2:0<=l/\l<=max h 0:=⟨qu.1,by have:=qu.2;simp only [bP,br] at this;omega⟩
     simp [Instr.sliceBounds,Instr.sliceBound,hk,hk2,asIntOf,q,q2,bP,br]
theorem jY {α:Type} (lo hi:Option Int) (l:List α) (h0:0<=br lo) (h1:br lo<=bP l.length hi) (h2:bP l.length hi<=(l.length:Int)):dg lo (dh hi l)=(l.take (bP l.length hi).toNat).drop (br lo).toNat:=by
 cases lo<;>cases hi<;>simp [dg,dh,bP,br]
theorem rT {ρ:Operand->AV} {ev:Operand->Value} (hρ:∀x,aA w R Pr (ρ x) (ev x)) {t:TypeId} {c:C} {v:Value} {low high:Option Operand} {lo hi:Option Int} (hlo:c9 ρ low=some lo) (hhi:c9 ρ high=some hi) {out:Out} {ob:Nat->Option Ob} (aj:∀κ o,ob κ=some o->az w R Pr κ o) (h:eM T ob t c lo hi=some out) (hh:cz out.conds) (hc:au w R Pr c v):
 ∃u,(Instr.sliceAt t v (low.map ev) (high.map ev) none).run P w=.ok u w/\aA w R Pr out.v u/\∀κ∈out.v.refs,κ∈c.refs:=by
 unfold eM at h
 split at h
 ·rename_i κ
  split at h
  ·rename_i e L hok
   split at h
   ·rename_i it hit
    split at h
    ·rename_i el hd
     split at h
     ·rename_i i hi'
      split at h
      ·rename_i hsz
       rw [Nat.beq_eq] at hsz
       cases h
       obtain ⟨q0,q1⟩:=aj κ _ hok
       have hcap:L.length<=(R κ).cap:=by
        rcases q1 with ⟨_,rfl⟩|⟨off,cap,cells,dm,q2,q3,_⟩
        ·simp
        ·have:(R κ).cap=cap:=by have:=q2;simp only [RL.aF] at this;injection this
         omega
       have hv:v=.slice (R κ).lJ L.length (R κ).cap:=by
        have:v=(R κ).aF:=hc
        rw [this,RL.aF,q0]
       obtain ⟨k1,k2,k3,k4⟩:=kO hT hρ hlo hhi hcap (λ z (hz:z∈mT L.length hi)=>hh z (List.mem_append_left _ hz)) (λ z (hz:z∈mU (bP L.length hi) lo)=>hh z (List.mem_append_right _ hz))
       subst hv
       have hu:=bY hT hit hd
       refine ⟨.slice (if (R κ).cap=(br lo).toNat then (R κ).lJ else (R κ).lJ.map (·.add ((br lo).toNat * i.size))) ((bP L.length hi).toNat - (br lo).toNat) ((R κ).cap - (br lo).toNat), ?_, ?_,λ af aa=>by simpa [AV.refs,Cp.refs,C.refs] using aa⟩
       ·simp only [Instr.sliceAt,Instr.slice,Sem.run_bind,run_underlying hu,Result.andThen_ok]
        rw [k1]
        simp only [Result.andThen_ok,bQ hT hi',Sem.run_pure]
       ·refine ⟨by omega,_,_,rfl,λ hn=> ?_⟩
        rcases q1 with ⟨_,rfl⟩|⟨off,cap,cells,dm,q2,q3,_⟩
        ·simp at k4 hn;omega
        ·have e1:(R κ).lJ=some ⟨(R κ).blk,off,none⟩:=by have:=q2;simp only [RL.aF] at this;injection this
         have e2:(R κ).cap=cap:=by have:=q2;simp only [RL.aF] at this;injection this
         refine ⟨off,_,_,q2, ?_⟩
         rw [if_neg (by omega),e1, <-hsz]
         simp only [Option.map_some]
         rw [ew]
      ·cases h
     ·cases h
    ·cases h
   ·cases h
  ·cases h
 ·rename_i b e x
  split at h
  ·rename_i it hit
   split at h
   ·rename_i el hd
    split at h
    ·rename_i i hi'
     split at h
     ·rename_i hsz
      rw [Nat.beq_eq] at hsz
      cases h
      obtain ⟨A,cap,h1,h2,h3',h4⟩:=hc
      have h3':=zn h3'
      generalize hL:bX b x=L at *
      obtain ⟨k1,k2,k3,k4⟩:=kO hT hρ hlo hhi h2 (λ z (hz:z∈mT L.length hi)=>hh z (List.mem_append_left _ hz)) (λ z (hz:z∈mU (bP L.length hi) lo)=>hh z (List.mem_append_right _ hz))
      have hv:v=.slice A L.length cap:=by simpa using h1
      subst hv
      have hu:=bY hT hit hd
      refine ⟨.slice (if cap=(br lo).toNat then A else A.map (·.add ((br lo).toNat * i.size))) ((bP L.length hi).toNat - (br lo).toNat) (cap - (br lo).toNat), ?_, ?_,λ af aa=>by cases aa⟩
      ·simp only [Instr.sliceAt,Instr.slice,Sem.run_bind,run_underlying hu,Result.andThen_ok]
       rw [k1]
       simp only [Result.andThen_ok,bQ hT hi',Sem.run_pure]
      ·have hlen:(dg lo (dh hi L)).length=(bP L.length hi).toNat - (br lo).toNat:=by
        rw [jY hT lo hi L k2 k3 k4]
        simp only [List.length_drop,List.length_take]
        omega
       refine ⟨_,_,by rw [show bX false (dg lo (dh hi L))=dg lo (dh hi L) from rfl,hlen],by rw [show bX false (dg lo (dh hi L))=dg lo (dh hi L) from rfl,hlen];omega,(λ z=>by
        by_cases g:cap=(br lo).toNat
        ·omega
        ·rw [if_neg g] at z
         have:=h3' (by cases A<;>simp_all)
         omega),λ hn=> ?_⟩
       rw [show bX false (dg lo (dh hi L))=dg lo (dh hi L) from rfl] at hn ⊢
       have hpos:0 <(dg lo (dh hi L)).length:=List.length_pos_iff.2 hn
       have hne:L≠[]:=λ e=>by subst e;simp at hlen k4;omega
       obtain ⟨blk,off,cells,dm,fr,rfl,m1,m2,m3⟩:=h4 hne
       refine ⟨blk,off+(br lo).toNat * i.size,cells,dm,fr, ?_,m1,m2,λ j y hj=> ?_⟩
       ·rw [if_neg (by omega)]
        simp only [Option.map_some,Addr.add]
        split
        ·rename_i h0;simp [h0]
        ·rfl
       ·rw [jY hT lo hi L k2 k3 k4,List.getElem?_drop,List.getElem?_take] at hj
        split at hj
        ·obtain ⟨us,q1,q2⟩:=m3 _ y hj
         refine ⟨us, ?_,q2⟩
         have e1:off+(br lo).toNat * i.size+j * e.n=off+((br lo).toNat+j) * e.n:=by rw [<-hsz,Nat.add_mul];omega
         rw [e1];exact q1
        ·cases hj
     ·cases h
    ·cases h
   ·cases h
  ·cases h
 ·cases h
end
end Go.Rx
