/- Reflection, part K: the operations that make or write objects, soundly. -/
import Derived.Test.YtollcjadobpfdaaGreatRxJ
import Derived.Laws.IdiomCopy
set_option linter.unusedVariables false
set_option linter.unusedSimpArgs false
set_option linter.unusedSectionVars false
namespace Go.Rx
section
variable {w0:World} {Fz av:Nat->Prop} {Lo:Nat->RL} {R:Nat->RL} {Pr:Nat->Prop} {σ:St} {a:Act} {w:World}
variable {P:Program} {T:bh} (hT:bC P T) {Y:dZ}
theorem dL (w:World) (g:Nat) {old:Array Value} {cs:Array Value} {t:TypeId} {fr:Nat×Nat} (hg:w.heap[g]?=some (.cells old t fr)):(w.setRow g cs).heap[g]?=some (.cells cs t fr):=setRow_heap w g old cs t fr hg
include hT
theorem gZ {t:TypeId} {i:TI} (hi:T.get t=some i) {blk o:Nat} {cells:Array Value} {el:TypeId} (hb:w.heap[blk]?=some (.cells cells el (0,0))) {v:Value} {xs:List C} {x:Cp} (hx:bV x=some xs) (hv:bf w R Pr x v)
 (hl:xs.length=i.size) (ho:o+i.size<=cells.size) (BJ:∀c∈xs,c≠ .any):
 (Instr.storeAt t (.pointer (some ⟨blk,o,none⟩)) v).run P w=.ok () (w.setRow blk (cells.toList.take o++v.cells.toList++cells.toList.drop (o+v.cells.toList.length)).toArray)/\v.cells.toList.length=i.size:=by
 have hr:=(dI hv hx).1
 have hlen:v.cells.toList.length=i.size:=by rw [<-hr.length,hl]
 have hst:=run_storeCells_at P blk o el v.cells.toList 0 cells w hb (by omega) (tD hr BJ)
 simp only [Nat.add_zero] at hst
 refine ⟨?_,hlen⟩
 have hsz: ¬v.cells.size≠i.size:=by simpa using hlen
 simp only [Instr.storeAt,Instr.sureAddr,Sem.run_bind,Sem.run_pure,Result.andThen_ok,storeVar,bQ hT hi]
 rw [if_neg hsz]
 exact hst
theorem uh (h:Inv w0 Fz av Lo R Pr σ a w) {t:TypeId} {c:C} {x:Cp} {p v:Value} {e:bK} {dst:Option Nat} (he:nw T σ.ob t c x=some e) (hc:au w R Pr c p) (Dg:∀κ∈c.refs,σ.ob κ≠none) (hx:bf w R Pr x v) (CO:∀κ∈x.refs,σ.ob κ≠none):
 ∃w' R',(Instr.storeAt t p v).run P w=.ok () w'/\Inv w0 Fz av Lo R' Pr (σ.ef dst e) (a.put dst undef) w':=by
 unfold nw at he
 split at he
 ·rename_i κ off
  split at he
  ·rename_i i cs xs hi aj hxs
   split at he
   ·rename_i aY
    obtain ⟨hna,hl,hoff⟩:=aY
    cases he
    obtain ⟨el,vs,h1,h2⟩:=h.ob κ _ aj
    have hlen:=h2.length
    simp only [Array.length_toList] at hlen
    obtain ⟨k1,k2⟩:=gZ hT hi h1 (o:=off) hxs hx hl (by omega) (lp hna)
    have hp:p=.pointer (some ⟨(R κ).blk,off,none⟩):=hc
    subst hp
    refine ⟨_,R,k1, ?_⟩
    have yh:=(dI hx hxs).1
    have bw:∀b,b≠(R κ).blk->(w.setRow (R κ).blk (vs.toList.take off++v.cells.toList++vs.toList.drop (off+v.cells.toList.length)).toArray).heap[b]?=w.heap[b]?:=λ b hb=>setRow_other w _ b _ hb
    have eE:∀b,Pr b->b≠(R κ).blk:=λ b hb e=>(h.un κ _ aj trivial).1 (e▸hb)
    have h3:=h.upd κ _ (.box (cs.take off++xs++cs.drop (off+i.size))) aj (w':=w.setRow (R κ).blk (vs.toList.take off++v.cells.toList++vs.toList.drop (off+v.cells.toList.length)).toArray) (R':=R) (λ _ _=>rfl) (.inl rfl)
     (λ b hb hne=>bw b (hne trivial)) ⟨by simp,rfl,rfl,rfl,(by first|exact Nat.le_refl _|exact Nat.le_succ _|exact Nat.le_add_right _ _)⟩ (λ _=>.inr ⟨trivial,rfl⟩) ⟨el,_,dL w _ h1, ?_⟩ ?_
    ·exact h3.put dst bA undef trivial (λ κ aa=>by cases aa)
    ·have:an (au w R Pr) (cs.take off++xs++cs.drop (off+i.size)) (vs.toList.take off++v.cells.toList++vs.toList.drop (off+v.cells.toList.length)):=by
      rw [k2]
      exact an.append (an.append (h2.take off) yh) (h2.drop (off+i.size))
     exact this.mono λ c _ u hu=>au.move (λ b hb=>bw b (eE b hb)) (λ _ h=>h) (λ _ _=>rfl) hu
    ·intro af aD
     obtain ⟨c,hc,hk⟩:=List.mem_flatMap.1 aD
     rcases List.mem_append.1 hc with hc|hc
     ·rcases List.mem_append.1 hc with hc|hc
      ·exact h.wo κ _ af aj (List.mem_flatMap.2 ⟨c,List.mem_of_mem_take hc,hk⟩)
      ·exact CO af (ux hT hxs hc hk)
     ·exact h.wo κ _ af aj (List.mem_flatMap.2 ⟨c,List.mem_of_mem_drop hc,hk⟩)
   ·cases he
  ·cases he
 ·rename_i κ sz j off
  split at he
  ·rename_i i e1 l xs hi aj hxs
   split at he
   ·rename_i aY
    obtain ⟨hna,hsz,hl,hoff⟩:=aY
    split at he
    ·rename_i y hy
     cases he
     obtain ⟨hj,o,n,c1,hh,hp⟩:=hc
     obtain ⟨h0,h1⟩:=h.ob κ _ aj
     rcases h1 with ⟨h1,_⟩|⟨off1,cap,cells,el,h1,h2,h3,h4,h5⟩
     ·rw [h1] at hh;cases hh
     ·obtain ⟨iq,_,_⟩:off1=o/\l.length=n/\cap=c1:=by rw [h1] at hh;simpa using hh
      subst iq
      rw [h0] at hj
      obtain ⟨us,k1,k2⟩:=h5 j l[j] (List.getElem?_eq_getElem hj)
      have hg:l.getD j e1.z=l[j]:=by rw [List.getD_eq_getElem?_getD,List.getElem?_eq_getElem hj];rfl
      rw [hg] at hy
      have gv:=k2.len
      have hjn:j * e1.n+e1.n<=cap * e1.n:=by
       have:(j+1) * e1.n<=cap * e1.n:=Nat.mul_le_mul_right _ (by omega)
       rw [Nat.add_mul,Nat.one_mul] at this;exact this
      obtain ⟨g1,g2⟩:=gZ hT hi h3 (o:=off1+j * sz+off) hxs hx hl (by rw [<-hsz];omega) (lp hna)
      subst hp
      rw [<-hsz] at g1
      refine ⟨_,R,by rw [<-hsz];exact g1, ?_⟩
      have aq:real R κ (.vec e1 l):=λ z=>by rw [z] at h1;cases h1
      generalize eW:(cells.toList.take (off1+j * e1.n+off)++v.cells.toList++cells.toList.drop (off1+j * e1.n+off+v.cells.toList.length))=cur
      have bw:∀b,b≠(R κ).blk->(w.setRow (R κ).blk cur.toArray).heap[b]?=w.heap[b]?:=λ b hb=>setRow_other w _ b _ hb
      have eE:∀b,Pr b->b≠(R κ).blk:=λ b hb e=>(h.un κ _ aj aq).1 (e▸hb)
      have yh:=(dI hx hxs).1
      have hcells:=bu (R:=R) k2
      have hnew:an (au w R Pr) (((e1.cells l[j]).take off)++xs++((e1.cells l[j]).drop (off+i.size))) (us.take off++v.cells.toList++us.drop (off+i.size)):=
       an.append (an.append (hcells.take off) yh) (hcells.drop (off+i.size))
      obtain ⟨u1,u2,dw,ru,eP⟩:=c8 hy hnew
      have eP:u2=[]:=by
       cases u2 with
       |nil=>rfl
       |cons _ _=>exact eP.elim
      subst eP
      simp only [List.append_nil] at dw
      have hcl:off1+j * e1.n+off+v.cells.toList.length<=cells.toList.length:=by simp only [g2,Array.length_toList];omega
      have ku:cur.length=cells.size:=by
       rw [<-eW]
       simp only [List.length_append,List.length_take,List.length_drop,Array.length_toList,g2] at hcl ⊢
       omega
      have bG:∀q,cur[q]?=if q <off1+j * e1.n+off then cells[q]? else if q <off1+j * e1.n+off+i.size then v.cells.toList[q - (off1+j * e1.n+off)]? else cells[q]?:=λ q=>by
       rw [<-eW]
       simp only [Array.length_toList] at hcl
       by_cases q1:q <off1+j * e1.n+off
       ·rw [if_pos q1,List.append_assoc,List.getElem?_append_left (by simp;omega),List.getElem?_take,if_pos q1];simp
       ·rw [if_neg q1]
        have dz:(cells.toList.take (off1+j * e1.n+off)).length=off1+j * e1.n+off:=by simp;omega
        by_cases q2:q <off1+j * e1.n+off+i.size
        ·rw [if_pos q2,List.append_assoc,List.getElem?_append_right (by omega),List.getElem?_append_left (by omega),dz]
        ·rw [if_neg q2,List.getElem?_append_right (by simp only [List.length_append,dz,g2];omega),List.getElem?_drop]
         simp only [List.length_append,dz,g2]
         rw [show off1+j * e1.n+off+i.size+(q - (off1+j * e1.n+off+i.size))=q by omega]
         simp
      have h6:=h.upd κ _ (.vec e1 (l.set j y)) aj (w':=w.setRow (R κ).blk cur.toArray) (R':=R) (λ _ _=>rfl) (.inl rfl)
       (λ b hb hne=>bw b (hne aq)) ⟨by simp,rfl,rfl,rfl,(by first|exact Nat.le_refl _|exact Nat.le_succ _|exact Nat.le_add_right _ _)⟩ (λ _=>.inr ⟨aq,rfl⟩) ?_ (λ af aD=>by cases aD)
      ·exact h6.put dst bA undef trivial (λ κ aa=>by cases aa)
      ·refine ⟨by rw [List.length_set];exact h0,.inr ⟨off1,cap,cur.toArray,el,by rw [List.length_set];exact h1,by rw [List.length_set];exact h2,dL w _ h3,by simp [ku];exact h4,λ q z hz=> ?_⟩⟩
       rw [List.getElem?_set] at hz
       by_cases hq:j=q
       ·subst hq
        rw [if_pos rfl,if_pos hj] at hz
        cases hz
        refine ⟨u1,λ c u hu=> ?_,ru.move (λ b hb=>bw b (eE b hb)) (λ _ h=>h)⟩
        simp only [List.getElem?_toArray]
        rw [bG]
        rw [<-dw] at hu
        by_cases q1:c <off
        ·rw [List.append_assoc,List.getElem?_append_left (by simp;omega),List.getElem?_take,if_pos q1] at hu
         rw [if_pos (by omega)]
         exact k1 c u hu
        ·have dz:(us.take off).length=off:=by simp;omega
         by_cases q2:c <off+i.size
         ·rw [List.append_assoc,List.getElem?_append_right (by omega),List.getElem?_append_left (by omega),dz] at hu
          rw [if_neg (by omega),if_pos (by omega)]
          rw [show off1+j * e1.n+c - (off1+j * e1.n+off)=c - off by omega]
          exact hu
         ·rw [List.getElem?_append_right (by simp only [List.length_append,dz,g2];omega),List.getElem?_drop] at hu
          simp only [List.length_append,dz,g2] at hu
          rw [show off+i.size+(c - (off+i.size))=c by omega] at hu
          rw [if_neg (by omega),if_neg (by omega)]
          exact k1 c u hu
       ·rw [if_neg hq] at hz
        obtain ⟨us',m1,m2⟩:=h5 q z hz
        have hm2:=m2.len
        refine ⟨us',λ c u hu=> ?_,m2.move (λ b hb=>bw b (eE b hb)) (λ _ h=>h)⟩
        have hc:c <us'.length:=by
         rcases Nat.lt_or_ge c us'.length with g|g
         ·exact g
         ·rw [List.getElem?_eq_none g] at hu;cases hu
        simp only [List.getElem?_toArray]
        rw [bG]
        have hap:off1+q * e1.n+c <off1+j * e1.n+off\/off1+j * e1.n+off+i.size<=off1+q * e1.n+c:=by
         rcases Nat.lt_or_ge q j with g|g
         ·left
          have:(q+1) * e1.n<=j * e1.n:=Nat.mul_le_mul_right _ g
          rw [Nat.add_mul,Nat.one_mul] at this
          omega
         ·right
          have:(j+1) * e1.n<=q * e1.n:=Nat.mul_le_mul_right _ (by omega)
          rw [Nat.add_mul,Nat.one_mul] at this
          omega
        rcases hap with g|g
        ·rw [if_pos g];exact m1 c u hu
        ·rw [if_neg (by omega),if_neg (by omega)];exact m1 c u hu
    ·cases he
   ·cases he
  ·cases he
 ·cases he
theorem sH (h:Inv w0 Fz av Lo R Pr σ a w) {t ty el:TypeId} {it:TI} (hit:T.get t=some it) (hd:it.d=.slice el) {s x:C} {e:bK} {d:Nat} {sv xv:Value} (he:kT T Y σ.ob σ.objs.length d el s x=some e) (hh:cz e.conds) (hs:au w R Pr s sv) (hx:au w R Pr x xv):
 ∃u w' R',(Builtin.append_ #[t, t] ty #[sv, xv]).run P w=.ok u w'/\Inv w0 Fz av Lo R' Pr (σ.ef (some d) e) (a.put (some d) u) w':=by
 have hu:=bY hT hit hd
 unfold kT at he
 split at he
 ·rename_i i hi
  split at he
  ·cases he
  ·rename_i b z hz
   obtain ⟨ti,zv,g1,g2,g3,g4,g5,g6⟩:=fc hT hi hz w R Pr
   split at he
   ·rename_i κ
    split at he
    ·rename_i bp l aj
     split at he
     ·rename_i acc m hm
      split at he
      ·rename_i aY
       obtain ⟨hb0,hsz,hzl,qv,hacc⟩:=aY
       have hzs:zv.cells.size=ti.size:=by have:=g5.length;simp only [Array.length_toList] at this;omega
       cases he
       have hfit:(l.length+m.length) * ti.bytes<=140737488355328:=by rw [g4];exact hh (o8 i.bytes (l.length+m.length)) (by simp)
       have hsz':bp.n=ti.size:=by rw [g3];exact hsz
       obtain ⟨A,cp,us,rfl,k2,k3,k4⟩:=oJ hT h hm hx
       have gv:=k2.len
       have hs:sv=(R κ).aF:=hs
       obtain ⟨h0,h1⟩:=h.ob κ _ aj
       have h2:=h.kill κ
       have oA:(σ.kill κ).ob κ=some (.vec bp l):=by rw [dx,aj];rfl
       have ya:κ <(σ.kill κ).objs.length:=by
        rcases Nat.lt_or_ge κ (σ.kill κ).objs.length with g|g
        ·exact g
        ·unfold St.ob at oA;rw [List.getD_eq_getElem?_getD,List.getElem?_eq_none g] at oA;cases oA
       have fin:∀(u:Value) (w':World) (loc:RL),(Builtin.append_ #[t, t] ty #[sv, .slice A m.length cp]).run P w=.ok u w'->u=loc.aF->
        (∀b,b <w.heap.size->(real R κ (.vec bp l)->b≠(R κ).blk)->w'.heap[b]?=w.heap[b]?)->Grow w w'->
        (loc.aF≠ .slice none 0 0->w.heap.size<=loc.blk\/(real R κ (.vec bp l)/\loc.blk=(R κ).blk))->
        (∀R':Nat->RL,R' κ=loc->az w' R' Pr κ (.vec bp (l++m)))->
        ∃u w' R',(Builtin.append_ #[t, t] ty #[sv, .slice A m.length cp]).run P w=.ok u w'/\Inv w0 Fz av Lo R' Pr (σ.ef (some d) ⟨[o8 i.bytes (l.length+m.length)],κ::acc,aQ (.own κ),some κ,some (κ,.vec bp (l++m))⟩) (a.put (some d) u) w':=λ u w' loc hrun gv hw hsw hb ho=>by
        have sZ:(λ af=>if af=κ then loc else R af) κ=loc:=by simp
        refine ⟨u,w',λ af=>if af=κ then loc else R af,hrun, ?_⟩
        have h3:=h2.1.upd κ _ (.vec bp (l++m)) oA (w':=w') (R':=λ af=>if af=κ then loc else R af) (λ af hk=>by simp [hk]) (.inr ⟨h2.2.1,h2.2.2,by simpa [St.kill] using qv⟩) hw hsw (λ aq=>by
         simp only [real,if_true] at aq
         simpa using hb aq) (ho _ sZ) (λ af aD=>by cases aD)
        refine h3.put (some d) (aQ (.own κ)) u ?_ (λ af aD=> ?_)
        ·show u=_
         rw [sZ,gv]
        ·have:af=κ:=by simpa [AV.refs,Cp.refs,C.refs] using aD
         subst this
         rw [St.aL,if_pos ⟨rfl,ya⟩];simp
       rcases h1 with ⟨h1,rfl⟩|⟨off,cap,cells,dm,h1,h2',h3,h4,h5⟩
       ·
        rw [h1] at hs
        subst hs
        by_cases hm0:m=[]
        ·have fD:=k4 hm0
         subst hm0
         refine fin (.slice none 0 0) w (R κ) ?_ h1.symm (λ b _ _=>rfl) (Grow.refl _) (λ g=>(g h1).elim) (λ R' cr=>⟨by rw [cr];simpa using h0,.inl ⟨by rw [cr,h1],rfl⟩⟩)
         have zX:∀A n c,(Builtin.firstCells ti.size 0 (.slice A n c)).run P w=.ok #[] w:=λ A n c=>by
          cases A<;>simp [Builtin.firstCells,loadCells,loadCellsFrom]
         simp [Builtin.append_,run_underlying hu,sizeOf,typeInfo,g1,Builtin.lenOf,zX]
        ·obtain ⟨blk,off,cells,dm,fr,rfl,m1,m2⟩:=k3.resolve_left hm0
         have hpos:0 <m.length:=List.length_pos_iff.2 hm0
         have hbig:m.length * ti.bytes<=140737488355328:=by simpa using hfit
         have h63:(m.length:Int)<=9223372036854775807:=by
          have:=Nat.le_trans (Nat.le_mul_of_pos_right m.length (by rw [g4];exact hb0)) hbig
          omega
         have hrun:=run_append_nil (P:=P) w t ty el ti zv hu g1 g2 ⟨blk,off,none⟩ m.length cp us (by rw [gv,hsz']) (At.cell m1 m2) hpos h63 (by omega)
         refine fin _ _ ⟨w.heap.size,some ⟨w.heap.size,0,none⟩,m.length,grownCap w m.length 0 el⟩ hrun rfl (λ b hb _=>by rw [bH _ _ b (by simpa using hb)];rfl) ⟨by simp,rfl,rfl,rfl,(by first|exact Nat.le_refl _|exact Nat.le_succ _|exact Nat.le_add_right _ _)⟩ (λ _=>.inl (Nat.le_refl _)) (λ R' cr=> ?_)
         refine ⟨by rw [cr];simp,.inr ⟨0,_,_,el,by rw [cr];rfl,grownCap_ge w m.length 0 el,by rw [cr];exact cO w.drew _, ?_, ?_⟩⟩
         ·have hg:=grownCap_ge w m.length 0 el
          simp only [Nat.zero_add,Array.size_append,List.size_toArray,size_zeroCells,hzs,gv,hsz', <-Nat.add_mul]
          exact Nat.mul_le_mul_right _ (by omega)
         ·have hr':=k2.move (w':=w.drew.alloc (.cells (us.toArray++Builtin.zeroCells zv.cells (grownCap w m.length 0 el - m.length)) el)) (λ b hb=>by rw [bH _ _ b (by simpa using h.pr b hb)];rfl) (λ _ h=>h)
          simpa using hr'.idx (cells:=us.toArray++Builtin.zeroCells zv.cells (grownCap w m.length 0 el - m.length)) (off:=0) (λ c u hu=>by
           have hc:c <us.length:=by
            rcases Nat.lt_or_ge c us.length with g|g
            ·exact g
            ·rw [List.getElem?_eq_none g] at hu;cases hu
           rw [Nat.zero_add,Array.getElem?_append_left (by simpa using hc)]
           simpa using hu)
       ·have aq:real R κ (.vec bp l):=λ z=>by rw [z] at h1;cases h1
        rw [h1] at hs
        subst hs
        obtain ⟨olds,o1,o2⟩:=aS.of h5
        have uD:=o2.len
        have hcap:l.length * bp.n<=cap * bp.n:=Nat.mul_le_mul_right _ h2'
        by_cases hroom:l.length+m.length<=cap
        ·
         have Al:(l.length+m.length) * bp.n<=cap * bp.n:=Nat.mul_le_mul_right _ hroom
         rw [Nat.add_mul] at Al
         have hrun:(Builtin.append_ #[t, t] ty #[.slice (some ⟨(R κ).blk,off,none⟩) l.length cap,.slice A m.length cp]).run P w=
          .ok (.slice (some ⟨(R κ).blk,off,none⟩) (l.length+m.length) cap) (w.setRow (R κ).blk (cells.toList.take (off+l.length * ti.size)++us++cells.toList.drop (off+l.length * ti.size+us.length)).toArray):=by
          have hst:=run_storeCells_at P (R κ).blk (off+l.length * ti.size) dm us 0 cells w h3 (by rw [<-hsz',gv];omega) k2.qD
          simp only [Nat.add_zero] at hst
          have hf:(Builtin.firstCells ti.size m.length (.slice A m.length cp)).run P w=.ok us.toArray w:=by
           by_cases hm0:m=[]
           ·have:=k4 hm0
            subst hm0
            subst this
            cases A<;>simp [Builtin.firstCells,loadCells,loadCellsFrom]
           ·obtain ⟨blk,off',cells',yG,fr,rfl,m1,m2⟩:=k3.resolve_left hm0
            exact run_firstCells_some (P:=P) w ti.size m.length ⟨blk,off',none⟩ m.length cp us (by rw [gv,hsz']) (At.cell m1 m2)
          simp [Builtin.append_,run_underlying hu,sizeOf,typeInfo,g1,Builtin.lenOf,hroom,hf,ew,hst]
         rw [<-hsz'] at hrun
         have vA:off+l.length * bp.n+us.length<=cells.toList.length:=by simp only [Array.length_toList,gv];omega
         have bw:∀b,b≠(R κ).blk->(w.setRow (R κ).blk (cells.toList.take (off+l.length * bp.n)++us++cells.toList.drop (off+l.length * bp.n+us.length)).toArray).heap[b]?=w.heap[b]?:=λ b hb=>setRow_other w _ b _ hb
         have eE:∀b,Pr b->b≠(R κ).blk:=λ b hb e=>(h.un κ _ aj aq).1 (e▸hb)
         refine fin _ _ ⟨(R κ).blk,some ⟨(R κ).blk,off,none⟩,l.length+m.length,cap⟩ hrun rfl (λ b hb hne=>bw b (hne aq)) ⟨by simp,rfl,rfl,rfl,(by first|exact Nat.le_refl _|exact Nat.le_succ _|exact Nat.le_add_right _ _)⟩ (λ _=>.inr ⟨aq,rfl⟩) (λ R' cr=> ?_)
         refine ⟨by rw [cr];simp,.inr ⟨off,cap,_,dm,by rw [cr];simp [RL.aF],by simpa using hroom,by rw [cr];exact dL w _ h3, ?_, ?_⟩⟩
         ·simp only [List.size_toArray,List.length_append,List.length_take,List.length_drop,Array.length_toList] at vA ⊢
          omega
         ·have hr':=(o2.append k2).move (w':=w.setRow (R κ).blk (cells.toList.take (off+l.length * bp.n)++us++cells.toList.drop (off+l.length * bp.n+us.length)).toArray) (λ b hb=>bw b (eE b hb)) (λ _ h=>h)
          refine hr'.idx (At.app (AE vA off olds (λ c u hu=>by simpa using o1 c u hu) (by rw [uD];exact Nat.le_refl _)) ?_)
          rw [uD]
          exact zm vA
        ·
         have hm0:m≠[]:=λ e=>by subst e;simp at hroom;omega
         obtain ⟨blk,off',cells',yG,fr,rfl,m1,m2⟩:=k3.resolve_left hm0
         have h63:((l.length+m.length:Nat):Int)<=9223372036854775807:=by
          have:=Nat.le_trans (Nat.le_mul_of_pos_right (l.length+m.length) (by rw [g4];exact hb0)) hfit
          omega
         have hrun:=run_append_grow (P:=P) w t ty el ti zv hu g1 g2 ⟨(R κ).blk,off,none⟩ l.length cap olds (by rw [uD,hsz']) (At.cell h3 o1) ⟨blk,off',none⟩ m.length cp us (by rw [gv,hsz']) (At.cell m1 m2) (by omega) h63 (growslice_fits (by omega) hfit)
         have hg:=grownCap_ge w (l.length+m.length) cap el
         refine fin _ _ ⟨w.heap.size,some ⟨w.heap.size,0,none⟩,l.length+m.length,grownCap w (l.length+m.length) cap el⟩ hrun rfl (λ b hb _=>by rw [bH _ _ b (by simpa using hb)];rfl) ⟨by simp,rfl,rfl,rfl,(by first|exact Nat.le_refl _|exact Nat.le_succ _|exact Nat.le_add_right _ _)⟩ (λ _=>.inl (Nat.le_refl _)) (λ R' cr=> ?_)
         refine ⟨by rw [cr];simp,.inr ⟨0,grownCap w (l.length+m.length) cap el,_,el,by rw [cr,List.length_append];rfl,by simpa using hg,by rw [cr];exact cO w.drew _, ?_, ?_⟩⟩
         ·simp only [Nat.zero_add,Array.size_append,List.size_toArray,size_zeroCells,hzs,gv,uD,hsz', <-Nat.add_mul]
          exact Nat.mul_le_mul_right _ (by omega)
         ·have hr':=(o2.append k2).move (w':=w.drew.alloc (.cells (olds.toArray++us.toArray++Builtin.zeroCells zv.cells (grownCap w (l.length+m.length) cap el - (l.length+m.length))) el)) (λ b hb=>by rw [bH _ _ b (by simpa using h.pr b hb)];rfl) (λ _ h=>h)
          refine hr'.idx (λ c u hu=> ?_)
          have hc:c <(olds++us).length:=by
           rcases Nat.lt_or_ge c (olds++us).length with g|g
           ·exact g
           ·rw [List.getElem?_eq_none g] at hu;cases hu
          rw [Nat.zero_add,Array.getElem?_append_left (by simpa using hc)]
          simpa using hu
      ·cases he
     ·cases he
    ·cases he
   ·split at he
    ·rename_i bp gL
     split at he
     ·rename_i acc m hm
      split at he
      ·rename_i aY
       obtain ⟨hb0,hsz,hzl⟩:=aY
       have hzs:zv.cells.size=ti.size:=by have:=g5.length;simp only [Array.length_toList] at this;omega
       have hsz':bp.n=ti.size:=by rw [g3];exact hsz
       have hs:sv=.slice none 0 0:=hs
       subst hs
       obtain ⟨A,cp,us,rfl,k2,k3,k4⟩:=oJ hT h hm hx
       have gv:=k2.len
       obtain ⟨n1,n2,rfl⟩:=b9 he
       have hbig:m.length * ti.bytes<=140737488355328:=by rw [g4];exact hh (o8 i.bytes m.length) (by simp)
       by_cases hm0:m=[]
       ·have fD:=k4 hm0
        subst hm0
        have zX:∀A n c,(Builtin.firstCells ti.size 0 (.slice A n c)).run P w=.ok #[] w:=λ A n c=>by
         cases A<;>simp [Builtin.firstCells,loadCells,loadCellsFrom]
        obtain ⟨R',cr⟩:=h.nE (w':=w) (d:=d) (o:=.vec bp ([]:List bp.D)) (loc:=⟨0,none,0,0⟩) n2 n1 (λ _ _=>rfl) (Grow.refl _) (λ aq=>(aq (by simp [RL.aF])).elim) (λ R' dn _=>⟨by rw [dn];rfl,.inl ⟨by rw [dn];rfl,rfl⟩⟩) (λ κ aa=>by cases aa) (some d) (.own d) (.slice none 0 0) (λ R' dn=>by simp only [au];rw [dn];rfl) rfl
        exact ⟨_,w,R',by simp [Builtin.append_,run_underlying hu,sizeOf,typeInfo,g1,Builtin.lenOf,zX],cr⟩
       ·obtain ⟨blk,off,cells,dm,fr,rfl,m1,m2⟩:=k3.resolve_left hm0
        have hpos:0 <m.length:=List.length_pos_iff.2 hm0
        have h63:(m.length:Int)<=9223372036854775807:=by
         have:=Nat.le_trans (Nat.le_mul_of_pos_right m.length (by rw [g4];exact hb0)) hbig
         omega
        have hrun:=run_append_nil (P:=P) w t ty el ti zv hu g1 g2 ⟨blk,off,none⟩ m.length cp us (by rw [gv,hsz']) (At.cell m1 m2) hpos h63 (by omega)
        have hg:=grownCap_ge w m.length 0 el
        obtain ⟨R',cr⟩:=ng hT h (dst:=some d) (el:=el) (w1:=w.drew) (cells:=us.toArray++Builtin.zeroCells zv.cells (grownCap w m.length 0 el - m.length)) (cap:=grownCap w m.length 0 el) rfl ⟨Nat.le_refl _,rfl,rfl,rfl,(by first|exact Nat.le_refl _|exact Nat.le_succ _|exact Nat.le_add_right _ _)⟩ he (λ c u hu=>by
         have hc:c <us.length:=by
          rcases Nat.lt_or_ge c us.length with g|g
          ·exact g
          ·rw [List.getElem?_eq_none g] at hu;cases hu
         rw [Nat.zero_add,Array.getElem?_append_left (by simpa using hc)]
         simpa using hu) k2 hg (by
          simp only [Array.size_append,List.size_toArray,size_zeroCells,hzs,gv,hsz', <-Nat.add_mul]
          exact Nat.mul_le_mul_right _ (by omega))
        exact ⟨_,_,R',hrun,cr⟩
      ·cases he
     ·cases he
    ·cases he
   ·cases he
 ·cases he
omit hT in
theorem lX {α:Type} {l m:List α} {lo n:Nat} (h:lo+n<=l.length) (q:Nat):(fS l m lo n)[q]?=if q <lo then l[q]? else if q <lo+min n m.length then m[q - lo]? else l[q]?:=by
 unfold fS
 have hk:(m.take n).length=min n m.length:=by simp
 have hl:(l.take lo).length=lo:=by simp;omega
 by_cases q1:q <lo
 ·rw [if_pos q1,List.append_assoc,List.getElem?_append_left (by omega),List.getElem?_take,if_pos q1]
 ·rw [if_neg q1]
  by_cases q2:q <lo+min n m.length
  ·rw [if_pos q2,List.append_assoc,List.getElem?_append_right (by omega),List.getElem?_append_left (by omega),hl,List.getElem?_take,if_pos (by omega)]
  ·rw [if_neg q2,List.getElem?_append_right (by simp only [List.length_append];omega),List.getElem?_drop]
   simp only [List.length_append,hk,hl]
   rw [show lo+min n m.length+(q - (lo+min n m.length))=q by omega]
omit hT in
theorem gf {α:Type} {l m:List α} {lo n:Nat} (h:lo+n<=l.length):(fS l m lo n).length=l.length:=by
 unfold fS
 simp only [List.length_append,List.length_take,List.length_drop]
 omega
theorem u5 (h:Inv w0 Fz av Lo R Pr σ a w) {t t' ty el:TypeId} {it:TI} (hit:T.get t=some it) (hd:it.d=.slice el) {d s:C} {e:bK} {dst:Option Nat} {dv sv:Value} (he:oZ T σ.ob el d s=some e) (yL:au w R Pr d dv) (CG:au w R Pr s sv):
 ∃u w' R',(Builtin.copy_ #[t, t'] ty #[dv, sv]).run P w=.ok u w'/\Inv w0 Fz av Lo R' Pr (σ.ef dst e) (a.put dst u) w':=by
 have hu:=bY hT hit hd
 unfold oZ at he
 split at he
 ·rename_i i κ lo n hi hpart
  split at he
  ·rename_i bp l aj
   split at he
   ·rename_i acc m hm
    split at he
    ·rename_i aY
     obtain ⟨hn1,hs1⟩:=aY
     cases he
     obtain ⟨A,cp,us,rfl,k2,k3,k4⟩:=oJ hT h hm CG
     have gv:=k2.len
     rw [hn1,Nat.mul_one] at gv
     obtain ⟨ti,g1,g2,_,_⟩:=dM hT hi
     have hsz:(P.info? el).map (·.size)=some 1:=by rw [g1];simp [g2,hs1]
     obtain ⟨h0,h1⟩:=h.ob κ _ aj
     have BN:lo+n<=l.length/\∃Ad cd,dv=.slice Ad n cd/\(n≠0->∃o m0 c',(R κ).aF=.slice (some ⟨(R κ).blk,o,none⟩) m0 c'/\Ad=some ⟨(R κ).blk,o+lo,none⟩):=by
      unfold partOf at hpart
      split at hpart
      ·rename_i af
       split at hpart
       ·rename_i e2 l2 yT
        cases hpart
        rw [aj] at yT
        cases yT
        refine ⟨by omega,(R κ).lJ,(R κ).cap,by rw [show dv=(R κ).aF from yL,RL.aF,h0],λ hn=> ?_⟩
        rcases h1 with ⟨_,rfl⟩|⟨off,cap,cells,dm,q2,q3,_⟩
        ·simp at hn
        ·refine ⟨off,_,_,q2, ?_⟩
         have:=q2;simp only [RL.aF] at this;injection this
       ·cases hpart
      ·rename_i af sz lo' n'
       split at hpart
       ·rename_i hs
        rw [Nat.beq_eq] at hs
        cases hpart
        subst hs
        obtain ⟨q1,Ad,c,q2,q3⟩:=yL
        refine ⟨by omega,Ad,c,q2,λ hn=> ?_⟩
        obtain ⟨o,m0,c',q4,q5⟩:=q3 hn
        exact ⟨o,m0,c',q4,by rw [q5,Nat.mul_one]⟩
       ·cases hpart
      ·cases hpart
     obtain ⟨hlo,Ad,cd,rfl,zQ⟩:=BN
     by_cases hk:Nat.min m.length n=0
     ·have hcl:fS l m lo n=l:=by
       apply List.ext_getElem?
       intro q
       rw [lX hlo]
       have:min n m.length=0:=by
        have:Nat.min m.length n=min m.length n:=rfl
        omega
       rw [this]
       split
       ·rfl
       ·rw [if_neg (by omega)]
      refine ⟨_,w,R,run_copy_none (P:=P) w t t' ty el Ad A n cd m.length cp hu hsz hk, ?_⟩
      rw [hcl]
      have h6:=h.upd κ _ (.vec bp l) aj (w':=w) (R':=R) (λ _ _=>rfl) (.inl rfl) (λ _ _ _=>rfl) (Grow.refl _) (λ aq=>.inr ⟨aq,rfl⟩) (h.ob κ _ aj) (λ af aD=>by cases aD)
      refine h6.put dst _ (goInt 0) ?_ (λ κ aa=>by cases aa)
      show goInt 0=.int .i64 _
      have:min n m.length=0:=by
       have:Nat.min m.length n=min m.length n:=rfl
       omega
      rw [this];rfl
     ·have hk':0 <min m.length n:=by
       have:Nat.min m.length n=min m.length n:=rfl
       omega
      obtain ⟨o,m0,c',q4,rfl⟩:=zQ (by omega)
      rcases k3 with rfl|⟨zD,off2,Cc,sM,Df,rfl,k6,k7⟩
      ·simp at hk'
      rcases h1 with ⟨h1,_⟩|⟨off,cap,cells,dm,h1,h2,h3,h4,h5⟩
      ·rw [h1] at q4;cases q4
      ·have e1:off=o:=by rw [h1] at q4;injection q4 with q4 _ _;injection q4 with q4;injection q4
       subst e1
       rw [hn1,Nat.mul_one] at h4
       generalize hcs:us.take (min n m.length)=cs
       have hcl:cs.length=min n m.length:=by rw [<-hcs];simp;omega
       have zS:cs.length=Nat.min m.length n:=by
        have:Nat.min m.length n=min m.length n:=rfl
        omega
       have hsrc:∀j v,cs[j]?=some v->w.cell? ((⟨zD,off2,none⟩:Addr).add j)=some v:=λ j v hj=>by
        rw [<-hcs,List.getElem?_take] at hj
        split at hj
        ·exact At.cell k6 k7 j v hj
        ·cases hj
       have hfit:off+lo+cs.length<=cells.size:=by omega
       have hone:∀v∈cs,v.oneCell'=true:=λ v hv=>k2.qD v (by rw [<-hcs] at hv;exact List.mem_of_mem_take hv)
       have hrun:=run_copy_row (P:=P) w t t' ty el (R κ).blk (off+lo) n cd ⟨zD,off2,none⟩ m.length cp cells dm cs hu hsz h3 zS hsrc hfit hone
       generalize eW:(cells.toList.take (off+lo)++cs++cells.toList.drop (off+lo+cs.length))=cur at hrun
       have aq:real R κ (.vec bp l):=λ z=>by rw [z] at h1;cases h1
       have bw:∀b,b≠(R κ).blk->(w.setRow (R κ).blk cur.toArray).heap[b]?=w.heap[b]?:=λ b hb=>setRow_other w _ b _ hb
       have eE:∀b,Pr b->b≠(R κ).blk:=λ b hb e=>(h.un κ _ aj aq).1 (e▸hb)
       have ku:cur.length=cells.size:=by
        rw [<-eW]
        simp only [List.length_append,List.length_take,List.length_drop,Array.length_toList]
        omega
       have bG:∀q,cur[q]?=if q <off+lo then cells[q]? else if q <off+lo+cs.length then cs[q - (off+lo)]? else cells[q]?:=λ q=>by
        rw [<-eW]
        by_cases q1:q <off+lo
        ·rw [if_pos q1,List.append_assoc,List.getElem?_append_left (by simp;omega),List.getElem?_take,if_pos q1];simp
        ·rw [if_neg q1]
         have dz:(cells.toList.take (off+lo)).length=off+lo:=by simp;omega
         by_cases q2:q <off+lo+cs.length
         ·rw [if_pos q2,List.append_assoc,List.getElem?_append_right (by omega),List.getElem?_append_left (by omega),dz]
         ·rw [if_neg q2,List.getElem?_append_right (by simp only [List.length_append,dz];omega),List.getElem?_drop]
          simp only [List.length_append,dz]
          rw [show off+lo+cs.length+(q - (off+lo+cs.length))=q by omega]
          simp
       refine ⟨_,_,R,hrun, ?_⟩
       have h6:=h.upd κ _ (.vec bp (fS l m lo n)) aj (w':=w.setRow (R κ).blk cur.toArray) (R':=R) (λ _ _=>rfl) (.inl rfl)
        (λ b hb hne=>bw b (hne aq)) ⟨by simp,rfl,rfl,rfl,(by first|exact Nat.le_refl _|exact Nat.le_succ _|exact Nat.le_add_right _ _)⟩ (λ _=>.inr ⟨aq,rfl⟩) ?_ (λ af aD=>by cases aD)
       ·refine h6.put dst _ (goInt cs.length) ?_ (λ κ aa=>by cases aa)
        show goInt cs.length=.int .i64 _
        rw [hcl];rfl
       ·refine ⟨by rw [gf hlo];exact h0,.inr ⟨off,cap,cur.toArray,dm,by rw [gf hlo];exact h1,by rw [gf hlo];exact h2,dL w _ h3,by simp [ku,hn1];exact h4,λ q z hz=> ?_⟩⟩
        rw [lX hlo] at hz
        have old:(q <lo\/lo+min n m.length<=q)->l[q]?=some z->∃us',At cur.toArray (off+q * bp.n) us'/\ay (w.setRow (R κ).blk cur.toArray) Pr bp z us':=λ hq hz=>by
         obtain ⟨us',m1,m2⟩:=h5 q z hz
         have hm2:=m2.len
         refine ⟨us',λ c u hu=> ?_,m2.move (λ b hb=>bw b (eE b hb)) (λ _ h=>h)⟩
         have hc:c <us'.length:=by
          rcases Nat.lt_or_ge c us'.length with g|g
          ·exact g
          ·rw [List.getElem?_eq_none g] at hu;cases hu
         have:=m1 c u hu
         rw [hn1,Nat.mul_one] at this ⊢
         simp only [List.getElem?_toArray]
         rw [bG]
         rcases hq with hq|hq
         ·rw [if_pos (by omega)];exact this
         ·rw [if_neg (by omega),if_neg (by omega)];exact this
        split at hz
        ·exact old (.inl (by omega)) hz
        ·rename_i q1
         split at hz
         ·rename_i q2
          obtain ⟨us',m1,m2⟩:=aS.idx (cells:=us.toArray) (off:=0) k2 (λ c u hu=>by simpa using hu) (q - lo) z hz
          have hm2:=m2.len
          refine ⟨us',λ c u hu=> ?_,m2.move (λ b hb=>bw b (eE b hb)) (λ _ h=>h)⟩
          have hc:c <us'.length:=by
           rcases Nat.lt_or_ge c us'.length with g|g
           ·exact g
           ·rw [List.getElem?_eq_none g] at hu;cases hu
          have:=m1 c u hu
          rw [hn1,Nat.mul_one] at this ⊢
          have hc0:c=0:=by omega
          subst hc0
          simp only [List.getElem?_toArray,Nat.add_zero,Nat.zero_add] at this ⊢
          rw [bG,if_neg (by omega),if_pos (by omega), <-hcs,List.getElem?_take,if_pos (by omega),show off+q - (off+lo)=q - lo by omega]
          exact this
         ·exact old (.inr (by omega)) hz
    ·cases he
   ·cases he
  ·cases he
 ·cases he
omit hT in
theorem wq {α:Type} (l:List α) (y:α) (lo n:Nat):xV l y lo n=fS l (List.replicate n y) lo n:=by
 unfold xV fS
 simp
theorem tW (h:Inv w0 Fz av Lo R Pr σ a w) {t ty el:TypeId} {it:TI} (hit:T.get t=some it) (hd:it.d=.slice el) {d:C} {e:bK} {dst:Option Nat} {dv:Value} (he:nu T σ.ob el d=some e) (yL:au w R Pr d dv):
 ∃u w' R',(Builtin.clear_ #[t] ty #[dv]).run P w=.ok u w'/\Inv w0 Fz av Lo R' Pr (σ.ef dst e) (a.put dst u) w':=by
 have hu:=bY hT hit hd
 unfold nu at he
 split at he
 ·rename_i κ sz lo n
  split at he
  ·rename_i i bp l hi aj
   split at he
   ·rename_i b z hz
    split at he
    ·rename_i aY
     obtain ⟨hn1,hs1,hzl⟩:=aY
     split at he
     ·rename_i y hy
      cases he
      subst hs1
      obtain ⟨ti,zv,g1,g2,g3,g4,g5,g6⟩:=fc hT hi hz w R Pr
      have hzs:zv.cells.size=i.size:=by have:=g5.length;simp only [Array.length_toList] at this;omega
      obtain ⟨u1,u2,dw,hy1,hy2⟩:=c8 hy g5
      have eP:u2=[]:=by
       cases u2 with
       |nil=>rfl
       |cons _ _=>exact hy2.elim
      subst eP
      simp only [List.append_nil] at dw
      have hrows:∀k,aS w Pr bp (List.replicate k y) (eB k zv.cells.toList):=λ k=>by
       induction k with
       |zero=>rfl
       |succ k ih=>exact ⟨_,_,rfl,by rw [dw];exact hy1,ih⟩
      have CQ:(Builtin.zeroCells zv.cells n).toList=eB n zv.cells.toList:=by rw [<-iU];rfl
      obtain ⟨h0,h1⟩:=h.ob κ _ aj
      obtain ⟨hlo,Ad,cd,rfl,zQ⟩:=yL
      rw [h0] at hlo
      rw [wq]
      have hmn:min n (List.replicate n y).length=n:=by simp
      have A0:n=0->fS l (List.replicate n y) lo n=l:=λ hk=>by
       subst hk
       simp [fS]
      by_cases hk:n=0
      ·refine ⟨.tuple #[], w,R, ?_, ?_⟩
       ·subst hk
        cases Ad<;>simp [Builtin.clear_,run_underlying hu]
       ·rw [A0 hk]
        have h6:=h.upd κ _ (.vec bp l) aj (w':=w) (R':=R) (λ _ _=>rfl) (.inl rfl) (λ _ _ _=>rfl) (Grow.refl _) (λ aq=>.inr ⟨aq,rfl⟩) (h.ob κ _ aj) (λ af aD=>by cases aD)
        exact h6.put dst bA _ trivial (λ κ aa=>by cases aa)
      ·obtain ⟨o,m0,c',q4,rfl⟩:=zQ hk
       rcases h1 with ⟨h1,_⟩|⟨off,cap,cells,dm,h1,h2,h3,h4,h5⟩
       ·rw [h1] at q4;cases q4
       ·have e1:off=o:=by rw [h1] at q4;injection q4 with q4 _ _;injection q4 with q4;injection q4
        subst e1
        generalize fD:eB n zv.cells.toList=us at *
        have gv:us.length=n * i.size:=by rw [<-fD,oF];simp [hzs]
        rw [hn1] at h4
        have hle:(lo+n) * i.size<=cap * i.size:=Nat.mul_le_mul_right _ (by omega)
        rw [Nat.add_mul] at hle
        have hfit:off+lo * i.size+0+us.length<=cells.size:=by omega
        have hone:∀v∈us,v.oneCell'=true:=λ v hv=>(hrows n).qD v (by rw [fD];exact hv)
        have hst:=run_storeCells_at P (R κ).blk (off+lo * i.size) dm us 0 cells w h3 hfit hone
        have hrun:(Builtin.clear_ #[t] ty #[.slice (some ⟨(R κ).blk,off+lo * i.size,none⟩) n cd]).run P w=.ok (.tuple #[]) (w.setRow (R κ).blk (cells.toList.take (off+lo * i.size)++us++cells.toList.drop (off+lo * i.size+us.length)).toArray):=by
         cases n with
         |zero=>exact (hk rfl).elim
         |succ n=>
          simp only [Nat.add_zero] at hst
          simp [Builtin.clear_,run_underlying hu,zeroValue,typeInfo,g1,g2,CQ,hst]
        generalize eW:(cells.toList.take (off+lo * i.size)++us++cells.toList.drop (off+lo * i.size+us.length))=cur at hrun
        have aq:real R κ (.vec bp l):=λ z=>by rw [z] at h1;cases h1
        have bw:∀b,b≠(R κ).blk->(w.setRow (R κ).blk cur.toArray).heap[b]?=w.heap[b]?:=λ b hb=>setRow_other w _ b _ hb
        have eE:∀b,Pr b->b≠(R κ).blk:=λ b hb e=>(h.un κ _ aj aq).1 (e▸hb)
        have ku:cur.length=cells.size:=by
         rw [<-eW]
         simp only [List.length_append,List.length_take,List.length_drop,Array.length_toList]
         omega
        have bG:∀q,cur[q]?=if q <off+lo * i.size then cells[q]? else if q <off+lo * i.size+us.length then us[q - (off+lo * i.size)]? else cells[q]?:=λ q=>by
         rw [<-eW]
         by_cases q1:q <off+lo * i.size
         ·rw [if_pos q1,List.append_assoc,List.getElem?_append_left (by simp;omega),List.getElem?_take,if_pos q1];simp
         ·rw [if_neg q1]
          have dz:(cells.toList.take (off+lo * i.size)).length=off+lo * i.size:=by simp;omega
          by_cases q2:q <off+lo * i.size+us.length
          ·rw [if_pos q2,List.append_assoc,List.getElem?_append_right (by omega),List.getElem?_append_left (by omega),dz]
          ·rw [if_neg q2,List.getElem?_append_right (by simp only [List.length_append,dz];omega),List.getElem?_drop]
           simp only [List.length_append,dz]
           rw [show off+lo * i.size+us.length+(q - (off+lo * i.size+us.length))=q by omega]
           simp
        refine ⟨_,_,R,hrun, ?_⟩
        have h6:=h.upd κ _ (.vec bp (fS l (List.replicate n y) lo n)) aj (w':=w.setRow (R κ).blk cur.toArray) (R':=R) (λ _ _=>rfl) (.inl rfl)
         (λ b hb hne=>bw b (hne aq)) ⟨by simp,rfl,rfl,rfl,(by first|exact Nat.le_refl _|exact Nat.le_succ _|exact Nat.le_add_right _ _)⟩ (λ _=>.inr ⟨aq,rfl⟩) ?_ (λ af aD=>by cases aD)
        ·exact h6.put dst bA _ trivial (λ κ aa=>by cases aa)
        ·refine ⟨by rw [gf hlo];exact h0,.inr ⟨off,cap,cur.toArray,dm,by rw [gf hlo];exact h1,by rw [gf hlo];exact h2,dL w _ h3,by simp [ku,hn1];exact h4,λ q x hx=> ?_⟩⟩
         rw [lX hlo,hmn] at hx
         have old:(q <lo\/lo+n<=q)->l[q]?=some x->∃us',At cur.toArray (off+q * bp.n) us'/\ay (w.setRow (R κ).blk cur.toArray) Pr bp x us':=λ hq hx=>by
          obtain ⟨us',m1,m2⟩:=h5 q x hx
          have hm2:=m2.len
          refine ⟨us',λ c u hu=> ?_,m2.move (λ b hb=>bw b (eE b hb)) (λ _ h=>h)⟩
          have hc:c <us'.length:=by
           rcases Nat.lt_or_ge c us'.length with g|g
           ·exact g
           ·rw [List.getElem?_eq_none g] at hu;cases hu
          have:=m1 c u hu
          rw [hn1] at this hm2 ⊢
          simp only [List.getElem?_toArray]
          rw [bG]
          rcases hq with hq|hq
          ·have:(q+1) * i.size<=lo * i.size:=Nat.mul_le_mul_right _ hq
           rw [Nat.add_mul] at this
           rw [if_pos (by omega)];assumption
          ·have:(lo+n) * i.size<=q * i.size:=Nat.mul_le_mul_right _ hq
           rw [Nat.add_mul] at this
           rw [if_neg (by omega),if_neg (by omega)];assumption
         split at hx
         ·exact old (.inl (by assumption)) hx
         ·rename_i q1
          split at hx
          ·rename_i q2
           obtain ⟨us',m1,m2⟩:=aS.idx (cells:=us.toArray) (off:=0) (fD▸hrows n) (λ c u hu=>by simpa using hu) (q - lo) x hx
           have hm2:=m2.len
           refine ⟨us',λ c u hu=> ?_,m2.move (λ b hb=>bw b (eE b hb)) (λ _ h=>h)⟩
           have hc:c <us'.length:=by
            rcases Nat.lt_or_ge c us'.length with g|g
            ·exact g
            ·rw [List.getElem?_eq_none g] at hu;cases hu
           have:=m1 c u hu
           rw [hn1] at this hm2 ⊢
           simp only [List.getElem?_toArray,Nat.zero_add] at this ⊢
           have r1:(q - lo+1) * i.size<=n * i.size:=Nat.mul_le_mul_right _ (by omega)
           have r2:q * i.size=lo * i.size+(q - lo) * i.size:=by rw [<-Nat.add_mul];congr 1;omega
           rw [Nat.add_mul] at r1
           rw [bG,if_neg (by omega),if_pos (by omega),show off+q * i.size+c - (off+lo * i.size)=(q - lo) * i.size+c by omega]
           exact this
          ·exact old (.inr (by omega)) hx
     ·cases he
    ·cases he
   ·cases he
  ·cases he
 ·cases he
end
end Go.Rx
