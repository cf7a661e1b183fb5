/- Reflection, part D: what the operations that yield a value do in the machine. -/
import Derived.Test.YthfjdcdbimjkjaaRxC
import Derived.Laws.Cells
import Derived.Laws.CopyRow
set_option linter.unusedVariables false
set_option linter.unusedSimpArgs false
set_option linter.unusedSectionVars false
namespace Go.Rx
section
variable {P:Program} {T:bh} (hT:bA P T)
include hT
theorem ga {t:TypeId} {i:TI} (h:T.get t=some i):∃ti d,P.info? t=some ti/\P.underlying t=some d/\i=⟨dM d,ti.size,ti.bytes,ti.zero.bind zeroOf,sH P t d⟩:=xg (hT.get h)
theorem bQ {t:TypeId} {i:TI} (h:T.get t=some i) (w:World):(sizeOf t).run P w=.ok i.size w:=by
 obtain ⟨ti,d,h1,h2,rfl⟩:=ga hT h
 simp [sizeOf,typeInfo,h1]
theorem dL {t:TypeId} {i:TI} (h:T.get t=some i):∃ti,P.info? t=some ti/\ti.size=i.size/\ti.bytes=i.bytes/\i.zero=ti.zero.bind zeroOf:=by
 obtain ⟨ti,d,h1,h2,rfl⟩:=ga hT h
 exact ⟨ti,h1,rfl,rfl,rfl⟩
theorem cm {t:TypeId} {i:TI} (h:T.get t=some i):∃d,P.underlying t=some d/\i.d=dM d:=by
 obtain ⟨ti,d,h1,h2,rfl⟩:=ga hT h
 exact ⟨d,h2,rfl⟩
theorem iV {t:TypeId} {i:TI} {fs:List (Nat×TypeId)} (h:T.get t=some i) (hd:i.d=.struct fs):∃gs:Array Field,P.underlying t=some (.struct gs)/\fs=gs.toList.map λ f=>(f.offset,f.type):=by
 obtain ⟨d,h1,h2⟩:=cm hT h
 rw [hd] at h2
 cases d<;>simp only [dM] at h2<;>cases h2
 exact ⟨_,h1,rfl⟩
theorem bX {t e:TypeId} {i:TI} (h:T.get t=some i) (hd:i.d=.slice e):P.underlying t=some (.slice e):=by
 obtain ⟨d,h1,h2⟩:=cm hT h
 rw [hd] at h2
 cases d<;>simp only [dM] at h2<;>cases h2
 exact h1
theorem iD {t e:TypeId} {n:Nat} {i:TI} (h:T.get t=some i) (hd:i.d=.array n e):P.underlying t=some (.array n e):=by
 obtain ⟨d,h1,h2⟩:=cm hT h
 rw [h2] at hd
 cases d<;>simp [dM] at hd
 obtain ⟨rfl,rfl⟩:=hd
 exact h1
theorem jh {t:TypeId} {k:IntKind} {i:TI} (h:T.get t=some i) (hd:i.d=.int k):P.underlying t=some (.int k):=by
 obtain ⟨d,h1,h2⟩:=cm hT h
 rw [hd] at h2
 cases d<;>simp only [dM] at h2<;>cases h2
 exact h1
theorem nH {t:TypeId} {i:TI} (h:T.get t=some i) (w:World):(isAgg t).run P w=.ok i.d.agg w:=by
 obtain ⟨d,h1,h2⟩:=cm hT h
 rw [h2]
 cases d<;>simp [isAgg,run_underlying h1,dM,TD.agg]
end
theorem ew (b o n:Nat):(⟨b,o,none⟩:Addr).add n=⟨b,o+n,none⟩:=by unfold Addr.add;split<;>simp_all
theorem bL:∀(e:Ty) (x:e.D),∀c∈e.cells x,c.refs=[]
 | .int _,_,c,h=>by simp [Ty.cells] at h;subst h;rfl
 | .bool,_,c,h=>by simp [Ty.cells] at h;subst h;rfl
 | .str,_,c,h=>by simp [Ty.cells] at h;subst h;rfl
 | .pair a b,x,c,h=>by
   rcases List.mem_append.1 h with h|h
   ·exact bL a x.1 c h
   ·exact bL b x.2 c h
 | .sl _ _,_,c,h=>by simp [Ty.cells] at h;subst h;rfl
 | .fn _,_,c,h=>by simp [Ty.cells] at h;subst h;rfl
 | .ptr _,_,c,h=>by simp [Ty.cells] at h;subst h;rfl
 | .cL _ _,_,c,h=>by simp [Ty.cells] at h;subst h;rfl
 | .map _ _,_,c,h=>by simp [Ty.cells] at h;subst h;rfl
theorem p8 {k:Nat}:∀{c c':C},dW k c=some c'->c'.refs=c.refs:=λ {c}=>by
 induction c with
 |jm c n sz i ih=>
  intro c' h
  simp only [dW] at h
  split at h
  ·rename_i c1 h1;cases h;exact (ih h1:c1.refs=c.refs)
  ·cases h
 |_=>intro c' h;simp [dW] at h<;>subst h<;>rfl
theorem mQ {w:World} {R:Nat->RL} {Pr:Nat->Prop} {k:Nat}:∀{c c':C} {v:Value},dW k c=some c'->au w R Pr c v->∃b o,v=.pointer (some ⟨b,o,none⟩)/\au w R Pr c' (.pointer (some ⟨b,o+k,none⟩)):=λ {c}=>by
 induction c with
 |ptr κ off=>intro c' v h hc;simp [dW] at h;subst h;exact ⟨_,_,hc,rfl⟩
 |dN κ sz j off=>
  intro c' v h hc;simp [dW] at h;subst h
  obtain ⟨h1,o,n,q,h2,h3⟩:=hc
  exact ⟨_,_,h3,h1,o,n,q,h2,by rw [Nat.add_assoc]⟩
 |fE e x off=>
  intro c' v h hc;simp [dW] at h;subst h
  obtain ⟨blk,o,cells,el,fr,us,h1,h2⟩:=hc
  exact ⟨_,_,h1,blk,o,cells,el,fr,us,by rw [Nat.add_assoc],h2⟩
 |jm c n sz i ih=>
  intro c' v h hc
  simp only [dW] at h
  split at h
  ·rename_i c1 h1
   cases h
   obtain ⟨g1,b,o,g2,g3⟩:=hc
   obtain ⟨b',o',e,g4⟩:=ih h1 g2
   cases e
   exact ⟨_,_,g3,g1,b,o+k,g4,by rw [Nat.add_right_comm]⟩
  ·cases h
 |_=>intro c' v h;simp [dW] at h
theorem oz {k:IntKind}:∀{cs:List C} {l:List Int},eA k cs=some l->∀{i:Nat} {c:C},cs[i]?=some c->c=.int k (l.getD i 0)
 | [],l,h,i,c,hc=>by simp at hc
 |c0::r,l,h,i,c,hc=>by
  cases c0 with
  |int k' n=>
   simp only [eA] at h
   split at h
   ·rename_i e
    subst e
    obtain ⟨m,hm,rfl⟩:=Option.map_eq_some_iff.1 h
    cases i with
    |zero=>simp at hc;subst hc;rfl
    |succ i=>simpa using oz hm (i:=i) (by simpa using hc)
   ·cases h
  |_=>simp [eA] at h
theorem tI {w:World} {R:Nat->RL} {Pr:Nat->Prop} {i:Nat} {cs:List C} {c ci:C} {v:Value} (h:vM i cs=some c) (hi:cs[i]?=some ci) (hr:au w R Pr ci v):au w R Pr c v/\c.refs=[]:=by
 unfold vM at h
 split at h
 ·rename_i k n r
  obtain ⟨l,hl,rfl⟩:=Option.map_eq_some_iff.1 h
  have:=oz hl hi
  subst this
  exact ⟨hr,rfl⟩
 ·cases h
theorem tr:∀{xs:List Cp} {cs:List C},pX xs=some cs->∀{i:Nat} {x:Cp},xs[i]?=some x->∃c,x=.one c/\cs[i]?=some c
 | [],cs,h,i,x,hx=>by simp at hx
 |x0::r,cs,h,i,x,hx=>by
  cases x0 with
  |one c=>
   simp only [pX] at h
   obtain ⟨m,hm,rfl⟩:=Option.map_eq_some_iff.1 h
   cases i with
   |zero=>simp at hx;subst hx;exact ⟨c,rfl,rfl⟩
   |succ i=>simpa using tr hm (i:=i) (by simpa using hx)
  |agg _=>simp [pX] at h
theorem tF:∀{xs:List Cp} {rows:List (List C)},p5 xs=some rows->∀{i:Nat} {x:Cp},xs[i]?=some x->∃cs,x=.agg cs/\rows[i]?=some cs
 | [],rows,h,i,x,hx=>by simp at hx
 |x0::r,rows,h,i,x,hx=>by
  cases x0 with
  |agg c=>
   simp only [p5] at h
   obtain ⟨m,hm,rfl⟩:=Option.map_eq_some_iff.1 h
   cases i with
   |zero=>simp at hx;subst hx;exact ⟨c,rfl,rfl⟩
   |succ i=>simpa using tF hm (i:=i) (by simpa using hx)
  |one _=>simp [p5] at h
theorem n9 {w:World} {R:Nat->RL} {Pr:Nat->Prop} {i:Nat} {rows:List (List C)} {row:List C} (hi:rows[i]?=some row) {us:List Value} (hr:an (au w R Pr) row us):∀{n:Nat} {cs:List C},kC i rows n=some cs->n<=row.length->an (au w R Pr) cs (us.take n)/\∀c∈cs,c.refs=[]
 | 0,cs,h,_=>by simp only [kC] at h;cases h;exact ⟨by simp [an],λ c hc=>by cases hc⟩
 |n+1,cs,h,hn=>by
  simp only [kC] at h
  split at h
  ·rename_i zo c h1 h2
   cases h
   obtain ⟨g1,g2⟩:=n9 hi hr h1 (by omega)
   have hq:(rows.map λ r=>r.getD n .any)[i]?=some (row.getD n .any):=by rw [List.getElem?_map,hi];rfl
   have hrow:row[n]?=some (row.getD n .any):=by rw [List.getD_eq_getElem?_getD,List.getElem?_eq_getElem (by omega)];rfl
   obtain ⟨u,hu,mq⟩:=hr.get hrow
   obtain ⟨g3,g4⟩:=tI h2 hq mq
   have ht:us.take (n+1)=us.take n++[u]:=by rw [List.take_add_one,hu];rfl
   rw [ht]
   refine ⟨g1.append ⟨g3,trivial⟩,λ c' hc=> ?_⟩
   rcases List.mem_append.1 hc with hc|hc
   ·exact g2 c' hc
   ·rw [List.mem_singleton] at hc;subst hc;exact g4
  ·cases h
theorem rA {w:World} {R:Nat->RL} {Pr:Nat->Prop} {i:Nat} {xs:List Cp} {x xi:Cp} {v:Value} (h:rZ i xs=some x) (hi:xs[i]?=some xi) (hr:bf w R Pr xi v):bf w R Pr x v/\x.refs=[]:=by
 unfold rZ at h
 split at h
 ·rename_i cs0 r
  split at h
  ·rename_i rows hrows
   split at h
   ·rename_i hall
    obtain ⟨cs,hcs,rfl⟩:=Option.map_eq_some_iff.1 h
    obtain ⟨row,rfl,hrow⟩:=tF hrows hi
    obtain ⟨vs,rfl,hvs⟩:=hr
    have hl:row.length=cs0.length:=Nat.eq_of_beq_eq_true (List.all_eq_true.1 hall row (List.mem_of_getElem? hrow))
    obtain ⟨g1,g2⟩:=n9 hrow hvs hcs (by omega)
    refine ⟨⟨vs,rfl, ?_⟩, ?_⟩
    ·have hle:=hvs.length
     rw [List.take_of_length_le (by omega)] at g1
     exact g1
    ·show cs.flatMap C.refs=[]
     rw [List.flatMap_eq_nil_iff];exact g2
   ·cases h
  ·cases h
 ·split at h
  ·rename_i cs hcs
   obtain ⟨c,hc,rfl⟩:=Option.map_eq_some_iff.1 h
   obtain ⟨ci,rfl,wN⟩:=tr hcs hi
   exact tI hc wN hr
  ·cases h
theorem k8 {f:Nat->Option Out}:∀{n:Nat} {acc:List Nat} {xs:List Cp},iP f n=some (acc,xs)->xs.length=n/\∀j,j <n->∃a x,f j=some ⟨[],a,.cp x⟩/\xs[j]?=some x/\∀κ∈a,κ∈acc
 | 0,acc,xs,h=>by simp only [iP] at h;cases h;exact ⟨rfl,λ j hj=>by omega⟩
 |n+1,acc,xs,h=>by
  simp only [iP] at h
  split at h
  ·rename_i Bm l a x h1 h2
   cases h
   obtain ⟨g1,g2⟩:=k8 h1
   refine ⟨by simp [g1],λ j hj=> ?_⟩
   by_cases e:j=n
   ·subst e
    exact ⟨a,x,h2,by rw [<-g1];simp,λ κ aa=>List.mem_append_right _ aa⟩
   ·obtain ⟨a',x',k1,k2,k3⟩:=g2 j (by omega)
    exact ⟨a',x',k1,by rw [List.getElem?_append_left (by omega)];exact k2,λ κ aa=>List.mem_append_left _ (k3 κ aa)⟩
  ·cases h
theorem jd {P:Program} {T:bh} (hT:bA P T) {w:World} {R:Nat->RL} {Pr:Nat->Prop} {t:TypeId} {i:TI} (ht:T.get t=some i) {blk o off:Nat} {cells:Array Value} {el:TypeId} {fr:Nat×Nat} {us:List Value} {cs:List C} {x:Cp}
 (hb:w.heap[blk]?=some (.cells cells el fr)) (ha:At cells o us) (hr:an (au w R Pr) cs us) (hx:gD i cs off=some x):
 ∃u,(Instr.loadAt t (.pointer (some ⟨blk,o+off,none⟩))).run P w=.ok u w/\bf w R Pr x u/\∀κ∈x.refs,∃c∈cs,κ∈c.refs:=by
 have hlen:=hr.length
 have hone:∀(c:C),cs[off]?=some c->x=.one c->i.d≠ .other->i.d.agg=false->
  ∃u,(Instr.loadAt t (.pointer (some ⟨blk,o+off,none⟩))).run P w=.ok u w/\bf w R Pr x u/\∀κ∈x.refs,∃c∈cs,κ∈c.refs:=λ c hc hx _ hagg=>by
  subst hx
  obtain ⟨u,hu,mq⟩:=hr.get hc
  have hcell:w.cell? ⟨blk,o+off,none⟩=some u:=by simp [World.cell?,hb,ha off u hu]
  refine ⟨u, ?_,mq,λ κ aa=>⟨c,List.mem_of_getElem? hc,aa⟩⟩
  simp only [Instr.loadAt,Instr.sureAddr,Sem.run_bind,Sem.run_pure,Result.andThen_ok,loadVar,nH hT ht,hagg]
  simp [hcell]
 unfold gD at hx
 have pF:∀(h:off+i.size<=cs.length),x=.agg ((cs.drop off).take i.size)->i.d.agg=true->
  ∃u,(Instr.loadAt t (.pointer (some ⟨blk,o+off,none⟩))).run P w=.ok u w/\bf w R Pr x u/\∀κ∈x.refs,∃c∈cs,κ∈c.refs:=λ h hx hagg=>by
  subst hx
  have hl:((us.drop off).take i.size).length=i.size:=by simp;omega
  have vq:=run_loadCells_list (P:=P) w ⟨blk,o+off,none⟩ ((us.drop off).take i.size) (λ j v hj=>by
   rw [ew]
   have:=ha.drop (n:=off) |>.take (n:=i.size) j v hj
   simp [World.cell?,hb,this])
  rw [hl] at vq
  refine ⟨.agg ((us.drop off).take i.size).toArray, ?_,⟨_,rfl,by simpa using (hr.drop off).take i.size⟩,λ κ aa=> ?_⟩
  ·simp only [Instr.loadAt,Instr.sureAddr,Sem.run_bind,Sem.run_pure,Result.andThen_ok,loadVar,nH hT ht,hagg,bQ hT ht,vq]
   simp [bQ hT ht,vq]
  ·obtain ⟨c,hc,hk⟩:=List.mem_flatMap.1 aa
   exact ⟨c,List.mem_of_mem_drop (List.mem_of_mem_take hc),hk⟩
 split at hx
 ·rename_i fs hd
  split at hx
  ·rename_i h;exact pF h (Option.some.inj hx).symm (by rw [hd];rfl)
  ·cases hx
 ·rename_i n e hd
  split at hx
  ·rename_i h;exact pF h (Option.some.inj hx).symm (by rw [hd];rfl)
  ·cases hx
 ·cases hx
 ·rename_i h1 h2 h3
  split at hx
  ·rename_i c hc
   refine hone c hc (Option.some.inj hx).symm h3 ?_
   revert h1 h2
   generalize i.d=d
   intro h1 h2
   cases d<;>first|rfl|exact absurd rfl (h1 _)|exact absurd rfl (h2 _ _)
  ·cases hx
def cw (l:List DP):Prop:=∀x∈l,x.p
section
variable {P:Program} {T:bh} (hT:bA P T) {w:World} {R:Nat->RL} {Pr:Nat->Prop} {ob:Nat->Option Ob} (aj:∀κ o,ob κ=some o->az w R Pr κ o)
include hT aj
theorem lK {t:TypeId} {c:C} {v:Value} {out:Out} (h:fm T ob t c=some out) (hc:au w R Pr c v):
 ∃u,(Instr.loadAt t v).run P w=.ok u w/\aA w R Pr out.v u/\∀κ∈out.v.refs,∃af∈out.acc,∃o,ob af=some o/\κ∈o.refs:=by
 unfold fm at h
 split at h
 ·rename_i κ off
  split at h
  ·rename_i i cs hi ho
   split at h
   ·rename_i x hx
    cases h
    obtain ⟨el,vs,h1,h2⟩:=aj _ _ ho
    subst hc
    obtain ⟨u,k1,k2,k3⟩:=jd hT hi (o:=0) (us:=vs.toList) h1 (λ c u hu=>by simpa using hu) h2 hx
    refine ⟨u,by simpa using k1,k2,λ af aa=>⟨κ,by simp,_,ho, ?_⟩⟩
    obtain ⟨c,hc,hk⟩:=k3 af aa
    exact List.mem_flatMap.2 ⟨c,hc,hk⟩
   ·cases h
  ·rename_i i e x hi ho
   split at h
   ·rename_i y hy
    cases h
    obtain ⟨_,cells,el,fr,us,h1,h2,h3⟩:=aj _ _ ho
    subst hc
    obtain ⟨u,k1,k2,k3⟩:=jd hT hi (o:=0) (us:=us) h1 h2 (bu (R:=R) h3) hy
    exact ⟨u,by simpa using k1,k2,λ af aa=>by
     obtain ⟨c,hc,hk⟩:=k3 af aa
     rw [bL e _ c hc] at hk;cases hk⟩
   ·cases h
  ·cases h
 ·rename_i κ sz j off
  split at h
  ·rename_i i e l hi ho
   split at h
   ·rename_i hsz
    split at h
    ·rename_i x hx
     cases h
     obtain ⟨h0,h3⟩:=aj _ _ ho
     obtain ⟨hj,o,n,c,hh,rfl⟩:=hc
     rcases h3 with ⟨h3,_⟩|⟨off1,cap,cells,el,h3,h4,h5,h6,h7⟩
     ·rw [h3] at hh;cases hh
     ·rw [h3] at hh;cases hh
      rw [h0] at hj
      obtain ⟨us,k1,k2⟩:=h7 j l[j] (List.getElem?_eq_getElem hj)
      have hg:l.getD j e.z=l[j]:=by rw [List.getD_eq_getElem?_getD,List.getElem?_eq_getElem hj];rfl
      rw [hg] at hx
      rw [hsz] at k1
      obtain ⟨u,k3,k4,k5⟩:=jd hT hi h5 k1 (bu (R:=R) k2) hx
      exact ⟨u,k3,k4,λ af aa=>by
       obtain ⟨c,hc,hk⟩:=k5 af aa
       rw [bL e _ c hc] at hk;cases hk⟩
    ·cases h
   ·cases h
  ·cases h
 ·rename_i e x off
  split at h
  ·rename_i i hi
   split at h
   ·rename_i y hy
    cases h
    obtain ⟨blk,o,cells,el,fr,us,rfl,h2,h3,h4,h5⟩:=hc
    obtain ⟨u,k3,k4,k5⟩:=jd hT hi h3 h4 (bu (R:=R) h5) hy
    exact ⟨u,k3,k4,λ af aa=>by
     obtain ⟨c,hc,hk⟩:=k5 af aa
     rw [bL e _ c hc] at hk;cases hk⟩
   ·cases h
  ·cases h
 ·cases h
theorem l5 {t:TypeId} {c:C} {v:Value} {out:Out} (h:h9 T ob t c=some out) (hc:au w R Pr c v):
 ∃u,(Instr.loadAt t v).run P w=.ok u w/\aA w R Pr out.v u/\∀κ∈out.v.refs,∃af∈out.acc,∃o,ob af=some o/\κ∈o.refs:=by
 unfold h9 at h
 split at h
 ·rename_i c n sz i
  split at h
  ·rename_i acc xs hm
   obtain ⟨x,hx,rfl⟩:=Option.map_eq_some_iff.1 h
   obtain ⟨g1,g2⟩:=k8 hm
   obtain ⟨hi,b,o,hcb,rfl⟩:=hc
   obtain ⟨a,y,k1,k2,k3⟩:=g2 i hi
   obtain ⟨c',hs,hl⟩:=Option.bind_eq_some_iff.1 k1
   obtain ⟨b',o',e,kg⟩:=mQ hs hcb
   cases e
   obtain ⟨u,m1,m2,_⟩:=lK hT aj hl kg
   obtain ⟨m3,m4⟩:=rA hx k2 m2
   exact ⟨u,m1,m3,λ κ aa=>by
    have aa:κ∈x.refs:=aa
    rw [m4] at aa;cases aa⟩
  ·cases h
 ·exact lK hT aj h hc
theorem nI {s:TypeId} {f:Nat} {c:C} {v:Value} {out:Out} (h:j3 T s f c=some out) (hc:au w R Pr c v):
 ∃u,(Instr.fieldAt s v f).run P w=.ok u w/\aA w R Pr out.v u/\∀κ∈out.v.refs,κ∈c.refs:=by
 unfold j3 at h
 split at h
 ·rename_i o ft hf
  unfold j9 at hf
  split at hf
  ·rename_i i hi
   split at hf
   ·rename_i fs hd
    obtain ⟨gs,hg1,hg2⟩:=iV hT hi hd
    rw [hg2,List.getElem?_map] at hf
    obtain ⟨fd,qX,he⟩:=Option.map_eq_some_iff.1 hf
    cases he
    have xU:gs[f]?=some fd:=by simpa using qX
    split at h
    ·rename_i i2 hi2
     split at h
     ·cases h
     ·rename_i hsz
      have key:∀(b o1:Nat),v=.pointer (some ⟨b,o1,none⟩)->(Instr.fieldAt s v f).run P w=.ok (.pointer (some ⟨b,o1+fd.offset,none⟩)) w:=λ b o1 hv=>by
       subst hv
       simp [Instr.fieldAt,run_underlying hg1,xU,Instr.sureAddr,fieldPlace,bQ hT hi2,hsz,ew]
      obtain ⟨c',hs,rfl⟩:=Option.map_eq_some_iff.1 h
      obtain ⟨b,o1,hv,kg⟩:=mQ hs hc
      exact ⟨_,key _ _ hv,kg,λ κ aa=>by rw [<-p8 hs];exact aa⟩
    ·cases h
   ·cases hf
  ·cases hf
 ·cases h
theorem nK {t:TypeId} {c:C} {cst:Bool} {n:Int} {k:IntKind} {v:Value} {out:Out} (h:dI T ob t c cst n=some out) (hh:cw out.conds) (hc:au w R Pr c v):
 ∃u,(Instr.indexAt t v (.int k n)).run P w=.ok u w/\aA w R Pr out.v u/\∀κ∈out.v.refs,κ∈c.refs:=by
 unfold dI at h
 split at h
 ·rename_i i hi
  split at h
  ·rename_i el hd
   have mu:=bX hT hi hd
   split at h
   ·rename_i ei eC
    have key:∀(b o len cap:Nat),v=.slice (some ⟨b,o,none⟩) len cap->0<=n->n <(len:Int)->(Instr.indexAt t v (.int k n)).run P w=.ok (.pointer (some ⟨b,o+n.toNat * ei.size,none⟩)) w:=λ b o len cap hv h0 h1=>by
     subst hv
     simp [Instr.indexAt,asIntOf,run_underlying mu,h0,h1,bQ hT eC,ew]
    split at h
    ·rename_i b e y
     split at h
     ·rename_i hsz
      cases h
      have h0:0<=n:=hh ⟨0<=n,inferInstance⟩ (by simp)
      have h1:n <((bW b y).length:Int):=hh ⟨n <((bW b y).length:Int),inferInstance⟩ (by simp)
      obtain ⟨A,cap,g1,g2,g3,g4⟩:=hc
      have hlt:n.toNat <(bW b y).length:=by omega
      obtain ⟨blk,off,cells,dm,fr,rfl,k2,k3,k4⟩:=g4 (λ e=>by rw [e] at hlt;simp at hlt)
      obtain ⟨us,m1,m2⟩:=k4 n.toNat _ (List.getElem?_eq_getElem hlt)
      have hv:v=.slice (some ⟨blk,off,none⟩) (bW b y).length cap:=by simpa using g1
      refine ⟨_,key _ _ _ _ hv h0 h1,⟨blk,off+n.toNat * e.n,cells,dm,fr,us,by simp [hsz],k2,k3,m1, ?_⟩,λ κ aa=>by cases aa⟩
      rw [List.getD_eq_getElem?_getD,List.getElem?_eq_getElem hlt];exact m2
     ·cases h
    ·rename_i κ
     split at h
     ·rename_i e l ho
      split at h
      ·rename_i hsz
       cases h
       have h0:0<=n:=hh ⟨0<=n,inferInstance⟩ (by simp)
       have h1:n <(l.length:Int):=hh ⟨n <(l.length:Int),inferInstance⟩ (by simp)
       obtain ⟨g0,g⟩:=aj _ _ ho
       rcases g with ⟨g1,g2⟩|⟨off,cap,cells,dm,g1,g2,g3,g4,g5⟩
       ·subst g2;simp at h1;omega
       ·refine ⟨_,key _ _ _ _ (hc.trans g1) h0 h1,⟨by rw [g0];omega,off,_,_,g1,by simp⟩,λ κ aa=>aa⟩
      ·cases h
     ·rename_i e ll yF t1 m1 xC ho
      split at h
      ·rename_i hsz
       cases h
       have h0:0<=n:=hh ⟨0<=n,inferInstance⟩ (by simp)
       have h1:n <(ll.length:Int):=hh ⟨n <(ll.length:Int),inferInstance⟩ (by simp)
       obtain ⟨g0,⟨_,g1,_⟩|⟨off,cap,cells,dm,g1,_⟩⟩:=aj _ _ ho
       ·rw [g1] at h1;simp at h1;omega
       ·exact ⟨_,key _ _ _ _ (hc.trans g1) h0 h1,⟨by rw [g0];omega,off,_,_,g1,by simp [<-hsz]⟩,λ κ aa=>aa⟩
      ·cases h
     ·cases h
    ·rename_i κ sz lo m
     split at h
     ·rename_i hsz
      cases h
      have h0:0<=n:=hh ⟨0<=n,inferInstance⟩ (by simp)
      have h1:n <(m:Int):=hh ⟨n <(m:Int),inferInstance⟩ (by simp)
      obtain ⟨g0,A,cap,g1,g2⟩:=hc
      obtain ⟨o,m1,c',g3,rfl⟩:=g2 (by omega)
      refine ⟨_,key _ _ _ _ g1 h0 h1,⟨by omega,o,_,_,g3,by simp [hsz,Nat.add_mul,Nat.add_assoc]⟩,λ κ aa=>aa⟩
     ·cases h
    ·cases h
   ·cases h
  ·rename_i m el hd
   have wM:=iD hT hi hd
   split at h
   ·rename_i ei eC
    have key:∀(b o:Nat),v=.pointer (some ⟨b,o,none⟩)->0<=n->n <(m:Int)->(Instr.indexAt t v (.int k n)).run P w=.ok (.pointer (some ⟨b,o+n.toNat * ei.size,none⟩)) w:=λ b o hv h0 h1=>by
     subst hv
     simp [Instr.indexAt,Instr.sureAddr,asIntOf,run_underlying wM,h0,h1,bQ hT eC,ew]
    split at h
    ·split at h
     ·rename_i q
      split at h
      ·rename_i hq
       obtain ⟨c',hs,rfl⟩:=Option.map_eq_some_iff.1 h
       obtain ⟨b,o1,hv,kg⟩:=mQ hs hc
       refine ⟨_,key _ _ hv (Int.natCast_nonneg q) (by have:(Int.ofNat q)=(q:Int):=rfl;omega),kg,λ κ aa=>by rw [<-p8 hs];exact aa⟩
      ·cases h
     ·cases h
    ·split at h
     ·rename_i hp
      cases h
      have h0:0<=n:=hh ⟨0<=n,inferInstance⟩ (by simp)
      have h1:n <(m:Int):=hh ⟨n <(m:Int),inferInstance⟩ (by simp)
      have hv:∃b o,v=.pointer (some ⟨b,o,none⟩):=by
       cases c with
       |ptr κ off=>exact ⟨_,_,hc⟩
       |dN κ sz j off=>obtain ⟨_,o,n,q,_,h3⟩:=hc;exact ⟨_,_,h3⟩
       |fE e x off=>obtain ⟨blk,o,cells,el,fr,us,h1,h2⟩:=hc;exact ⟨_,_,h1⟩
       |_=>cases hp
      obtain ⟨b,o,rfl⟩:=hv
      exact ⟨_,key _ _ rfl h0 h1,⟨by omega,b,o,hc,rfl⟩,λ κ aa=>aa⟩
     ·cases h
   ·cases h
  ·cases h
 ·cases h
end
end Go.Rx
