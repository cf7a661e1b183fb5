/- Reflection, part D: what the operations that yield a value do in the machine. -/
import Derived.Test.YtollcjadobpfdaaGreatRxC
import Derived.Laws.Cells
import Derived.Laws.CopyRow
set_option linter.unusedVariables false
set_option linter.unusedSimpArgs false
set_option linter.unusedSectionVars false
namespace Go.Rx
section
variable {P:Program} {T:bh} (hT:bC P T)
include hT
theorem ga {t:TypeId} {i:TI} (h:T.get t=some i):∃ti d,P.info? t=some ti/\P.underlying t=some d/\i=⟨dN d,ti.size,ti.bytes,ti.zero.bind zeroOf,sN P t d⟩:=xz (hT.get h)
theorem bQ {t:TypeId} {i:TI} (h:T.get t=some i) (w:World):(sizeOf t).run P w=.ok i.size w:=by
 obtain ⟨ti,d,h1,h2,rfl⟩:=ga hT h
 simp [sizeOf,typeInfo,h1]
theorem dM {t:TypeId} {i:TI} (h:T.get t=some i):∃ti,P.info? t=some ti/\ti.size=i.size/\ti.bytes=i.bytes/\i.zero=ti.zero.bind zeroOf:=by
 obtain ⟨ti,d,h1,h2,rfl⟩:=ga hT h
 exact ⟨ti,h1,rfl,rfl,rfl⟩
theorem cq {t:TypeId} {i:TI} (h:T.get t=some i):∃d,P.underlying t=some d/\i.d=dN d:=by
 obtain ⟨ti,d,h1,h2,rfl⟩:=ga hT h
 exact ⟨d,h2,rfl⟩
theorem iX {t:TypeId} {i:TI} {fs:List (Nat×TypeId)} (h:T.get t=some i) (hd:i.d=.struct fs):∃gs:Array Field,P.underlying t=some (.struct gs)/\fs=gs.toList.map λ f=>(f.offset,f.type):=by
 obtain ⟨d,h1,h2⟩:=cq hT h
 rw [hd] at h2
 cases d<;>simp only [dN] at h2<;>cases h2
 exact ⟨_,h1,rfl⟩
theorem bY {t e:TypeId} {i:TI} (h:T.get t=some i) (hd:i.d=.slice e):P.underlying t=some (.slice e):=by
 obtain ⟨d,h1,h2⟩:=cq hT h
 rw [hd] at h2
 cases d<;>simp only [dN] at h2<;>cases h2
 exact h1
theorem iE {t e:TypeId} {n:Nat} {i:TI} (h:T.get t=some i) (hd:i.d=.array n e):P.underlying t=some (.array n e):=by
 obtain ⟨d,h1,h2⟩:=cq hT h
 rw [h2] at hd
 cases d<;>simp [dN] at hd
 obtain ⟨rfl,rfl⟩:=hd
 exact h1
theorem jj {t:TypeId} {k:IntKind} {i:TI} (h:T.get t=some i) (hd:i.d=.int k):P.underlying t=some (.int k):=by
 obtain ⟨d,h1,h2⟩:=cq hT h
 rw [hd] at h2
 cases d<;>simp only [dN] at h2<;>cases h2
 exact h1
theorem nJ {t:TypeId} {i:TI} (h:T.get t=some i) (w:World):(isAgg t).run P w=.ok i.d.agg w:=by
 obtain ⟨d,h1,h2⟩:=cq hT h
 rw [h2]
 cases d<;>simp [isAgg,run_underlying h1,dN,TD.agg]
end
theorem ew (b o n:Nat):(⟨b,o,none⟩:Addr).add n=⟨b,o+n,none⟩:=by unfold Addr.add;split<;>simp_all
theorem bL:∀(e:Ty) (x:e.D),∀c∈e.cells x,c.refs=[]
 | .int _,_,c,h=>by simp [Ty.cells] at h;subst h;rfl
 | .bool,_,c,h=>by simp [Ty.cells] at h;subst h;rfl
 | .str,_,c,h=>by simp [Ty.cells] at h;subst h;rfl
 | .pair a b,x,c,h=>by
   rcases List.mem_append.1 h with h|h
   ·exact bL a x.1 c h
   ·exact bL b x.2 c h
 | .sl _ _,_,c,h=>by simp [Ty.cells] at h;subst h;rfl
 | .fn _,_,c,h=>by simp [Ty.cells] at h;subst h;rfl
 | .ptr _,_,c,h=>by simp [Ty.cells] at h;subst h;rfl
 | .cL _ _,_,c,h=>by simp [Ty.cells] at h;subst h;rfl
 | .map _ _,_,c,h=>by simp [Ty.cells] at h;subst h;rfl
theorem qc {k:Nat}:∀{c c':C},dX k c=some c'->c'.refs=c.refs:=λ {c}=>by
 induction c with
 |jo c n sz i ih=>
  intro c' h
  simp only [dX] at h
  split at h
  ·rename_i c1 h1;cases h;exact (ih h1:c1.refs=c.refs)
  ·cases h
 |_=>intro c' h;simp [dX] at h<;>subst h<;>rfl
theorem mS {w:World} {R:Nat->RL} {Pr:Nat->Prop} {k:Nat}:∀{c c':C} {v:Value},dX k c=some c'->au w R Pr c v->∃b o,v=.pointer (some ⟨b,o,none⟩)/\au w R Pr c' (.pointer (some ⟨b,o+k,none⟩)):=λ {c}=>by
 induction c with
 |ptr κ off=>intro c' v h hc;simp [dX] at h;subst h;exact ⟨_,_,hc,rfl⟩
 |dO κ sz j off=>
  intro c' v h hc;simp [dX] at h;subst h
  obtain ⟨h1,o,n,q,h2,h3⟩:=hc
  exact ⟨_,_,h3,h1,o,n,q,h2,by rw [Nat.add_assoc]⟩
 |fG e x off=>
  intro c' v h hc;simp [dX] at h;subst h
  obtain ⟨blk,o,cells,el,fr,us,h1,h2⟩:=hc
  exact ⟨_,_,h1,blk,o,cells,el,fr,us,by rw [Nat.add_assoc],h2⟩
 |jo c n sz i ih=>
  intro c' v h hc
  simp only [dX] at h
  split at h
  ·rename_i c1 h1
   cases h
   obtain ⟨g1,b,o,g2,g3⟩:=hc
   obtain ⟨b',o',e,g4⟩:=ih h1 g2
   cases e
   exact ⟨_,_,g3,g1,b,o+k,g4,by rw [Nat.add_right_comm]⟩
  ·cases h
 |_=>intro c' v h;simp [dX] at h
theorem oB {k:IntKind}:∀{cs:List C} {l:List Int},eA k cs=some l->∀{i:Nat} {c:C},cs[i]?=some c->c=.int k (l.getD i 0)
 | [],l,h,i,c,hc=>by simp at hc
 |c0::r,l,h,i,c,hc=>by
  cases c0 with
  |int k' n=>
   simp only [eA] at h
   split at h
   ·rename_i e
    subst e
    obtain ⟨m,hm,rfl⟩:=Option.map_eq_some_iff.1 h
    cases i with
    |zero=>simp at hc;subst hc;rfl
    |succ i=>simpa using oB hm (i:=i) (by simpa using hc)
   ·cases h
  |_=>simp [eA] at h
theorem tP {w:World} {R:Nat->RL} {Pr:Nat->Prop} {i:Nat} {cs:List C} {c ci:C} {v:Value} (h:vU i cs=some c) (hi:cs[i]?=some ci) (hr:au w R Pr ci v):au w R Pr c v/\c.refs=[]:=by
 unfold vU at h
 split at h
 ·rename_i k n r
  obtain ⟨l,hl,rfl⟩:=Option.map_eq_some_iff.1 h
  have:=oB hl hi
  subst this
  exact ⟨hr,rfl⟩
 ·cases h
theorem tE:∀{xs:List Cp} {cs:List C},p4 xs=some cs->∀{i:Nat} {x:Cp},xs[i]?=some x->∃c,x=.one c/\cs[i]?=some c
 | [],cs,h,i,x,hx=>by simp at hx
 |x0::r,cs,h,i,x,hx=>by
  cases x0 with
  |one c=>
   simp only [p4] at h
   obtain ⟨m,hm,rfl⟩:=Option.map_eq_some_iff.1 h
   cases i with
   |zero=>simp at hx;subst hx;exact ⟨c,rfl,rfl⟩
   |succ i=>simpa using tE hm (i:=i) (by simpa using hx)
  |agg _=>simp [p4] at h
theorem tM:∀{xs:List Cp} {rows:List (List C)},p9 xs=some rows->∀{i:Nat} {x:Cp},xs[i]?=some x->∃cs,x=.agg cs/\rows[i]?=some cs
 | [],rows,h,i,x,hx=>by simp at hx
 |x0::r,rows,h,i,x,hx=>by
  cases x0 with
  |agg c=>
   simp only [p9] at h
   obtain ⟨m,hm,rfl⟩:=Option.map_eq_some_iff.1 h
   cases i with
   |zero=>simp at hx;subst hx;exact ⟨c,rfl,rfl⟩
   |succ i=>simpa using tM hm (i:=i) (by simpa using hx)
  |one _=>simp [p9] at h
theorem oc {w:World} {R:Nat->RL} {Pr:Nat->Prop} {i:Nat} {rows:List (List C)} {row:List C} (hi:rows[i]?=some row) {us:List Value} (hr:an (au w R Pr) row us):∀{n:Nat} {cs:List C},kE i rows n=some cs->n<=row.length->an (au w R Pr) cs (us.take n)/\∀c∈cs,c.refs=[]
 | 0,cs,h,_=>by simp only [kE] at h;cases h;exact ⟨by simp [an],λ c hc=>by cases hc⟩
 |n+1,cs,h,hn=>by
  simp only [kE] at h
  split at h
  ·rename_i zH c h1 h2
   cases h
   obtain ⟨g1,g2⟩:=oc hi hr h1 (by omega)
   have hq:(rows.map λ r=>r.getD n .any)[i]?=some (row.getD n .any):=by rw [List.getElem?_map,hi];rfl
   have hrow:row[n]?=some (row.getD n .any):=by rw [List.getD_eq_getElem?_getD,List.getElem?_eq_getElem (by omega)];rfl
   obtain ⟨u,hu,mw⟩:=hr.get hrow
   obtain ⟨g3,g4⟩:=tP h2 hq mw
   have ht:us.take (n+1)=us.take n++[u]:=by rw [List.take_add_one,hu];rfl
   rw [ht]
   refine ⟨g1.append ⟨g3,trivial⟩,λ c' hc=> ?_⟩
   rcases List.mem_append.1 hc with hc|hc
   ·exact g2 c' hc
   ·rw [List.mem_singleton] at hc;subst hc;exact g4
  ·cases h
theorem rG {w:World} {R:Nat->RL} {Pr:Nat->Prop} {i:Nat} {xs:List Cp} {x xi:Cp} {v:Value} (h:sw i xs=some x) (hi:xs[i]?=some xi) (hr:bf w R Pr xi v):bf w R Pr x v/\x.refs=[]:=by
 unfold sw at h
 split at h
 ·rename_i cs0 r
  split at h
  ·rename_i rows hrows
   split at h
   ·rename_i hall
    obtain ⟨cs,hcs,rfl⟩:=Option.map_eq_some_iff.1 h
    obtain ⟨row,rfl,hrow⟩:=tM hrows hi
    obtain ⟨vs,rfl,hvs⟩:=hr
    have hl:row.length=cs0.length:=Nat.eq_of_beq_eq_true (List.all_eq_true.1 hall row (List.mem_of_getElem? hrow))
    obtain ⟨g1,g2⟩:=oc hrow hvs hcs (by omega)
    refine ⟨⟨vs,rfl, ?_⟩, ?_⟩
    ·have hle:=hvs.length
     rw [List.take_of_length_le (by omega)] at g1
     exact g1
    ·show cs.flatMap C.refs=[]
     rw [List.flatMap_eq_nil_iff];exact g2
   ·cases h
  ·cases h
 ·split at h
  ·rename_i cs hcs
   obtain ⟨c,hc,rfl⟩:=Option.map_eq_some_iff.1 h
   obtain ⟨ci,rfl,wW⟩:=tE hcs hi
   exact tP hc wW hr
  ·cases h
theorem lg {f:Nat->Option Out}:∀{n:Nat} {acc:List Nat} {xs:List Cp},iR f n=some (acc,xs)->xs.length=n/\∀j,j <n->∃a x,f j=some ⟨[],a,.cp x⟩/\xs[j]?=some x/\∀κ∈a,κ∈acc
 | 0,acc,xs,h=>by simp only [iR] at h;cases h;exact ⟨rfl,λ j hj=>by omega⟩
 |n+1,acc,xs,h=>by
  simp only [iR] at h
  split at h
  ·rename_i BC l a x h1 h2
   cases h
   obtain ⟨g1,g2⟩:=lg h1
   refine ⟨by simp [g1],λ j hj=> ?_⟩
   by_cases e:j=n
   ·subst e
    exact ⟨a,x,h2,by rw [<-g1];simp,λ κ aa=>List.mem_append_right _ aa⟩
   ·obtain ⟨a',x',k1,k2,k3⟩:=g2 j (by omega)
    exact ⟨a',x',k1,by rw [List.getElem?_append_left (by omega)];exact k2,λ κ aa=>List.mem_append_left _ (k3 κ aa)⟩
  ·cases h
theorem jf {P:Program} {T:bh} (hT:bC P T) {w:World} {R:Nat->RL} {Pr:Nat->Prop} {t:TypeId} {i:TI} (ht:T.get t=some i) {blk o off:Nat} {cells:Array Value} {el:TypeId} {fr:Nat×Nat} {us:List Value} {cs:List C} {x:Cp}
 (hb:w.heap[blk]?=some (.cells cells el fr)) (ha:At cells o us) (hr:an (au w R Pr) cs us) (hx:gE i cs off=some x):
 ∃u,(Instr.loadAt t (.pointer (some ⟨blk,o+off,none⟩))).run P w=.ok u w/\bf w R Pr x u/\∀κ∈x.refs,∃c∈cs,κ∈c.refs:=by
 have hlen:=hr.length
 have hone:∀(c:C),cs[off]?=some c->x=.one c->i.d≠ .other->i.d.agg=false->
  ∃u,(Instr.loadAt t (.pointer (some ⟨blk,o+off,none⟩))).run P w=.ok u w/\bf w R Pr x u/\∀κ∈x.refs,∃c∈cs,κ∈c.refs:=λ c hc hx _ hagg=>by
  subst hx
  obtain ⟨u,hu,mw⟩:=hr.get hc
  have hcell:w.cell? ⟨blk,o+off,none⟩=some u:=by simp [World.cell?,hb,ha off u hu]
  refine ⟨u, ?_,mw,λ κ aa=>⟨c,List.mem_of_getElem? hc,aa⟩⟩
  simp only [Instr.loadAt,Instr.sureAddr,Sem.run_bind,Sem.run_pure,Result.andThen_ok,loadVar,nJ hT ht,hagg]
  simp [hcell]
 unfold gE at hx
 have pI:∀(h:off+i.size<=cs.length),x=.agg ((cs.drop off).take i.size)->i.d.agg=true->
  ∃u,(Instr.loadAt t (.pointer (some ⟨blk,o+off,none⟩))).run P w=.ok u w/\bf w R Pr x u/\∀κ∈x.refs,∃c∈cs,κ∈c.refs:=λ h hx hagg=>by
  subst hx
  have hl:((us.drop off).take i.size).length=i.size:=by simp;omega
  have vF:=run_loadCells_list (P:=P) w ⟨blk,o+off,none⟩ ((us.drop off).take i.size) (λ j v hj=>by
   rw [ew]
   have:=ha.drop (n:=off) |>.take (n:=i.size) j v hj
   simp [World.cell?,hb,this])
  rw [hl] at vF
  refine ⟨.agg ((us.drop off).take i.size).toArray, ?_,⟨_,rfl,by simpa using (hr.drop off).take i.size⟩,λ κ aa=> ?_⟩
  ·simp only [Instr.loadAt,Instr.sureAddr,Sem.run_bind,Sem.run_pure,Result.andThen_ok,loadVar,nJ hT ht,hagg,bQ hT ht,vF]
   simp [bQ hT ht,vF]
  ·obtain ⟨c,hc,hk⟩:=List.mem_flatMap.1 aa
   exact ⟨c,List.mem_of_mem_drop (List.mem_of_mem_take hc),hk⟩
 split at hx
 ·rename_i fs hd
  split at hx
  ·rename_i h;exact pI h (Option.some.inj hx).symm (by rw [hd];rfl)
  ·cases hx
 ·rename_i n e hd
  split at hx
  ·rename_i h;exact pI h (Option.some.inj hx).symm (by rw [hd];rfl)
  ·cases hx
 ·cases hx
 ·rename_i h1 h2 h3
  split at hx
  ·rename_i c hc
   refine hone c hc (Option.some.inj hx).symm h3 ?_
   revert h1 h2
   generalize i.d=d
   intro h1 h2
   cases d<;>first|rfl|exact absurd rfl (h1 _)|exact absurd rfl (h2 _ _)
  ·cases hx
def cz (l:List DP):Prop:=∀x∈l,x.p
section
variable {P:Program} {T:bh} (hT:bC P T) {w:World} {R:Nat->RL} {Pr:Nat->Prop} {ob:Nat->Option Ob} (aj:∀κ o,ob κ=some o->az w R Pr κ o)
include hT aj
theorem lN {t:TypeId} {c:C} {v:Value} {out:Out} (h:fq T ob t c=some out) (hc:au w R Pr c v):
 ∃u,(Instr.loadAt t v).run P w=.ok u w/\aA w R Pr out.v u/\∀κ∈out.v.refs,∃af∈out.acc,∃o,ob af=some o/\κ∈o.refs:=by
 unfold fq at h
 split at h
 ·rename_i κ off
  split at h
  ·rename_i i cs hi ho
   split at h
   ·rename_i x hx
    cases h
    obtain ⟨el,vs,h1,h2⟩:=aj _ _ ho
    subst hc
    obtain ⟨u,k1,k2,k3⟩:=jf hT hi (o:=0) (us:=vs.toList) h1 (λ c u hu=>by simpa using hu) h2 hx
    refine ⟨u,by simpa using k1,k2,λ af aa=>⟨κ,by simp,_,ho, ?_⟩⟩
    obtain ⟨c,hc,hk⟩:=k3 af aa
    exact List.mem_flatMap.2 ⟨c,hc,hk⟩
   ·cases h
  ·rename_i i e x hi ho
   split at h
   ·rename_i y hy
    cases h
    obtain ⟨_,cells,el,fr,us,h1,h2,h3⟩:=aj _ _ ho
    subst hc
    obtain ⟨u,k1,k2,k3⟩:=jf hT hi (o:=0) (us:=us) h1 h2 (bu (R:=R) h3) hy
    exact ⟨u,by simpa using k1,k2,λ af aa=>by
     obtain ⟨c,hc,hk⟩:=k3 af aa
     rw [bL e _ c hc] at hk;cases hk⟩
   ·cases h
  ·cases h
 ·rename_i κ sz j off
  split at h
  ·rename_i i e l hi ho
   split at h
   ·rename_i hsz
    split at h
    ·rename_i x hx
     cases h
     obtain ⟨h0,h3⟩:=aj _ _ ho
     obtain ⟨hj,o,n,c,hh,rfl⟩:=hc
     rcases h3 with ⟨h3,_⟩|⟨off1,cap,cells,el,h3,h4,h5,h6,h7⟩
     ·rw [h3] at hh;cases hh
     ·rw [h3] at hh;cases hh
      rw [h0] at hj
      obtain ⟨us,k1,k2⟩:=h7 j l[j] (List.getElem?_eq_getElem hj)
      have hg:l.getD j e.z=l[j]:=by rw [List.getD_eq_getElem?_getD,List.getElem?_eq_getElem hj];rfl
      rw [hg] at hx
      rw [hsz] at k1
      obtain ⟨u,k3,k4,k5⟩:=jf hT hi h5 k1 (bu (R:=R) k2) hx
      exact ⟨u,k3,k4,λ af aa=>by
       obtain ⟨c,hc,hk⟩:=k5 af aa
       rw [bL e _ c hc] at hk;cases hk⟩
    ·cases h
   ·cases h
  ·cases h
 ·rename_i e x off
  split at h
  ·rename_i i hi
   split at h
   ·rename_i y hy
    cases h
    obtain ⟨blk,o,cells,el,fr,us,rfl,h2,h3,h4,h5⟩:=hc
    obtain ⟨u,k3,k4,k5⟩:=jf hT hi h3 h4 (bu (R:=R) h5) hy
    exact ⟨u,k3,k4,λ af aa=>by
     obtain ⟨c,hc,hk⟩:=k5 af aa
     rw [bL e _ c hc] at hk;cases hk⟩
   ·cases h
  ·cases h
 ·cases h
theorem l7 {t:TypeId} {c:C} {v:Value} {out:Out} (h:ia T ob t c=some out) (hc:au w R Pr c v):
 ∃u,(Instr.loadAt t v).run P w=.ok u w/\aA w R Pr out.v u/\∀κ∈out.v.refs,∃af∈out.acc,∃o,ob af=some o/\κ∈o.refs:=by
 unfold ia at h
 split at h
 ·rename_i c n sz i
  split at h
  ·rename_i acc xs hm
   obtain ⟨x,hx,rfl⟩:=Option.map_eq_some_iff.1 h
   obtain ⟨g1,g2⟩:=lg hm
   obtain ⟨hi,b,o,hcb,rfl⟩:=hc
   obtain ⟨a,y,k1,k2,k3⟩:=g2 i hi
   obtain ⟨c',hs,hl⟩:=Option.bind_eq_some_iff.1 k1
   obtain ⟨b',o',e,ko⟩:=mS hs hcb
   cases e
   obtain ⟨u,m1,m2,_⟩:=lN hT aj hl ko
   obtain ⟨m3,m4⟩:=rG hx k2 m2
   exact ⟨u,m1,m3,λ κ aa=>by
    have aa:κ∈x.refs:=aa
    rw [m4] at aa;cases aa⟩
  ·cases h
 ·exact lN hT aj h hc
theorem nK {s:TypeId} {f:Nat} {c:C} {v:Value} {out:Out} (h:j5 T s f c=some out) (hc:au w R Pr c v):
 ∃u,(Instr.fieldAt s v f).run P w=.ok u w/\aA w R Pr out.v u/\∀κ∈out.v.refs,κ∈c.refs:=by
 unfold j5 at h
 split at h
 ·rename_i o ft hf
  unfold kg at hf
  split at hf
  ·rename_i i hi
   split at hf
   ·rename_i fs hd
    obtain ⟨gs,hg1,hg2⟩:=iX hT hi hd
    rw [hg2,List.getElem?_map] at hf
    obtain ⟨fd,rq,he⟩:=Option.map_eq_some_iff.1 hf
    cases he
    have x8:gs[f]?=some fd:=by simpa using rq
    split at h
    ·rename_i i2 hi2
     split at h
     ·cases h
     ·rename_i hsz
      have key:∀(b o1:Nat),v=.pointer (some ⟨b,o1,none⟩)->(Instr.fieldAt s v f).run P w=.ok (.pointer (some ⟨b,o1+fd.offset,none⟩)) w:=λ b o1 hv=>by
       subst hv
       simp [Instr.fieldAt,run_underlying hg1,x8,Instr.sureAddr,fieldPlace,bQ hT hi2,hsz,ew]
      obtain ⟨c',hs,rfl⟩:=Option.map_eq_some_iff.1 h
      obtain ⟨b,o1,hv,ko⟩:=mS hs hc
      exact ⟨_,key _ _ hv,ko,λ κ aa=>by rw [<-qc hs];exact aa⟩
    ·cases h
   ·cases hf
  ·cases hf
 ·cases h
theorem nM {t:TypeId} {c:C} {cst:Bool} {n:Int} {k:IntKind} {v:Value} {out:Out} (h:dJ T ob t c cst n=some out) (hh:cz out.conds) (hc:au w R Pr c v):
 ∃u,(Instr.indexAt t v (.int k n)).run P w=.ok u w/\aA w R Pr out.v u/\∀κ∈out.v.refs,κ∈c.refs:=by
 unfold dJ at h
 split at h
 ·rename_i i hi
  split at h
  ·rename_i el hd
   have mz:=bY hT hi hd
   split at h
   ·rename_i ei eD
    have key:∀(b o len cap:Nat),v=.slice (some ⟨b,o,none⟩) len cap->0<=n->n <(len:Int)->(Instr.indexAt t v (.int k n)).run P w=.ok (.pointer (some ⟨b,o+n.toNat * ei.size,none⟩)) w:=λ b o len cap hv h0 h1=>by
     subst hv
     simp [Instr.indexAt,asIntOf,run_underlying mz,h0,h1,bQ hT eD,ew]
    split at h
    ·rename_i b e y
     split at h
     ·rename_i hsz
      cases h
      have h0:0<=n:=hh ⟨0<=n,inferInstance⟩ (by simp)
      have h1:n <((bX b y).length:Int):=hh ⟨n <((bX b y).length:Int),inferInstance⟩ (by simp)
      obtain ⟨A,cap,g1,g2,g3,g4⟩:=hc
      have hlt:n.toNat <(bX b y).length:=by omega
      obtain ⟨blk,off,cells,dm,fr,rfl,k2,k3,k4⟩:=g4 (λ e=>by rw [e] at hlt;simp at hlt)
      obtain ⟨us,m1,m2⟩:=k4 n.toNat _ (List.getElem?_eq_getElem hlt)
      have hv:v=.slice (some ⟨blk,off,none⟩) (bX b y).length cap:=by simpa using g1
      refine ⟨_,key _ _ _ _ hv h0 h1,⟨blk,off+n.toNat * e.n,cells,dm,fr,us,by simp [hsz],k2,k3,m1, ?_⟩,λ κ aa=>by cases aa⟩
      rw [List.getD_eq_getElem?_getD,List.getElem?_eq_getElem hlt];exact m2
     ·cases h
    ·rename_i κ
     split at h
     ·rename_i e l ho
      split at h
      ·rename_i hsz
       cases h
       have h0:0<=n:=hh ⟨0<=n,inferInstance⟩ (by simp)
       have h1:n <(l.length:Int):=hh ⟨n <(l.length:Int),inferInstance⟩ (by simp)
       obtain ⟨g0,g⟩:=aj _ _ ho
       rcases g with ⟨g1,g2⟩|⟨off,cap,cells,dm,g1,g2,g3,g4,g5⟩
       ·subst g2;simp at h1;omega
       ·refine ⟨_,key _ _ _ _ (hc.trans g1) h0 h1,⟨by rw [g0];omega,off,_,_,g1,by simp⟩,λ κ aa=>aa⟩
      ·cases h
     ·rename_i e ll yQ t1 m1 xN ho
      split at h
      ·rename_i hsz
       cases h
       have h0:0<=n:=hh ⟨0<=n,inferInstance⟩ (by simp)
       have h1:n <(ll.length:Int):=hh ⟨n <(ll.length:Int),inferInstance⟩ (by simp)
       obtain ⟨g0,⟨_,g1,_⟩|⟨off,cap,cells,dm,g1,_⟩⟩:=aj _ _ ho
       ·rw [g1] at h1;simp at h1;omega
       ·exact ⟨_,key _ _ _ _ (hc.trans g1) h0 h1,⟨by rw [g0];omega,off,_,_,g1,by simp [<-hsz]⟩,λ κ aa=>aa⟩
      ·cases h
     ·cases h
    ·rename_i κ sz lo m
     split at h
     ·rename_i hsz
      cases h
      have h0:0<=n:=hh ⟨0<=n,inferInstance⟩ (by simp)
      have h1:n <(m:Int):=hh ⟨n <(m:Int),inferInstance⟩ (by simp)
      obtain ⟨g0,A,cap,g1,g2⟩:=hc
      obtain ⟨o,m1,c',g3,rfl⟩:=g2 (by omega)
      refine ⟨_,key _ _ _ _ g1 h0 h1,⟨by omega,o,_,_,g3,by simp [hsz,Nat.add_mul,Nat.add_assoc]⟩,λ κ aa=>aa⟩
     ·cases h
    ·cases h
   ·cases h
  ·rename_i m el hd
   have wV:=iE hT hi hd
   split at h
   ·rename_i ei eD
    have key:∀(b o:Nat),v=.pointer (some ⟨b,o,none⟩)->0<=n->n <(m:Int)->(Instr.indexAt t v (.int k n)).run P w=.ok (.pointer (some ⟨b,o+n.toNat * ei.size,none⟩)) w:=λ b o hv h0 h1=>by
     subst hv
     simp [Instr.indexAt,Instr.sureAddr,asIntOf,run_underlying wV,h0,h1,bQ hT eD,ew]
    split at h
    ·split at h
     ·rename_i q
      split at h
      ·rename_i hq
       obtain ⟨c',hs,rfl⟩:=Option.map_eq_some_iff.1 h
       obtain ⟨b,o1,hv,ko⟩:=mS hs hc
       refine ⟨_,key _ _ hv (Int.natCast_nonneg q) (by have:(Int.ofNat q)=(q:Int):=rfl;omega),ko,λ κ aa=>by rw [<-qc hs];exact aa⟩
      ·cases h
     ·cases h
    ·split at h
     ·rename_i hp
      cases h
      have h0:0<=n:=hh ⟨0<=n,inferInstance⟩ (by simp)
      have h1:n <(m:Int):=hh ⟨n <(m:Int),inferInstance⟩ (by simp)
      have hv:∃b o,v=.pointer (some ⟨b,o,none⟩):=by
       cases c with
       |ptr κ off=>exact ⟨_,_,hc⟩
       |dO κ sz j off=>obtain ⟨_,o,n,q,_,h3⟩:=hc;exact ⟨_,_,h3⟩
       |fG e x off=>obtain ⟨blk,o,cells,el,fr,us,h1,h2⟩:=hc;exact ⟨_,_,h1⟩
       |_=>cases hp
      obtain ⟨b,o,rfl⟩:=hv
      exact ⟨_,key _ _ rfl h0 h1,⟨by omega,b,o,hc,rfl⟩,λ κ aa=>aa⟩
     ·cases h
   ·cases h
  ·cases h
 ·cases h
end
end Go.Rx
