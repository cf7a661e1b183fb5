/- Reflection, part B: states that stand for a frame and a world (St, Inv), and how such a standing moves. -/
import Derived.Test.YtollcjadobpfdaaGreatRxA
set_option linter.unusedVariables false
set_option linter.unusedSimpArgs false
set_option linter.unusedSectionVars false
namespace Go.Rx
inductive Cp where
 |one (c:C)
 |agg (cs:List C)
inductive AV where
 |cp (x:Cp)
 |bO (vs:List Cp)
inductive Ob where
 |box (cs:List C)
 |vec (e:Ty) (l:List e.D)
 |set (l:List (Int×Int))
 |rows (e:Ty) (ll:List (List e.D)) (h:Option Nat) (t:Ty) (m:Nat) (xs:List t.D)
 |cG (e:Ty) (x:e.D)
 |map (K V:Ty) (l:List (K.D×V.D)) (it:Option (Nat×List (K.D×V.D)×Option (K.D×V.D)))
 |tok (κ:Nat)
structure St where
 tmps:List AV
 objs:List (Option Ob)
abbrev bA:AV:=.cp (.one .any)
def St.get (σ:St) (t:Nat):AV:=σ.tmps.getD t bA
def St.ob (σ:St) (κ:Nat):Option Ob:=σ.objs.getD κ none
def St.put (σ:St) (dst:Option Nat) (v:AV):St:=
 match dst with
 |some d=>{ σ with tmps:=σ.tmps.set d v }
 |none=>σ
def St.aK (σ:St) (κ:Nat) (o:Option Ob):St:={ σ with objs:=σ.objs.set κ o }
def Cp.refs:Cp->List Nat
 | .one c=>c.refs
 | .agg cs=>cs.flatMap C.refs
def AV.refs:AV->List Nat
 | .cp x=>x.refs
 | .bO vs=>vs.flatMap Cp.refs
def Ob.refs:Ob->List Nat
 | .box cs=>cs.flatMap C.refs
 | .vec _ _=>[]
 | .set _=>[]
 | .rows _ _ _ _ _ _=>[]
 | .cG _ _=>[]
 | .map _ _ _ (some (d,_))=>[d]
 | .map _ _ _ none=>[]
 | .tok _=>[]
def oO (l:List (Int×Int)) (es:List MapEntry):Prop:=∃ks:List (Int×Int),(∀x,x∈ks↔x∈l)/\an (λ k e=>e.key=Value.agg #[.int .i64 k.1,.int .i64 k.2]/\e.val=Value.bool true) ks es
def eR:Ty->Ty->Ty
 | .pair a b,s=>.pair a (eR b s)
 |t,s=>.pair t s
def sx:(t:Ty)->{s:Ty}->t.D->s.D->(eR t s).D
 | .pair a b,_,x,y=>(x.1,sx b x.2 y)
 | .int _,_,x,y| .bool,_,x,y| .str,_,x,y| .sl _ _,_,x,y| .fn _,_,x,y| .ptr _,_,x,y| .cL _ _,_,x,y| .map _ _,_,x,y=>(x,y)
def su:(t:Ty)->{s:Ty}->(eR t s).D->t.D×s.D
 | .pair a b,_,x=>((x.1,(su b x.2).1),(su b x.2).2)
 | .int _,_,x| .bool,_,x| .str,_,x| .sl _ _,_,x| .fn _,_,x| .ptr _,_,x| .cL _ _,_,x| .map _ _,_,x=>(x.1,x.2)
theorem zo (t s:Ty):(eR t s).n=t.n+s.n:=by
 induction t with
 |pair a b _ ih=>simp only [eR,Ty.n,ih];omega
 |_=>rfl
theorem ay.snoc {w:World} {Pr:Nat->Prop}:∀{t s:Ty} {x:t.D} {y:s.D} {us vs:List Value},ay w Pr t x us->ay w Pr s y vs->ay w Pr (eR t s) (sx t x y) (us++vs)
 | .pair a b,s,x,y,us,vs,h1,h2=>by
   obtain ⟨u1,u2,rfl,g1,g2⟩:=h1
   exact ⟨u1,u2++vs,by rw [List.append_assoc],g1,ay.snoc g2 h2⟩
 | .int _,s,x,y,us,vs,h1,h2| .bool,s,x,y,us,vs,h1,h2| .str,s,x,y,us,vs,h1,h2| .sl _ _,s,x,y,us,vs,h1,h2| .fn _,s,x,y,us,vs,h1,h2| .ptr _,s,x,y,us,vs,h1,h2| .cL _ _,s,x,y,us,vs,h1,h2| .map _ _,s,x,y,us,vs,h1,h2=>⟨us,vs,rfl,h1,h2⟩
theorem ay.init {w:World} {Pr:Nat->Prop}:∀{t s:Ty} {x:(eR t s).D} {us:List Value},ay w Pr (eR t s) x us->∃u1 u2,us=u1++u2/\ay w Pr t (su t x).1 u1/\ay w Pr s (su t x).2 u2
 | .pair a b,s,x,us,h=>by
   obtain ⟨u1,u2,rfl,g1,g2⟩:=h
   obtain ⟨u3,u4,rfl,g3,g4⟩:=ay.init g2
   exact ⟨u1++u3,u4,by rw [List.append_assoc],⟨u1,u3,rfl,g1,g3⟩,g4⟩
 | .int _,s,x,us,h| .bool,s,x,us,h| .str,s,x,us,h| .sl _ _,s,x,us,h| .fn _,s,x,us,h| .ptr _,s,x,us,h| .cL _ _,s,x,us,h| .map _ _,s,x,us,h=>h
def gB (t e:Ty):List t.D->List (List e.D)->List (eR t (.sl false e)).D
 |x::xs,l::ll=>sx t (s:=.sl false e) x l::gB t e xs ll
 |_,_=>[]
theorem rF {t e:Ty}:∀{xs:List t.D} {ll:List (List e.D)},xs.length=ll.length->(gB t e xs ll).length=ll.length
 | [],[],_=>rfl
 |x::xs,l::ll,h=>by simp only [gB,List.length_cons];rw [rF (by simpa using h)]
 | [],_::_,h|_::_,[],h=>by simp at h
theorem rE {t e:Ty}:∀{xs:List t.D} {ll:List (List e.D)} {i:Nat} {y:(eR t (.sl false e)).D},(gB t e xs ll)[i]?=some y->∃a b,xs[i]?=some a/\ll[i]?=some b/\y=sx t (s:=.sl false e) a b
 |x::xs,l::ll,0,y,h=>by
  simp only [gB,List.getElem?_cons_zero,Option.some.injEq] at h
  exact ⟨x,l,rfl,rfl,h.symm⟩
 |x::xs,l::ll,i+1,y,h=>by
  simp only [gB,List.getElem?_cons_succ] at h
  obtain ⟨a,b,h1,h2,h3⟩:=rE h
  exact ⟨a,b,by simpa using h1,by simpa using h2,h3⟩
 | [],_,i,y,h|_::_,[],i,y,h=>by simp [gB] at h
def cw (m j:Nat):Nat:=j * (m+1)+m
theorem zl {m i j:Nat} (h:cw m i=cw m j):i=j:=by
 unfold cw at h
 have h:i * (m+1)=j * (m+1):=by omega
 exact Nat.eq_of_mul_eq_mul_right (Nat.succ_pos m) h
theorem AB {m i j c:Nat} (h:c <m):i * (m+1)+c≠cw m j:=λ z=>by
 unfold cw at z
 have a:(i * (m+1)+c) % (m+1)=c:=by rw [Nat.mul_comm,Nat.mul_add_mod];exact Nat.mod_eq_of_lt (by omega)
 have b:(j * (m+1)+m) % (m+1)=m:=by rw [Nat.mul_comm,Nat.mul_add_mod];exact Nat.mod_eq_of_lt (by omega)
 rw [z,b] at a
 omega
theorem oH (j:Nat):cw 0 j=j:=by simp [cw]
def mF:Value->Option Nat
 | .slice (some a) _ _=>some a.block
 |_=>none
def kJ (w:World) (Pr:Nat->Prop) (e:Ty) (row:List e.D) (v:Value):Prop:=
 (v=.slice none 0 0/\row=[])\/∃blk off cap cells el,v=.slice (some ⟨blk,off,none⟩) row.length cap/\row.length<=cap/\w.heap[blk]?=some (.cells cells el (0,0))/\off+cap * e.n<=cells.size/\∀i y,row[i]?=some y->∃us,At cells (off+i * e.n) us/\ay w Pr e y us
def bN (w:World) (Pr:Nat->Prop) (K V:Ty) (kv:K.D×V.D) (en:MapEntry):Prop:=
 (K.jB=true->∃us,en.key=.agg us/\ay w Pr K kv.1 us.toList)/\(K.jB=false->ay w Pr K kv.1 [en.key])/\
 (V.jB=true->∃us,en.val=.agg us/\ay w Pr V kv.2 us.toList)/\(V.jB=false->ay w Pr V kv.2 [en.val])
theorem bN.move {w w':World} {Pr ak:Nat->Prop} (hw:∀b,Pr b->w'.heap[b]?=w.heap[b]?) (hp:∀b,Pr b->ak b) {K V:Ty} {kv:K.D×V.D} {en:MapEntry} (h:bN w Pr K V kv en):bN w' ak K V kv en:=by
 obtain ⟨k1,k2,k3,k4⟩:=h
 exact ⟨λ g=>(by obtain ⟨us,q1,q2⟩:=k1 g;exact ⟨us,q1,ay.move hw hp q2⟩),λ g=>ay.move hw hp (k2 g),λ g=>(by obtain ⟨us,q1,q2⟩:=k3 g;exact ⟨us,q1,ay.move hw hp q2⟩),λ g=>ay.move hw hp (k4 g)⟩
def bl {α:Type}:List MapEntry->List α->Array Nat->List α
 |e::es,x::l,seen=>match seen.contains e.born with
  |true=>bl es l seen
  |false=>x::bl es l seen
 |_,_,_=>[]
section
variable (w:World) (R:Nat->RL) (Pr:Nat->Prop)
def bf:Cp->Value->Prop
 | .one c,v=>au w R Pr c v
 | .agg cs,v=>∃vs,v=.agg vs/\an (au w R Pr) cs vs.toList
def aA:AV->Value->Prop
 | .cp x,v=>bf w R Pr x v
 | .bO xs,v=>∃vs,v=.tuple vs/\an (bf w R Pr) xs vs.toList
def az (κ:Nat):Ob->Prop
 | .box cs=>∃el vs,w.heap[(R κ).blk]?=some (.cells vs el (0,0))/\an (au w R Pr) cs vs.toList
 | .vec e l=>(R κ).len=l.length/\(((R κ).aF=.slice none 0 0/\l=[])\/∃off cap cells el,(R κ).aF=.slice (some ⟨(R κ).blk,off,none⟩) l.length cap/\l.length<=cap/\
    w.heap[(R κ).blk]?=some (.cells cells el (0,0))/\off+cap * e.n<=cells.size/\∀i y,l[i]?=some y->∃us,At cells (off+i * e.n) us/\ay w Pr e y us)
 | .set l=>∃es clock,w.heap[(R κ).blk]?=some (.map es clock)/\oO l es.toList
 | .rows e ll h t m xs=>(R κ).len=ll.length/\(((R κ).aF=.slice none 0 0/\ll=[]/\xs=[])\/∃off cap cells el,(R κ).aF=.slice (some ⟨(R κ).blk,off,none⟩) ll.length cap/\ll.length<=cap/\w.heap[(R κ).blk]?=some (.cells cells el (0,0))/\off+cap * (m+1)<=cells.size/\
    (∀j row,ll[j]?=some row->h≠some j->∃v,cells[off+cw m j]?=some v/\kJ w Pr e row v)/\
    (∀j j' v v' b,j≠j'->h≠some j->h≠some j'->j <ll.length->j' <ll.length->cells[off+cw m j]?=some v->cells[off+cw m j']?=some v'->mF v=some b->mF v'≠some b)/\
    ((m=0\/m=t.n/\xs.length=ll.length)/\∀j x,m≠0->xs[j]?=some x->∃us,At cells (off+j * (m+1)) us/\ay w Pr t x us))
 | .cG e x=>Pr (R κ).blk/\∃cells el fr us,w.heap[(R κ).blk]?=some (.cells cells el fr)/\At cells 0 us/\ay w Pr e x us
 | .map K V l it=>∃es clock,w.heap[(R κ).blk]?=some (.map es clock)/\sD es.toList clock/\es.toList.length=l.length/\(∀(i:Nat) kv en,l[i]?=some kv->es.toList[i]?=some en->bN w Pr K V kv en)/\
    ∀d L cur,it=some (d,L,cur)->∃since seen,w.heap[(R d).blk]?=some (.mapIter (some (R κ).blk) since seen clock)/\since<=clock/\(∀e∈es.toList,e.born <since)/\L=bl es.toList l seen/\
     ∀kv,cur=some kv->∃(i:Nat) (en:MapEntry) (seen':Array Nat),l[i]?=some kv/\es.toList[i]?=some en/\seen=seen'.push en.born
 | .tok _=>True
def bM (κ:Nat):Ob->Nat->Prop
 | .rows e ll h t m xs,b=>∃off n cap cells el j v,(R κ).aF=.slice (some ⟨(R κ).blk,off,none⟩) n cap/\w.heap[(R κ).blk]?=some (.cells cells el (0,0))/\j <ll.length/\h≠some j/\cells[off+cw m j]?=some v/\mF v=some b
 | .map _ _ _ it,b=>∃d L,it=some (d,L)/\b=(R d).blk
 |_,_=>False
end
def real (R:Nat->RL) (κ:Nat):Ob->Prop
 | .box _=>True
 | .vec _ _=>(R κ).aF≠ .slice none 0 0
 | .set _=>True
 | .rows _ _ _ _ _ _=>(R κ).aF≠ .slice none 0 0
 | .cG _ _=>False
 | .map _ _ _ _=>True
 | .tok _=>False
def kK (w:World) (R:Nat->RL) (κ:Nat) (o:Ob) (b:Nat):Prop:=(real R κ o/\b=(R κ).blk)\/bM w R κ o b
section
variable {w w':World} {R R':Nat->RL} {Pr ak:Nat->Prop}
theorem bf.move (hw:∀b,Pr b->w'.heap[b]?=w.heap[b]?) (hp:∀b,Pr b->ak b) {c:Cp} {v:Value} (hr:∀κ∈c.refs,R' κ=R κ) (h:bf w R Pr c v):bf w' R' ak c v:=by
 cases c with
 |one c=>exact au.move hw hp hr h
 |agg cs=>
  obtain ⟨vs,h1,h2⟩:=h
  exact ⟨vs,h1,h2.mono λ a ha b hb=>au.move hw hp (λ κ aa=>hr κ (List.mem_flatMap.2 ⟨a,ha,aa⟩)) hb⟩
theorem aA.move (hw:∀b,Pr b->w'.heap[b]?=w.heap[b]?) (hp:∀b,Pr b->ak b) {c:AV} {v:Value} (hr:∀κ∈c.refs,R' κ=R κ) (h:aA w R Pr c v):aA w' R' ak c v:=by
 cases c with
 |cp x=>exact bf.move hw hp hr h
 |bO xs=>
  obtain ⟨vs,h1,h2⟩:=h
  exact ⟨vs,h1,h2.mono λ a ha b hb=>bf.move hw hp (λ κ aa=>hr κ (List.mem_flatMap.2 ⟨a,ha,aa⟩)) hb⟩
theorem bM.back {κ:Nat} {o:Ob} {b:Nat} (hk:R' κ=R κ) (hb:real R κ o->w'.heap[(R κ).blk]?=w.heap[(R κ).blk]?) (h:bM w' R' κ o b) (hr:∀κ∈o.refs,R' κ=R κ:=by exact λ _ _=>rfl):bM w R κ o b:=by
 cases o with
 |rows e ll hh t m xs=>
  obtain ⟨off,n,cap,cells,el,j,v,h1,h2,h3⟩:=h
  rw [hk] at h1 h2
  exact ⟨off,n,cap,cells,el,j,v,h1,by rw [<-hb (λ z=>by rw [z] at h1;cases h1)];exact h2,h3⟩
 |map K V l it=>
  obtain ⟨d,L,rfl,rfl⟩:=h
  exact ⟨d,L,rfl,by rw [hr d (by simp [Ob.refs])]⟩
 |_=>exact h
theorem kJ.move (hw:∀b,Pr b->w'.heap[b]?=w.heap[b]?) (hp:∀b,Pr b->ak b) {e:Ty} {row:List e.D} {v:Value} (hb:∀b,mF v=some b->w'.heap[b]?=w.heap[b]?) (h:kJ w Pr e row v):kJ w' ak e row v:=by
 rcases h with h|⟨blk,off,cap,cells,el,h1,h2,h3,h4,h5⟩
 ·exact .inl h
 ·refine .inr ⟨blk,off,cap,cells,el,h1,h2,by rw [hb blk (by rw [h1];rfl)];exact h3,h4,λ i y hi=> ?_⟩
  obtain ⟨us,k1,k2⟩:=h5 i y hi
  exact ⟨us,k1,k2.move hw hp⟩
theorem az.move {κ:Nat} {o:Ob} (hw:∀b,Pr b->w'.heap[b]?=w.heap[b]?) (hp:∀b,Pr b->ak b) (hb:real R κ o->w'.heap[(R κ).blk]?=w.heap[(R κ).blk]?) (hk:R' κ=R κ)
 (hr:∀κ∈o.refs,R' κ=R κ) (h:az w R Pr κ o) (hin:∀b,bM w R κ o b->w'.heap[b]?=w.heap[b]?:=by exact λ _ _=>rfl):az w' R' ak κ o:=by
 cases o with
 |box cs=>
  obtain ⟨el,vs,h1,h2⟩:=h
  exact ⟨el,vs,by rw [hk,hb trivial,h1],h2.mono λ a ha b hb=>au.move hw hp (λ κ aa=>hr κ (List.mem_flatMap.2 ⟨a,ha,aa⟩)) hb⟩
 |vec e l=>
  obtain ⟨h0,h⟩:=h
  refine ⟨by rw [hk,h0], ?_⟩
  rcases h with ⟨h1,h2⟩|⟨off,cap,cells,el,h1,h2,h3,h4,h5⟩
  ·exact .inl ⟨by rw [hk,h1],h2⟩
  ·have aq:real R κ (.vec e l):=λ h=>by rw [h] at h1;cases h1
   refine .inr ⟨off,cap,cells,el,by rw [hk,h1],h2,by rw [hk,hb aq,h3],h4,λ i y hi=> ?_⟩
   obtain ⟨us,k1,k2⟩:=h5 i y hi
   exact ⟨us,k1,ay.move hw hp k2⟩
 |set l=>
  obtain ⟨es,clock,h1,h2⟩:=h
  exact ⟨es,clock,by rw [hk,hb trivial,h1],h2⟩
 |rows e ll hh t m xs=>
  obtain ⟨h0,⟨h1,h2⟩|⟨off,cap,cells,el,h1,h2,h3,h4,h5,h6,h7,h8⟩⟩:=h
  ·exact ⟨by rw [hk,h0],.inl ⟨by rw [hk,h1],h2⟩⟩
  refine ⟨by rw [hk,h0],.inr ⟨off,cap,cells,el,by rw [hk,h1],h2,by rw [hk,hb (λ z=>by rw [z] at h1;cases h1),h3],h4,λ j row hj hne=> ?_,h6,h7,λ j x hm hx=>by obtain ⟨us,q1,q2⟩:=h8 j x hm hx;exact ⟨us,q1,q2.move hw hp⟩⟩⟩
  obtain ⟨v,k1,k2⟩:=h5 j row hj hne
  exact ⟨v,k1,k2.move hw hp λ b CL=>hin b ⟨off,_,cap,cells,el,j,v,h1,h3,(List.getElem?_eq_some_iff.1 hj).1,hne,k1,CL⟩⟩
 |cG e x=>
  obtain ⟨h0,cells,el,fr,us,h1,h2,h3⟩:=h
  exact ⟨by rw [hk];exact hp _ h0,cells,el,fr,us,by rw [hk,hw _ h0,h1],h2,h3.move hw hp⟩
 |map K V l it=>
  obtain ⟨es,clock,h1,h2,h3,h4,h5⟩:=h
  refine ⟨es,clock,by rw [hk,hb trivial,h1],h2,h3,λ i kv en hx he=>(h4 i kv en hx he).move hw hp,λ d L cur hL=> ?_⟩
  subst hL
  obtain ⟨since,seen,g1,g2⟩:=h5 d L cur rfl
  exact ⟨since,seen,by rw [hk,hr d (by simp [Ob.refs]),hin _ ⟨d,_,rfl,rfl⟩,g1],g2⟩
 |tok κ=>trivial
theorem az.eF {κ:Nat} {o:Ob} {b:Nat} (h:az w R Pr κ o) (hi:bM w R κ o b):b <w.heap.size:=by
 cases o with
 |rows e ll hh t m xs=>
  obtain ⟨off',n,cap',cells',yG,j,v,g1,g2,g3,g4,g5,g6⟩:=hi
  obtain ⟨h0,⟨h1,_⟩|⟨off,cap,cells,el,h1,h2,h3,h4,h5,h6⟩⟩:=h
  ·rw [h1] at g1;cases g1
  rw [h1] at g1
  rw [h3] at g2
  cases g1;cases g2
  obtain ⟨v',k1,k2⟩:=h5 j _ (List.getElem?_eq_getElem g3) g4
  rw [g5] at k1;cases k1
  rcases k2 with ⟨rfl,_⟩|⟨blk,o2,c2,ce,sM,rfl,m2,m3,_⟩
  ·cases g6
  ·have g7:blk=b:=by simpa [mF] using g6
   subst g7
   rcases Nat.lt_or_ge blk w.heap.size with g|g
   ·exact g
   ·rw [Array.getElem?_eq_none g] at m3;cases m3
 |map K V l it=>
  obtain ⟨es,clock,h1,h2,h3,h4,h5⟩:=h
  obtain ⟨d,⟨L,cur⟩,rfl,rfl⟩:=hi
  obtain ⟨since,seen,k1,_⟩:=h5 d L cur rfl
  rcases Nat.lt_or_ge (R d).blk w.heap.size with g|g
  ·exact g
  ·rw [Array.getElem?_eq_none g] at k1;cases k1
 |_=>exact hi.elim
theorem az.lt {κ:Nat} {o:Ob} (aq:real R κ o) (h:az w R Pr κ o):(R κ).blk <w.heap.size:=by
 have key:∀(x:Obj),w.heap[(R κ).blk]?=some x->(R κ).blk <w.heap.size:=λ x hx=>by
  rcases Nat.lt_or_ge (R κ).blk w.heap.size with g|g
  ·exact g
  ·rw [Array.getElem?_eq_none g] at hx;cases hx
 cases o with
 |box cs=>obtain ⟨el,vs,h1,_⟩:=h;exact key _ h1
 |set l=>obtain ⟨es,clock,h1,_⟩:=h;exact key _ h1
 |cG _ _=>exact aq.elim
 |tok _=>exact aq.elim
 |map _ _ _ _=>obtain ⟨es,clock,h1,_⟩:=h;exact key _ h1
 |rows e ll hh t m xs=>obtain ⟨_,⟨h1,_⟩|⟨off,cap,cells,el,_,_,h3,_⟩⟩:=h
                       ·exact (aq h1).elim
                       ·exact key _ h3
 |vec e l=>
  rcases h.2 with ⟨h1,_⟩|⟨off,cap,cells,el,_,_,h3,_⟩
  ·exact (aq h1).elim
  ·exact key _ h3
theorem kJ.data {e:Ty} {row:List e.D} {v:Value} (hp:∀b,Pr b->ak b) (hin:∀b,mF v=some b->ak b) (k2:kJ w Pr e row v):ay w ak (.sl false e) row [v]:=by
 rcases k2 with ⟨rfl,rfl⟩|⟨blk,o2,c2,ce,sM,rfl,m2,m3,m4,m5⟩
 ·exact ⟨none,0,rfl,Nat.le_refl _,λ _=>rfl,λ h=>(h rfl).elim⟩
 ·refine ⟨_,c2,rfl,m2,(λ z=>by cases z),λ _=>⟨blk,o2,ce,sM,_,rfl,hin _ rfl,m3,λ j z hj=> ?_⟩⟩
  obtain ⟨us,q1,q2⟩:=m5 j z hj
  exact ⟨us,q1,q2.move (λ _ _=>rfl) hp⟩
theorem az.y8 {κ:Nat} {e:Ty} {ll:List (List e.D)} {tt:Ty} {xs:List tt.D} (h:az w R Pr κ (.rows e ll none tt 0 xs)) (hp:∀b,Pr b->ak b) (hin:∀b,bM w R κ (.rows e ll none tt 0 xs) b->ak b):az w R ak κ (.vec (.sl false e) ll):=by
 obtain ⟨h0,⟨h1,rfl,_⟩|⟨off,cap,cells,el,h1,h2,h3,h4,h5,h6,_⟩⟩:=h
 ·exact ⟨h0,.inl ⟨h1,rfl⟩⟩
 refine ⟨h0,.inr ⟨off,cap,cells,el,h1,h2,h3,by simpa [Ty.n] using h4,λ i y hi=> ?_⟩⟩
 obtain ⟨v,k1,k2⟩:=h5 i y hi (by simp)
 rw [oH] at k1
 refine ⟨[v],λ c u hu=> ?_,k2.data hp (λ b hb=>hin b ⟨off,_,cap,cells,el,i,v,h1,h3,(List.getElem?_eq_some_iff.1 hi).1,by simp,by rw [oH];exact k1,hb⟩)⟩
 cases c with
 |zero=>simp only [List.getElem?_cons_zero] at hu;cases hu;simpa [Ty.n] using k1
 |succ c=>simp at hu
theorem az.y9 {κ:Nat} {e:Ty} {ll:List (List e.D)} {tt:Ty} {mm:Nat} {xs:List tt.D} (h:az w R Pr κ (.rows e ll none tt (mm+1) xs)) (hp:∀b,Pr b->ak b) (hin:∀b,bM w R κ (.rows e ll none tt (mm+1) xs) b->ak b):az w R ak κ (.vec (eR tt (.sl false e)) (gB tt e xs ll)):=by
 obtain ⟨h0,⟨h1,rfl,rfl⟩|⟨off,cap,cells,el,h1,h2,h3,h4,h5,h6,h7,h8⟩⟩:=h
 ·exact ⟨h0,.inl ⟨h1,rfl⟩⟩
 obtain ⟨hm,hx⟩:mm+1=tt.n/\xs.length=ll.length:=by rcases h7 with z|z; · cases z
                                                   ·exact z
 have hzl:(gB tt e xs ll).length=ll.length:=rF hx
 have hn:(eR tt (.sl false e)).n=mm+1+1:=by rw [zo];simp only [Ty.n, <-hm]
 refine ⟨by rw [h0,hzl],.inr ⟨off,cap,cells,el,by rw [hzl];exact h1,by rw [hzl];exact h2,h3,by rw [hn];exact h4,λ i y hi=> ?_⟩⟩
 obtain ⟨y1,y2,hi1,hi2,rfl⟩:=rE hi
 obtain ⟨us,q1,q2⟩:=h8 i y1 (Nat.succ_ne_zero _) hi1
 obtain ⟨v,k1,k2⟩:=h5 i y2 hi2 (by simp)
 have gv:us.length=mm+1:=by rw [ay.len q2,hm]
 refine ⟨us++[v],λ c u hu=> ?_,(q2.move (λ _ _=>rfl) hp).snoc (k2.data hp (λ b hb=>hin b ⟨off,_,cap,cells,el,i,v,h1,h3,(List.getElem?_eq_some_iff.1 hi2).1,by simp,k1,hb⟩))⟩
 rw [hn]
 by_cases g:c <us.length
 ·rw [List.getElem?_append_left g] at hu
  exact q1 c u hu
 ·rw [List.getElem?_append_right (by omega)] at hu
  have hc:c=us.length:=by
   rcases Nat.lt_or_ge c (us.length+1) with z|z
   ·omega
   ·rw [List.getElem?_eq_none (by simp;omega)] at hu;cases hu
  subst hc
  simp only [Nat.sub_self,List.getElem?_cons_zero] at hu
  cases hu
  rw [gv,Nat.add_assoc]
  exact k1
end
structure Grow (w w':World):Prop where
 sz:w.heap.size<=w'.heap.size
 os:w'.os=w.os
 tape:w'.tape=w.tape
 output:w'.output=w.output
 dr:w.drawn<=w'.drawn
theorem Grow.refl (w:World):Grow w w:=⟨Nat.le_refl _,rfl,rfl,rfl,Nat.le_refl _⟩
theorem Grow.trans {w w' w'':World} (h:Grow w w') (k:Grow w' w''):Grow w w'':=⟨Nat.le_trans h.sz k.sz,k.os.trans h.os,k.tape.trans h.tape,k.output.trans h.output,Nat.le_trans h.dr k.dr⟩
structure Inv (w0:World) (Fz av:Nat->Prop) (Lo:Nat->RL) (R:Nat->RL) (Pr:Nat->Prop) (σ:St) (a:Act) (w:World):Prop where
 tm:∀t,aA w R Pr (σ.get t) (a.tmps.getD t undef)
 sz:σ.tmps.length<=a.tmps.size
 ob:∀κ o,σ.ob κ=some o->az w R Pr κ o
 un:∀κ o,σ.ob κ=some o->real R κ o-> ¬Pr (R κ).blk/\ ¬Fz (R κ).blk
 ds:∀κ af o o',σ.ob κ=some o->σ.ob af=some o'->real R κ o->real R af o'->κ≠af->(R κ).blk≠(R af).blk
 wt:∀t κ,κ∈(σ.get t).refs->σ.ob κ≠none
 wo:∀af o κ,σ.ob af=some o->κ∈o.refs->σ.ob κ≠none
 fz:∀b,Fz b->b <w0.heap.size/\w.heap[b]?=w0.heap[b]?
 pr:∀b,Pr b->b <w.heap.size
 po:∀b,b <w0.heap.size->Pr b->av b
 sm:Grow w0 w
 df:a.defers=[]
 fx:∀κ,κ <σ.objs.length % 16->R κ=Lo κ
 lm:∀κ o b,σ.ob κ=some o->bM w R κ o b-> ¬Pr b/\ ¬Fz b/\∀af o',σ.ob af=some o'->(real R af o'->(R af).blk≠b)/\(af≠κ-> ¬bM w R af o' b)
def fE (d len:Nat):Bool:=d.blt len && (len % 16).ble d
theorem ct {d len:Nat} (h:fE d len=true):d <len:=by
 simp only [fE,Bool.and_eq_true,Nat.blt_eq] at h
 exact h.1
theorem pZ {d len:Nat} (h:fE d len=true):len % 16<=d:=by
 simp only [fE,Bool.and_eq_true,Nat.ble_eq] at h
 exact h.2
theorem bE {α:Type} (l:List α) (i j:Nat) (v d:α):(l.set i v).getD j d=if i=j/\i <l.length then v else l.getD j d:=by
 simp only [List.getD_eq_getElem?_getD,List.getElem?_set]
 by_cases h:i=j
 ·subst h
  by_cases g:i <l.length
  ·simp [g]
  ·simp [g,List.getElem?_eq_none (Nat.le_of_not_lt g)]
 ·simp [h]
section
variable {w0:World} {Fz av:Nat->Prop} {Lo:Nat->RL} {R:Nat->RL} {Pr:Nat->Prop} {σ:St} {a:Act} {w:World}
theorem St.jd (d t:Nat) (v:AV):(σ.put (some d) v).get t=if d=t/\d <σ.tmps.length then v else σ.get t:=bE _ _ _ _ _
theorem St.pW (d:Option Nat) (v:AV) (κ:Nat):(σ.put d v).ob κ=σ.ob κ:=by cases d<;>rfl
theorem St.aL (κ af:Nat) (o:Option Ob):(σ.aK κ o).ob af=if κ=af/\κ <σ.objs.length then o else σ.ob af:=bE _ _ _ _ _
theorem St.A9 (κ t:Nat) (o:Option Ob):(σ.aK κ o).get t=σ.get t:=rfl
theorem Act.sW (a:Act) (d t:Nat) (u:Value):(a.put (some d) u).tmps.getD t undef=if d=t/\d <a.tmps.size then u else a.tmps.getD t undef:=by
 simp only [Act.put,Array.getD_eq_getD_getElem?,Array.getElem?_setIfInBounds]
 by_cases h:d=t
 ·subst h
  by_cases g:d <a.tmps.size
  ·simp [g]
  ·simp [g,Array.getElem?_eq_none (Nat.le_of_not_lt g)]
 ·simp [h]
theorem Inv.put (h:Inv w0 Fz av Lo R Pr σ a w) (dst:Option Nat) (v:AV) (u:Value) (hv:aA w R Pr v u) (hr:∀κ∈v.refs,σ.ob κ≠none):Inv w0 Fz av Lo R Pr (σ.put dst v) (a.put dst u) w:=by
 cases dst with
 |none=>exact h
 |some d=>
  refine { h with tm:=λ t=> ?_,sz:= ?_,wt:=λ t κ hk=> ?_,df:=h.df,fx:=h.fx,ob:=h.ob,un:=h.un,ds:=h.ds,wo:=h.wo,lm:=h.lm }
  ·rw [St.jd,Act.sW]
   have:=h.sz
   by_cases g:d=t/\d <σ.tmps.length
   ·rw [if_pos g,if_pos ⟨g.1,by omega⟩];exact hv
   ·rw [if_neg g]
    by_cases g2:d=t/\d <a.tmps.size
    ·have:σ.get t=bA:=by
      obtain ⟨g3,g4⟩:=g2
      subst g3
      have g5: ¬d <σ.tmps.length:=λ x=>g ⟨rfl,x⟩
      unfold St.get
      rw [List.getD_eq_getElem?_getD,List.getElem?_eq_none (by omega)];rfl
     rw [this];trivial
    ·rw [if_neg g2];exact h.tm t
  ·have:=h.sz
   simp only [St.put,Act.put,List.length_set,Array.size_setIfInBounds];exact this
  ·rw [St.jd] at hk
   rw [St.pW]
   split at hk
   ·exact hr κ hk
   ·exact h.wt t κ hk
theorem Inv.world (h:Inv w0 Fz av Lo R Pr σ a w) {w':World} {ak:Nat->Prop} (hw:∀b,b <w.heap.size->w'.heap[b]?=w.heap[b]?) (hg:Grow w w') (hp:∀b,Pr b->ak b)
 (hp1:∀b,ak b->b <w.heap.size->Pr b) (hp2:∀b,ak b->b <w'.heap.size):Inv w0 Fz av Lo R ak σ a w':=by
 have hs:=hg.sz
 have hwp:∀b,Pr b->w'.heap[b]?=w.heap[b]?:=λ b hb=>hw b (h.pr b hb)
 refine { h with tm:=λ t=>aA.move hwp hp (λ _ _=>rfl) (h.tm t),ob:=λ κ o ho=> ?_,un:=λ κ o ho aq=> ?_,fz:=λ b hb=> ?_,pr:=hp2,po:=λ b hb g=> ?_,sm:=h.sm.trans hg,lm:=λ κ o b ho hb=> ?_ }
 ·exact az.move hwp hp (λ aq=>hw _ (az.lt aq (h.ob κ o ho))) rfl (λ _ _=>rfl) (h.ob κ o ho) (λ b hb=>hw b ((h.ob κ o ho).eF hb))
 ·have:=h.un κ o ho aq
  exact ⟨λ g=>this.1 (hp1 _ g (az.lt aq (h.ob κ o ho))),this.2⟩
 ·have:=h.fz b hb
  have g:=h.sm.sz
  exact ⟨this.1,(hw b (by omega)).trans this.2⟩
 ·have g1:=h.sm.sz
  exact h.po b hb (hp1 b g (by omega))
 ·have hbk:∀κ o,σ.ob κ=some o->real R κ o->w'.heap[(R κ).blk]?=w.heap[(R κ).blk]?:=λ κ o ho aq=>hw _ (az.lt aq (h.ob κ o ho))
  have hb0:=hb.back rfl (hbk κ o ho)
  obtain ⟨a1,a2,a3⟩:=h.lm κ o b ho hb0
  refine ⟨λ z=>a1 (hp1 b z ((h.ob κ o ho).eF hb0)),a2,λ af o' ho'=>⟨(a3 af o' ho').1,λ hne hi=>(a3 af o' ho').2 hne (hi.back rfl (hbk af o' ho'))⟩⟩
theorem Inv.same (h:Inv w0 Fz av Lo R Pr σ a w) {w':World} (hw:w'.heap=w.heap) (hg:Grow w w'):Inv w0 Fz av Lo R Pr σ a w':=
 h.world (λ b _=>by rw [hw]) hg (λ _ h=>h) (λ _ h _=>h) (λ b hb=>by rw [hw];exact h.pr b hb)
theorem Inv.add (h:Inv w0 Fz av Lo R Pr σ a w) (d:Nat) (o:Ob) (loc:RL) (hd:σ.ob d=none) (hok:fE d σ.objs.length=true) {R':Nat->RL} (hR:R'=λ κ=>if κ=d then loc else R κ)
 (ho:az w R' Pr d o) (nS:∀κ∈o.refs,σ.ob κ≠none) (hun:real R' d o-> ¬Pr loc.blk/\ ¬Fz loc.blk/\∀κ o',σ.ob κ=some o'->(real R κ o'->(R κ).blk≠loc.blk)/\ ¬bM w R κ o' loc.blk) (hni:∀b,¬bM w R' d o b:=by exact λ _ h=>h):
 Inv w0 Fz av Lo R' Pr (σ.aK d (some o)) a w:=by
 have hlt:=ct hok
 have z8:∀κ,κ <(σ.aK d (some o)).objs.length % 16->R' κ=Lo κ:=λ κ aa=>by
  have aa:κ <σ.objs.length % 16:=by simpa [St.aK] using aa
  have Cq:=pZ hok
  rw [hR];simp only;rw [if_neg (by omega)];exact h.fx κ aa
 have dn:R' d=loc:=by rw [hR];simp
 have cA:∀κ,κ≠d->R' κ=R κ:=λ κ hk=>by rw [hR];simp [hk]
 have ez:∀κ,σ.ob κ≠none->κ≠d:=λ κ hk e=>hk (e▸hd)
 have aj:∀κ x,(σ.aK d (some o)).ob κ=some x->(κ=d/\x=o)\/(κ≠d/\σ.ob κ=some x):=λ κ x hx=>by
  rw [St.aL] at hx
  by_cases g:d=κ
  ·rw [if_pos ⟨g,hlt⟩] at hx;cases hx;exact .inl ⟨g.symm,rfl⟩
  ·rw [if_neg (λ z=>g z.1)] at hx;exact .inr ⟨λ z=>g z.symm,hx⟩
 have hne:∀κ,σ.ob κ≠none->(σ.aK d (some o)).ob κ≠none:=λ κ hk=>by
  rw [St.aL,if_neg (λ z=>ez κ hk z.1.symm)];exact hk
 have dQ:∀κ x,κ≠d->real R' κ x->real R κ x:=λ κ x hk hx=>by
  cases x with
  |box _=>trivial
  |set _=>trivial
  |rows _ _ _ _ _ _=>simp only [real] at hx ⊢; rw [cA κ hk] at hx;exact hx
  |cG _ _=>exact hx
  |tok _=>exact hx
  |map _ _ _ _=>trivial
  |vec _ _=>simp only [real] at hx ⊢; rw [cA κ hk] at hx;exact hx
 have CE:∀κ x,κ≠d->real R κ x->real R' κ x:=λ κ x hk hx=>by
  cases x with
  |box _=>trivial
  |set _=>trivial
  |rows _ _ _ _ _ _=>simp only [real] at hx ⊢; rw [cA κ hk];exact hx
  |cG _ _=>exact hx
  |tok _=>exact hx
  |map _ _ _ _=>trivial
  |vec _ _=>simp only [real] at hx ⊢; rw [cA κ hk];exact hx
 refine { h with tm:=λ t=> ?_,ob:=λ κ x hx=> ?_,un:=λ κ x hx aq=> ?_,ds:=λ κ af x x' hx hx' aq dK hkk=> ?_,wt:=λ t κ hk=>hne κ (h.wt t κ hk),wo:=λ af x κ hx hk=> ?_,sz:=h.sz,fx:=z8,lm:=λ κ x b hx hb=> ?_ }
 ·exact aA.move (λ _ _=>rfl) (λ _ h=>h) (λ κ hk=>cA κ (ez κ (h.wt t κ hk))) (h.tm t)
 ·rcases aj κ x hx with ⟨rfl,rfl⟩|⟨hk,hx⟩
  ·exact ho
  ·exact az.move (λ _ _=>rfl) (λ _ h=>h) (λ _=>rfl) (cA κ hk) (λ ah hk1=>cA ah (ez ah (h.wo κ x ah hx hk1))) (h.ob κ x hx)
 ·rcases aj κ x hx with ⟨rfl,rfl⟩|⟨hk,hx⟩
  ·rw [dn];exact ⟨(hun aq).1,(hun aq).2.1⟩
  ·rw [cA κ hk];exact h.un κ x hx (dQ κ x hk aq)
 ·rcases aj κ x hx with ⟨rfl,rfl⟩|⟨hk,hy⟩
  ·rcases aj af x' hx' with ⟨rfl,rfl⟩|⟨hk',hy'⟩
   ·exact (hkk rfl).elim
   ·rw [dn,cA af hk'];exact ((hun aq).2.2 af x' hy').1 (dQ af x' hk' dK) |>.symm
  ·rcases aj af x' hx' with ⟨rfl,rfl⟩|⟨hk',hy'⟩
   ·rw [dn,cA κ hk];exact ((hun dK).2.2 κ x hy).1 (dQ κ x hk aq)
   ·rw [cA κ hk,cA af hk'];exact h.ds κ af x x' hy hy' (dQ κ x hk aq) (dQ af x' hk' dK) hkk
 ·rcases aj af x hx with ⟨rfl,rfl⟩|⟨hk',hx⟩
  ·exact hne κ (nS κ hk)
  ·exact hne κ (h.wo af x κ hx hk)
 ·rcases aj κ x hx with ⟨rfl,rfl⟩|⟨hk,hy⟩
  ·exact (hni b hb).elim
  ·have hb0:=hb.back (w:=w) (cA κ hk) (λ _=>rfl) (λ ah hk1=>cA ah (ez ah (h.wo κ x ah hy hk1)))
   obtain ⟨a1,a2,a3⟩:=h.lm κ x b hy hb0
   refine ⟨a1,a2,λ af x' hx'=> ?_⟩
   rcases aj af x' hx' with ⟨rfl,rfl⟩|⟨hk',hy'⟩
   ·refine ⟨λ aq e=> ?_,λ _ hi=>hni b hi⟩
    rw [dn] at e
    exact ((hun aq).2.2 κ x hy).2 (e▸hb0)
   ·refine ⟨λ aq=>by rw [cA af hk'];exact (a3 af x' hy').1 (dQ af x' hk' aq),λ hne hi=>(a3 af x' hy').2 hne (hi.back (w:=w) (cA af hk') (λ _=>rfl) (λ ah hk1=>cA ah (ez ah (h.wo af x' ah hy' hk1))))⟩
theorem Inv.upd (h:Inv w0 Fz av Lo R Pr σ a w) (κ:Nat) (o o':Ob) (aa:σ.ob κ=some o) {w':World} {R':Nat->RL} (hR:∀af,af≠κ->R' af=R af)
 (hk:R' κ=R κ\/((∀t,κ∉(σ.get t).refs)/\(∀af x,σ.ob af=some x->κ∉x.refs)/\fE κ σ.objs.length=true))
 (hw:∀b,b <w.heap.size->(real R κ o->b≠(R κ).blk)->w'.heap[b]?=w.heap[b]?) (hg:Grow w w')
 (hb:real R' κ o'->w.heap.size<=(R' κ).blk\/(real R κ o/\(R' κ).blk=(R κ).blk))
 (ho:az w' R' Pr κ o') (nS:∀af∈o'.refs,σ.ob af≠none) (Bf:∀b,bM w' R' κ o' b-> ¬Pr b/\ ¬Fz b/\(R' κ).blk≠b/\∀ah o1,ah≠κ->σ.ob ah=some o1->(real R ah o1->(R ah).blk≠b)/\ ¬bM w R ah o1 b:=by exact λ _ h=>h.elim):
 Inv w0 Fz av Lo R' Pr (σ.aK κ (some o')) a w':=by
 have hs:=hg.sz
 have hlt:κ <σ.objs.length:=by
  rcases Nat.lt_or_ge κ σ.objs.length with g|g
  ·exact g
  ·unfold St.ob at aa;rw [List.getD_eq_getElem?_getD,List.getElem?_eq_none g] at aa;cases aa
 have aj:∀ah x,(σ.aK κ (some o')).ob ah=some x->(ah=κ/\x=o')\/(ah≠κ/\σ.ob ah=some x):=λ ah x hx=>by
  rw [St.aL] at hx
  by_cases g:κ=ah
  ·rw [if_pos ⟨g,hlt⟩] at hx;cases hx;exact .inl ⟨g.symm,rfl⟩
  ·rw [if_neg (λ z=>g z.1)] at hx;exact .inr ⟨λ z=>g z.symm,hx⟩
 have hne:∀ah,σ.ob ah≠none->(σ.aK κ (some o')).ob ah≠none:=λ ah hk1=>by
  rw [St.aL]
  split
  ·simp
  ·exact hk1
 have Cm:∀t,∀ah∈(σ.get t).refs,R' ah=R ah:=λ t ah h1=>by
  by_cases e:ah=κ
  ·subst e
   rcases hk with hk|hk
   ·exact hk
   ·exact (hk.1 t h1).elim
  ·exact hR ah e
 have rj:∀aH x,σ.ob aH=some x->∀ah∈x.refs,R' ah=R ah:=λ aH x hx ah h1=>by
  by_cases e:ah=κ
  ·subst e
   rcases hk with hk|hk
   ·exact hk
   ·exact (hk.2.1 aH x hx h1).elim
  ·exact hR ah e
 have eE:∀b,Pr b->w'.heap[b]?=w.heap[b]?:=λ b ig=>hw b (h.pr b ig) (λ aq e=>(h.un κ o aa aq).1 (e▸ig))
 have dQ:∀ah x,ah≠κ->real R' ah x->real R ah x:=λ ah x hk1 hx=>by
  cases x with
  |box _=>trivial
  |set _=>trivial
  |rows _ _ _ _ _ _=>simp only [real] at hx ⊢; rw [hR ah hk1] at hx;exact hx
  |cG _ _=>exact hx
  |tok _=>exact hx
  |map _ _ _ _=>trivial
  |vec _ _=>simp only [real] at hx ⊢; rw [hR ah hk1] at hx;exact hx
 have pG:=h.sm.sz
 have z8:∀af,af <(σ.aK κ (some o')).objs.length % 16->R' af=Lo af:=λ af aD=>by
  have hk2:af <σ.objs.length % 16:=by simpa [St.aK] using aD
  by_cases e:af=κ
  ·subst e
   rcases hk with hk|hk
   ·rw [hk];exact h.fx _ hk2
   ·have:=pZ hk.2.2;omega
  ·rw [hR af e];exact h.fx af hk2
 refine { h with lm:=λ ah x b hx ig=> ?_,fx:=z8,tm:=λ t=>aA.move eE (λ _ h=>h) (Cm t) (h.tm t),ob:=λ ah x hx=> ?_,un:=λ ah x hx aq=> ?_,ds:=λ ah aH x x' hx hx' aq dK hkk=> ?_,wt:=λ t ah hk1=>hne ah (h.wt t ah hk1),wo:=λ aH x ah hx hk1=> ?_,sz:=h.sz,fz:=λ b ig=> ?_,pr:=λ b ig=>by have:=h.pr b ig;omega,sm:=h.sm.trans hg }
 ·rcases aj ah x hx with ⟨rfl,rfl⟩|⟨hk1,hx⟩
  ·exact ho
  ·exact az.move eE (λ _ h=>h) (λ aq=>hw _ (az.lt aq (h.ob ah x hx)) (λ j7=>h.ds ah κ x o hx aa aq j7 hk1)) (hR ah hk1) (rj ah x hx) (h.ob ah x hx) (λ b ig=>hw b ((h.ob ah x hx).eF ig) (λ j7 e=>((h.lm ah x b hx ig).2.2 κ o aa).1 j7 e.symm))
 ·rcases aj ah x hx with ⟨rfl,rfl⟩|⟨hk1,hx⟩
  ·rcases hb aq with g|⟨g1,g2⟩
   ·exact ⟨λ z=>by have:=h.pr _ z;omega,λ z=>by have:=(h.fz _ z).1;omega⟩
   ·rw [g2];exact h.un ah o aa g1
  ·rw [hR ah hk1];exact h.un ah x hx (dQ ah x hk1 aq)
 ·rcases aj ah x hx with ⟨rfl,rfl⟩|⟨hk1,hy⟩
  ·rcases aj aH x' hx' with ⟨rfl,rfl⟩|⟨hk2,hy'⟩
   ·exact (hkk rfl).elim
   ·rw [hR aH hk2]
    have j7:=dQ aH x' hk2 dK
    rcases hb aq with g|⟨g1,g2⟩
    ·have:=az.lt j7 (h.ob aH x' hy');omega
    ·rw [g2];exact h.ds ah aH o x' aa hy' g1 j7 hkk
  ·rcases aj aH x' hx' with ⟨rfl,rfl⟩|⟨hk2,hy'⟩
   ·rw [hR ah hk1]
    have jx:=dQ ah x hk1 aq
    rcases hb dK with g|⟨g1,g2⟩
    ·have:=az.lt jx (h.ob ah x hy);omega
    ·rw [g2];exact h.ds ah aH x o hy aa jx g1 hkk
   ·rw [hR ah hk1,hR aH hk2];exact h.ds ah aH x x' hy hy' (dQ ah x hk1 aq) (dQ aH x' hk2 dK) hkk
 ·rcases aj aH x hx with ⟨rfl,rfl⟩|⟨hk2,hx⟩
  ·exact hne ah (nS ah hk1)
  ·exact hne ah (h.wo aH x ah hx hk1)
 ·have:=h.fz b ig
  refine ⟨this.1,(hw b (by omega) (λ aq e=>(h.un κ o aa aq).2 (e▸ig))).trans this.2⟩
 ·have hbk:∀aH y,aH≠κ->σ.ob aH=some y->real R aH y->w'.heap[(R aH).blk]?=w.heap[(R aH).blk]?:=λ aH y hk2 hy aq=>hw _ (az.lt aq (h.ob aH y hy)) (λ j7=>h.ds aH κ y o hy aa aq j7 hk2)
  rcases aj ah x hx with ⟨rfl,rfl⟩|⟨hk1,hx1⟩
  ·obtain ⟨a1,a2,a3,a4⟩:=Bf b ig
   refine ⟨a1,a2,λ aH y hy=> ?_⟩
   rcases aj aH y hy with ⟨rfl,rfl⟩|⟨hk2,hy⟩
   ·exact ⟨λ _=>a3,λ hne=>(hne rfl).elim⟩
   ·obtain ⟨c1,c2⟩:=a4 aH y hk2 hy
    exact ⟨λ aq=>by rw [hR aH hk2];exact c1 (dQ aH y hk2 aq),λ _ hi=>c2 (hi.back (hR aH hk2) (hbk aH y hk2 hy) (rj aH y hy))⟩
  ·have hb0:=ig.back (hR ah hk1) (hbk ah x hk1 hx1) (rj ah x hx1)
   obtain ⟨a1,a2,a3⟩:=h.lm ah x b hx1 hb0
   refine ⟨a1,a2,λ aH y hy=> ?_⟩
   rcases aj aH y hy with ⟨rfl,rfl⟩|⟨hk2,hy⟩
   ·refine ⟨λ aq e=> ?_,λ hne hi=> ?_⟩
    ·rcases hb aq with g|⟨g1,g2⟩
     ·have:=(h.ob ah x hx1).eF hb0;omega
     ·exact (a3 aH o aa).1 g1 (g2▸e)
    ·exact ((Bf b hi).2.2.2 ah x hk1 hx1).2 hb0
   ·exact ⟨λ aq=>by rw [hR aH hk2];exact (a3 aH y hy).1 (dQ aH y hk2 aq),λ hne hi=>(a3 aH y hy).2 hne (hi.back (hR aH hk2) (hbk aH y hk2 hy) (rj aH y hy))⟩
theorem Inv.weak (h:Inv w0 Fz av Lo R Pr σ a w) (σ':St) (hl:σ'.tmps.length<=a.tmps.size) (uD:σ'.objs.length=σ.objs.length) (ht:∀t u,aA w R Pr (σ.get t) u->aA w R Pr (σ'.get t) u)
 (ho:∀κ o',σ'.ob κ=some o'->∃o,σ.ob κ=some o/\(az w R Pr κ o->az w R Pr κ o')/\(real R κ o'->real R κ o)/\∀b,bM w R κ o' b->bM w R κ o b)
 (As:∀t κ,κ∈(σ'.get t).refs->σ'.ob κ≠none) (CN:∀af o κ,σ'.ob af=some o->κ∈o.refs->σ'.ob κ≠none):Inv w0 Fz av Lo R Pr σ' a w:=by
 refine { h with fx:=λ κ aa=>h.fx κ (by rw [<-uD];exact aa),tm:=λ t=>ht t _ (h.tm t),sz:=hl,ob:=λ κ o' aa=> ?_,un:=λ κ o' aa aq=> ?_,ds:=λ κ af x x' hx hx' aq dK hkk=> ?_,wt:=As,wo:=CN,lm:=λ κ o' b aa hb=> ?_ }
 ·obtain ⟨o,h1,h2,_⟩:=ho κ o' aa
  exact h2 (h.ob κ o h1)
 ·obtain ⟨o,h1,_,h3,_⟩:=ho κ o' aa
  exact h.un κ o h1 (h3 aq)
 ·obtain ⟨o,h1,_,h3,_⟩:=ho κ x hx
  obtain ⟨o2,h4,_,h6,_⟩:=ho af x' hx'
  exact h.ds κ af o o2 h1 h4 (h3 aq) (h6 dK) hkk
 ·obtain ⟨o,h1,_,_,h4⟩:=ho κ o' aa
  obtain ⟨a1,a2,a3⟩:=h.lm κ o b h1 (h4 b hb)
  refine ⟨a1,a2,λ aH x hx=> ?_⟩
  obtain ⟨o2,g1,_,g3,g4⟩:=ho aH x hx
  exact ⟨λ aq=>(a3 aH o2 g1).1 (g3 aq),λ hne hi=>(a3 aH o2 g1).2 hne (g4 b hi)⟩
end
def aU (l:List (Option Ob)) (us:List (Nat×Ob)):List (Option Ob):=us.foldl (λ l p=>l.set p.1 (some p.2)) l
def St.aG (σ:St) (us:List (Nat×Ob)):St:=⟨σ.tmps,aU σ.objs us⟩
theorem gl:∀(us:List (Nat×Ob)) (l:List (Option Ob)),(aU l us).length=l.length
 | [],_=>rfl
 | (κ,o)::us,l=>by
   show (aU (l.set κ (some o)) us).length=_
   rw [gl us];simp
theorem rI:∀(us:List (Nat×Ob)) (l:List (Option Ob)) (κ:Nat) (o:Option Ob),κ∉us.map (·.1)->aU (l.set κ o) us=(aU l us).set κ o
 | [],_,_,_,_=>rfl
 | (af,o')::us,l,κ,o,h=>by
   show aU ((l.set κ o).set af (some o')) us=(aU (l.set af (some o')) us).set κ o
   have h1:κ≠af:=λ e=>h (by simp [e])
   rw [List.set_comm _ _ h1,rI us _ κ o (λ e=>h (by simp only [List.map_cons,List.mem_cons];exact .inr e))]
theorem iV:∀(us vs:List (Nat×Ob)) (l:List (Option Ob)),(∀κ∈us.map (·.1),κ∉vs.map (·.1))->aU (aU l us) vs=aU (aU l vs) us
 | [],_,_,_=>rfl
 | (κ,o)::us,vs,l,h=>by
   show aU (aU (l.set κ (some o)) us) vs=aU ((aU l vs).set κ (some o)) us
   rw [iV us vs _ (λ af aa=>h af (by simp only [List.map_cons,List.mem_cons];exact .inr aa)),rI vs l κ _ (h κ (by simp))]
theorem iD:∀(us:List (Nat×Ob)) (l:List (Option Ob)) (κ:Nat),κ∉us.map (·.1)->(aU l us).getD κ none=l.getD κ none
 | [],_,_,_=>rfl
 | (af,o)::us,l,κ,h=>by
   show (aU (l.set af (some o)) us).getD κ none=_
   have h1: ¬(af=κ/\af <l.length):=λ e=>h (by simp [e.1])
   rw [iD us _ κ (λ e=>h (by simp only [List.map_cons,List.mem_cons];exact .inr e)),bE,if_neg h1]
theorem cR (σ:St) (us:List (Nat×Ob)) (κ:Nat) (h:κ∉us.map (·.1)):(σ.aG us).ob κ=σ.ob κ:=iD us σ.objs κ h
theorem e7:∀(us:List (Nat×Ob)) (l:List (Option Ob)) (κ:Nat) (o:Ob),(κ,o)∈us->(us.map (·.1)).Nodup->κ <l.length->(aU l us).getD κ none=some o
 | (af,o')::us,l,κ,o,h,hnd,hl=>by
   show (aU (l.set af (some o')) us).getD κ none=_
   simp only [List.map_cons,List.nodup_cons] at hnd
   rcases List.mem_cons.1 h with e|e
   ·obtain ⟨rfl,rfl⟩:κ=af/\o=o':=by simpa using e
    rw [iD us _ κ hnd.1,bE,if_pos ⟨rfl,hl⟩]
   ·exact e7 us _ κ o e hnd.2 (by simpa using hl)
theorem c6 {σ:St} {κ:Nat} (h:σ.ob κ≠none):κ <σ.objs.length:=by
 rcases Nat.lt_or_ge κ σ.objs.length with g|g
 ·exact g
 ·exfalso;apply h;unfold St.ob;rw [List.getD_eq_getElem?_getD,List.getElem?_eq_none g];rfl
section
variable {w0:World} {Fz av:Nat->Prop} {Lo:Nat->RL} {R:Nat->RL} {Pr:Nat->Prop} {σ:St} {a:Act} {w:World}
theorem Inv.Dc (h:Inv w0 Fz av Lo R Pr σ a w) (us:List (Nat×Ob)) {w':World} {ak:Nat->Prop} (hnd:(us.map (·.1)).Nodup)
 (fD:∀κ o',(κ,o')∈us->∃o,σ.ob κ=some o/\(real R κ o'->real R κ o)/\az w' R ak κ o'/\(∀af∈o'.refs,σ.ob af≠none)/\∀b,¬bM w' R κ o' b)
 (hw:∀b,b <w.heap.size->(∀κ∈us.map (·.1),∀o,σ.ob κ=some o->real R κ o->b≠(R κ).blk)->w'.heap[b]?=w.heap[b]?)
 (hg:Grow w w') (hp:∀b,Pr b->ak b) (hp1:∀b,ak b->b <w.heap.size->Pr b) (hp2:∀b,ak b->b <w'.heap.size):
 Inv w0 Fz av Lo R ak (σ.aG us) a w':=by
 have hs:=hg.sz
 have pG:=h.sm.sz
 have eE:∀b,Pr b->w'.heap[b]?=w.heap[b]?:=λ b hb=>hw b (h.pr b hb) (λ κ _ o ho aq e=>(h.un κ o ho aq).1 (e▸hb))
 have aj:∀κ x,(σ.aG us).ob κ=some x->(κ,x)∈us\/(κ∉us.map (·.1)/\σ.ob κ=some x):=λ κ x hx=>by
  by_cases g:κ∈us.map (·.1)
  ·obtain ⟨⟨ah,o1⟩,h1,h2⟩:=List.mem_map.1 g
   simp only at h2
   subst h2
   obtain ⟨o,h3,_⟩:=fD _ o1 h1
   have:=e7 us σ.objs _ o1 h1 hnd (c6 (by rw [h3];simp))
   have hx':(aU σ.objs us).getD ah none=some x:=hx
   rw [this] at hx'
   cases hx';exact .inl h1
  ·rw [cR σ us κ g] at hx;exact .inr ⟨g,hx⟩
 have hne:∀κ,σ.ob κ≠none->(σ.aG us).ob κ≠none:=λ κ hk=>by
  by_cases g:κ∈us.map (·.1)
  ·obtain ⟨⟨ah,o1⟩,h1,h2⟩:=List.mem_map.1 g
   simp only at h2
   subst h2
   have:=e7 us σ.objs _ o1 h1 hnd (c6 hk)
   intro hx
   have hx':(aU σ.objs us).getD ah none=none:=hx
   rw [this] at hx';cases hx'
  ·rw [cR σ us κ g];exact hk
 have hold:∀κ x,(σ.aG us).ob κ=some x->real R κ x->∃o,σ.ob κ=some o/\real R κ o:=λ κ x hx aq=>by
  rcases aj κ x hx with g|g
  ·obtain ⟨o,h1,h2,_⟩:=fD κ x g
   exact ⟨o,h1,h2 aq⟩
  ·exact ⟨x,g.2,aq⟩
 refine { h with lm:=λ κ x b hx hb=> ?_,fx:=λ κ aa=>h.fx κ (by simpa [St.aG,gl] using aa),tm:=λ t=>aA.move eE hp (λ _ _=>rfl) (h.tm t),ob:=λ κ x hx=> ?_,un:=λ κ x hx aq=> ?_,ds:=λ ah aH x x' hx hx' aq dK hkk=> ?_,wt:=λ t κ hk=>hne κ (h.wt t κ hk),wo:=λ af x κ hx hk=> ?_,sz:=h.sz,fz:=λ b hb=> ?_,pr:=hp2,po:=λ b hb hb'=>h.po b hb (hp1 b hb' (by omega)),sm:=h.sm.trans hg }
 ·rcases aj κ x hx with g|⟨g1,g2⟩
  ·obtain ⟨_,_,_,k,_⟩:=fD κ x g;exact k
  ·exact az.move eE hp (λ aq=>hw _ (az.lt aq (h.ob κ x g2)) (λ ah bq o1 iq jx e=>h.ds κ ah x o1 g2 iq aq jx (λ z=>g1 (z▸bq)) e)) rfl (λ _ _=>rfl) (h.ob κ x g2) (λ b hb=>hw b ((h.ob κ x g2).eF hb) (λ ah _ o1 iq jx e=>((h.lm κ x b g2 hb).2.2 ah o1 iq).1 jx e.symm))
 ·obtain ⟨o,h1,h2⟩:=hold κ x hx aq
  have:=h.un κ o h1 h2
  exact ⟨λ z=>this.1 (hp1 _ z (az.lt h2 (h.ob κ o h1))),this.2⟩
 ·obtain ⟨o,h1,h2⟩:=hold ah x hx aq
  obtain ⟨o2,h3,h4⟩:=hold aH x' hx' dK
  exact h.ds ah aH o o2 h1 h3 h2 h4 hkk
 ·rcases aj af x hx with g|⟨g1,g2⟩
  ·obtain ⟨_,_,_,_,k,_⟩:=fD af x g;exact hne κ (k κ hk)
  ·exact hne κ (h.wo af x κ g2 hk)
 ·have:=h.fz b hb
  exact ⟨this.1,(hw b (by omega) (λ κ _ o ho aq e=>(h.un κ o ho aq).2 (e▸hb))).trans this.2⟩
 ·have hbk:∀aH y,aH∉us.map (·.1)->σ.ob aH=some y->real R aH y->w'.heap[(R aH).blk]?=w.heap[(R aH).blk]?:=λ aH y hk2 hy aq=>hw _ (az.lt aq (h.ob aH y hy)) (λ ah bq o1 iq jx e=>h.ds aH ah y o1 hy iq aq jx (λ z=>hk2 (z▸bq)) e)
  rcases aj κ x hx with g|⟨g1,g2⟩
  ·obtain ⟨_,_,_,_,_,k⟩:=fD κ x g;exact (k b hb).elim
  ·have hb0:=hb.back rfl (hbk κ x g1 g2)
   obtain ⟨a1,a2,a3⟩:=h.lm κ x b g2 hb0
   refine ⟨λ z=>a1 (hp1 b z ((h.ob κ x g2).eF hb0)),a2,λ aH y hy=> ?_⟩
   rcases aj aH y hy with m|⟨m1,m2⟩
   ·obtain ⟨o2,q1,q2,_,_,q5⟩:=fD aH y m
    exact ⟨λ aq=>(a3 aH o2 q1).1 (q2 aq),λ _ hi=>q5 b hi⟩
   ·exact ⟨(a3 aH y m2).1,λ hne hi=>(a3 aH y m2).2 hne (hi.back rfl (hbk aH y m1 m2))⟩
end
end Go.Rx
