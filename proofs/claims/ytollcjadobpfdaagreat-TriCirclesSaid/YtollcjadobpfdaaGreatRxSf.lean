/- Reflection, part Sf: slices.SortFunc off the kit's shelf, told as ours: rows of pairs of numbers, by a function without captured variables. -/
import Derived.Test.YtollcjadobpfdaaGreatRxW
import Derived.Shelf.SlSortCmp.NoneTotal
set_option linter.unusedVariables false
set_option linter.unusedSimpArgs false
set_option linter.unusedSectionVars false
namespace Go.Rx
open Go.Shelf Go.Sort Go.Proofs
instance (e:Ty):Inhabited e.D:=⟨e.z⟩
def b7:(e:Ty)->e.D->List Value
 | .int k,n=>[.int k n]
 | .bool,b=>[.bool b]
 | .pair a b,x=>b7 a x.1++b7 b x.2
 |_,_=>[]
def gr:Ty->Bool
 | .int _=>true
 | .bool=>true
 | .pair a b=>gr a && gr b
 |_=>false
theorem eZ {w:World} {Pr:Nat->Prop}:∀{e:Ty} {x:e.D} {us:List Value},gr e=true->(ay w Pr e x us↔us=b7 e x)
 | .int _,_,_,_=>Iff.rfl
 | .bool,_,_,_=>Iff.rfl
 | .pair a b,x,us,h=>by
   simp only [gr,Bool.and_eq_true] at h
   constructor
   ·rintro ⟨u1,u2,rfl,h1,h2⟩
    rw [(eZ h.1).1 h1,(eZ h.2).1 h2];rfl
   ·rintro rfl
    exact ⟨_,_,rfl,(eZ h.1).2 rfl,(eZ h.2).2 rfl⟩
 | .str,_,_,h=>by cases h
 | .sl _ _,_,_,h=>by cases h
 | .fn _,_,_,h=>by cases h
 | .ptr _,_,_,h=>by cases h
 | .cL _ _,_,_,h=>by cases h
 | .map _ _,_,_,h=>by cases h
theorem jC:∀{e:Ty} (_:gr e=true) (x:e.D),(b7 e x).length=e.n
 | .int _,_,_=>rfl
 | .bool,_,_=>rfl
 | .pair a b,h,x=>by
   simp only [gr,Bool.and_eq_true] at h
   show (b7 a x.1++b7 b x.2).length=a.n+b.n
   rw [List.length_append,jC h.1,jC h.2]
 | .str,h,_=>by cases h
 | .sl _ _,h,_=>by cases h
 | .fn _,h,_=>by cases h
 | .ptr _,h,_=>by cases h
 | .cL _ _,h,_=>by cases h
 | .map _ _,h,_=>by cases h
theorem oD:∀{e:Ty} (x:e.D),∀v∈b7 e x,v.oneCell'=true
 | .int _,_,v,h=>by simp [b7] at h;subst h;rfl
 | .bool,_,v,h=>by simp [b7] at h;subst h;rfl
 | .pair a b,x,v,h=>by
   simp only [b7,List.mem_append] at h
   exact h.elim (oD _ v) (oD _ v)
 | .str,_,_,h=>by cases h
 | .sl _ _,_,_,h=>by cases h
 | .fn _,_,_,h=>by cases h
 | .ptr _,_,_,h=>by cases h
 | .cL _ _,_,_,h=>by cases h
 | .map _ _,_,_,h=>by cases h
theorem tH:∀{e:Ty},gr e=true->0 <e.n
 | .int _,_=>Nat.one_pos
 | .bool,_=>Nat.one_pos
 | .pair a b,h=>by
   simp only [gr,Bool.and_eq_true] at h
   exact Nat.lt_of_lt_of_le (tH h.1) (Nat.le_add_right _ _)
 | .str,h=>by cases h
 | .sl _ _,h=>by cases h
 | .fn _,h=>by cases h
 | .ptr _,h=>by cases h
 | .cL _ _,h=>by cases h
 | .map _ _,h=>by cases h
theorem Sep.B4 {w:World} {R:Nat->RL} {Pr:Nat->Prop} {e:Ty} {l:List e.D} (h1:az w R Pr 0 (.vec e l)) (h2:real R 0 (.vec e l)-> ¬Pr (R 0).blk):Sep w R Pr [(0,.vec e l)]:=by
 have key:∀(i κ:Nat) (o:Ob),([(0,Ob.vec e l)]:List (Nat×Ob))[i]?=some (κ,o)->i=0/\κ=0/\o=.vec e l:=λ i κ o h=>by
  cases i with
  |zero=>simp at h;exact ⟨rfl,h.1.symm,h.2.symm⟩
  |succ i=>simp at h
 refine ⟨λ i κ o h=> ?_,λ i κ o b h hb=> ?_,λ i j κ o af o' b h h' hne _=> ?_,λ i κ o h _=> ?_⟩
 ·obtain ⟨_,rfl,rfl⟩:=key i κ o h;exact h1
 ·obtain ⟨_,rfl,rfl⟩:=key i κ o h
  rcases hb with ⟨q1,rfl⟩|q
  ·exact h2 q1
  ·exact q.elim
 ·exact absurd ((key i κ o h).1.trans (key j af o' h').1.symm) hne
 ·obtain ⟨_,rfl,rfl⟩:=key i κ o h;exact λ q=>q.elim
theorem zh {W w':World} (h:∀b,b <W.heap.size->w'.heap[b]?=W.heap[b]?) (hg:Grow W w'):∃q os',w'=grow (W.drewN q) os':=by
 refine ⟨w'.drawn - W.drawn,w'.heap.extract W.heap.size w'.heap.size, ?_⟩
 have hheap:w'.heap=W.heap++w'.heap.extract W.heap.size w'.heap.size:=by
  have hs:=hg.sz
  refine Array.ext (by simp;omega) λ i h1 h2=> ?_
  rw [Array.getElem_append]
  split
  ·rename_i hi
   have:=h i hi
   rw [Array.getElem?_eq_getElem h1,Array.getElem?_eq_getElem hi] at this
   exact Option.some.inj this
  ·simp only [Array.getElem_extract]
   congr 1;omega
 have h1:=hg.os;have h2:=hg.tape;have h3:=hg.output;have h4:=hg.dr
 cases w';cases W
 simp only [grow,World.drewN] at *
 subst h1 h2 h3
 congr 1
 omega
def wm {α:Type} (f:α->α->Option (Int×Unit)) (x y:α):Int:=((f x y).map λ r:Int×Unit=>r.1).getD 0
def nX {α:Type} (f:α->α->Option (Int×Unit)):α->α->Bool:=ltOf (wm f)
noncomputable def qe {e:Ty} (f:e.D->e.D->Option (Int×Unit)) (l:List e.D):Option ((List e.D×Unit)×Unit):=
 open Classical in if (∀x y,(f x y).isSome=true)/\SWO (nX f)/\l.length <4611686018427387904 then some (((pdq (nX f) l.toArray 0 l.length (Lib.bitLen l.length) true true).toList,()),()) else none
theorem vW {e:Ty} {f:e.D->e.D->Option (Int×Unit)} {l:List e.D} (h1:∀x y,(f x y).isSome=true) (h2:SWO (nX f)) (h3:l.length <4611686018427387904):
 ∃m:List e.D,qe f l=some ((m,()),())/\m.Perm l/\m.Pairwise λ x y=>nX f y x=false:=by
 refine ⟨_,by unfold qe;rw [if_pos ⟨h1,h2,h3⟩], ?_⟩
 obtain ⟨⟨hs,_,hp⟩,Bn⟩:=pdq_sorts (nX f) h2 l.toArray 0 l.toArray.size (Lib.bitLen l.toArray.size) true true (Nat.zero_le _) (Nat.le_refl _) (Or.inl rfl)
 simp only [List.size_toArray] at hs hp Bn
 generalize hd:pdq (nX f) l.toArray 0 l.length (Lib.bitLen l.length) true true=d at *
 constructor
 ·have e1:(d.extract 0 l.length).toList=d.toList:=by rw [<-hs];simp
  rw [e1] at hp
  simpa using hp
 ·rw [List.pairwise_iff_getElem]
  intro i j hi hj hij
  have:=Bn i j (by omega) hij (by simpa [hs] using hj)
  simpa [getElem!_def,show i <d.size by simpa using hi,show j <d.size by simpa using hj] using this
section
variable {P:Program} {ρ:Ren}
theorem xW {e:Ty} (hf:gr e=true) {g:FuncId} {f:e.D->e.D->Option (Int×Unit)} (hok:cT P g [(true,e),(true,e)] [.d false (.int .i64)] (λ xs=>f xs.1 xs.2.1)) (ht:∀x y,(f x y).isSome=true) (blk off size:Nat) (w:World):
 CmpLays P g #[] (b7 e) e.n (wm f) blk off size w:=by
 intro m os dk hs x y
 obtain ⟨r,hr⟩:=Option.isSome_iff_exists.1 (ht x y)
 have hc:=hok (x,(y,())) r hr (sortWorldK (b7 e) e.n w blk off m dk os) (λ _=>False) [.agg (b7 e x).toArray,.agg (b7 e y).toArray] (λ _ h=>h.elim)
  ⟨_,_,rfl,⟨_,rfl,(eZ hf).2 rfl⟩,_,_,rfl,⟨_,rfl,(eZ hf).2 rfl⟩,rfl⟩
 have e1: (#[.agg (b7 e x).toArray,.agg (b7 e y).toArray]++ #[] :Array Value)=[Value.agg (b7 e x).toArray,.agg (b7 e y).toArray].toArray:=by simp
 rw [e1]
 refine hc.mono ?_
 rintro en w' ⟨ak,us,rfl,hw,hg,_,_,_,hr'⟩
 obtain ⟨v,xM,rfl,hv,rfl⟩:=hr'
 have hv:[v]=[.int .i64 r.1]:=hv
 cases hv
 refine ⟨?_,zh hw hg⟩
 unfold wm
 rw [hr];rfl
theorem rV {α:Type} [Inhabited α] (enc:α->List Value) (k:Nat) (w:World) (n blk off:Nat) (d:Array α) (os:Array Obj) (b:Nat) (hb:b <w.heap.size) (hne:b≠blk):(sortWorldK enc k w blk off n d os).heap[b]?=w.heap[b]?:=by
 show ((w.heap.modify blk (onCells (putCells id off (flatK enc k d))))++os)[b]?=_
 rw [Array.getElem?_append_left (by simpa using hb),Array.getElem?_modify,if_neg (Ne.symm hne)]
theorem tK {α:Type} [Inhabited α] (enc:α->List Value) (k:Nat) (w:World) (n blk off:Nat) (d:Array α) (os:Array Obj) {c:Array Value} {el:TypeId} {fr:Nat×Nat} (h:w.heap[blk]?=some (.cells c el fr)):(sortWorldK enc k w blk off n d os).heap[blk]?=some (.cells (putCells id off (flatK enc k d) c) el fr):=by
 have hb:blk <w.heap.size:=(Array.getElem?_eq_some_iff.1 h).1
 show ((w.heap.modify blk (onCells (putCells id off (flatK enc k d))))++os)[blk]?=_
 rw [Array.getElem?_append_left (by simpa using hb),Array.getElem?_modify,if_pos rfl,h]
 rfl
theorem ug (Ly:SlLaysF0.n6 P ρ) {e:Ty} (hf:gr e=true) (aE:∀w,(isAgg (ρ.t 24)).run P w=.ok true w) (zE:∀w,(Go.sizeOf (ρ.t 24)).run P w=.ok e.n w) {g:FuncId} {f:e.D->e.D->Option (Int×Unit)}
 (hok:cT P g [(true,e),(true,e)] [.d false (.int .i64)] (λ xs=>f xs.1 xs.2.1)) (eg:um P g) (ht:∀x y,(f x y).isSome=true) (hO:SWO (nX f)) (l:List e.D) (hlen:l.length <4611686018427387904) (m:List e.D) (hm:(pdq (nX f) l.toArray 0 l.length (Lib.bitLen l.length) true true).toList=m) (hml:m.length=l.length)
 (w:World) (Pr:Nat->Prop) (Lo:Nat->RL) (hp:∀b,Pr b->b <w.heap.size) (hS:Sep w Lo Pr [(0,.vec e l)]):
 Calls P (ρ.f 6) #[(Lo 0).aF,.func (.func g) #[] #[]] w λ en w'=>∃ak rv cH,en=.returned (dR (gD true [.row e] cH++rv))/\(∀i,i <1->(true=true\/(i=0/\iz true [.row e]=false))->cH i=Lo i)/\(∀b,b <w.heap.size-> ¬Bl w Lo [(0,.vec e l)] b->w'.heap[b]?=w.heap[b]?)/\Grow w w'/\(∀b,Pr b->ak b)/\
  (∀b,ak b->b <w.heap.size->Pr b\/Bl w Lo [(0,.vec e l)] b)/\(∀b,ak b->b <w'.heap.size)/\Sep w' cH ak [(0,.vec e m)]/\(∀b,Bl w' cH [(0,.vec e m)] b->Bl w Lo [(0,.vec e l)] b\/w.heap.size<=b)/\rv=[]:=by
 obtain ⟨h0,h1⟩:=hS.ob 0 0 (.vec e l) rfl
 have hun:real Lo 0 (.vec e l)-> ¬Pr (Lo 0).blk:=λ aq=>hS.un 0 0 _ _ rfl (.inl ⟨aq,rfl⟩)
 rcases h1 with ⟨h1,hl⟩|⟨off,cap,cells,el,h1,h2,h3,h4,h5⟩
 ·have hl:l=[]:=hl
  subst hl
  have hm0:m=[]:=List.eq_nil_of_length_eq_zero hml
  subst hm0
  have hc:=AnyF.slices_SortFunc_none Ly none 0 (.func (.func g) #[] #[]) w
  rw [h1]
  refine hc.mono ?_
  rintro en w' ⟨rfl,rfl⟩
  exact ⟨Pr,[],Lo,rfl,λ _ _ _=>rfl,λ _ _ _=>rfl,Grow.refl _,λ _ h=>h,λ _ h _=>.inl h,hp,hS,λ _ h=>.inl h,rfl⟩
 ·have hk:=tH hf
  have aq:real Lo 0 (.vec e l):=λ z=>by rw [z] at h1;cases h1
  have hblk:(Lo 0).blk <w.heap.size:=(Array.getElem?_eq_some_iff.1 h3).1
  have hcell:∀j (z:e.D),l[j]?=some z->∀c u,(b7 e z)[c]?=some u->cells[off+j * e.n+c]?=some u:=λ j z hj c u hu=>by
   obtain ⟨us,m1,m2⟩:=h5 j z hj
   rw [(eZ hf).1 m2] at m1
   exact m1 c u hu
  have bG:∀(d:List e.D) j c,j <d.length->c <e.n->∃u,(b7 e (d.toArray[j]!))[c]?=some u/\(flatK (b7 e) e.n d.toArray)[j * e.n+c]! =u:=λ d j c hj hc=>by
   have hlt:j * e.n+c <d.toArray.size * e.n:=by
    have:=Nat.mul_le_mul_right e.n (show j+1<=d.length from hj)
    rw [Nat.add_mul,Nat.one_mul] at this
    simp only [List.size_toArray];omega
   have hd:(j * e.n+c) / e.n=j:=by rw [Nat.mul_comm,Nat.mul_add_div hk,Nat.div_eq_of_lt hc];rfl
   have yR:(j * e.n+c) % e.n=c:=by rw [Nat.mul_comm,Nat.mul_add_mod,Nat.mod_eq_of_lt hc]
   have hcl:c <(b7 e (d.toArray[j]!)).length:=by rw [jC hf];exact hc
   refine ⟨_,List.getElem?_eq_getElem hcl, ?_⟩
   rw [get_flatK _ _ _ _ hlt,hd,yR,getElem!_pos _ c hcl]
  have hH:HoldsK (b7 e) e.n w (Lo 0).blk off l.toArray:=λ t ht=>by
   have ht:t <l.length * e.n:=by simpa using ht
   have hj:t / e.n <l.length:=Nat.div_lt_of_lt_mul (by rw [Nat.mul_comm];exact ht)
   have hc:=Nat.mod_lt t hk
   have uF:t / e.n * e.n+t % e.n=t:=by rw [Nat.mul_comm];exact Nat.div_add_mod t e.n
   obtain ⟨u,q1,q2⟩:=bG l (t / e.n) (t % e.n) hj hc
   rw [uF] at q2
   have hz:l.toArray[t / e.n]! =l[t / e.n]:=by simp [hj]
   rw [hz] at q1
   have:=hcell _ _ (List.getElem?_eq_getElem hj) _ _ q1
   rw [Nat.add_assoc,uF] at this
   refine ⟨?_, ?_⟩
   ·simp only [World.cell?,h3]
    rw [q2,this];rfl
   ·simp [World.frozen?,h3]
  have hc:=AnyQ.slices_SortFunc_eq Ly e.n aE zE (b7 e) (jC hf) oD (wm f) hO g #[] (Lo 0).blk off cap l.toArray w eg (xW hf hok ht _ _ _ _) hH hblk (by simpa using hlen)
  rw [h1]
  refine hc.mono ?_
  rintro en w' ⟨rfl,n,os,rfl⟩
  have hd:pdq (nX f) l.toArray 0 l.toArray.size (Lib.bitLen l.toArray.size) true true=m.toArray:=by
   rw [<-hm];simp
  rw [show ltOf (wm f)=nX f from rfl,hd]
  have hsame:=tK (b7 e) e.n w n (Lo 0).blk off m.toArray os h3
  have BS:=λ b hb hne=>rV (b7 e) e.n w n (Lo 0).blk off m.toArray os b hb hne
  generalize hw':sortWorldK (b7 e) e.n w (Lo 0).blk off n m.toArray os=w' at *
  have pG:Grow w w':=by
   subst hw'
   refine ⟨?_,rfl,rfl,rfl,Nat.le_add_right _ _⟩
   show _<=((w.heap.modify _ _)++os).size
   simp
  have hnb:∀b,¬Bl w Lo [(0,.vec e l)] b->b≠(Lo 0).blk:=λ b hb z=>hb ⟨0,0,_,rfl,.inl ⟨aq,z⟩⟩
  have dK:real Lo 0 (.vec e m):=λ z=>by rw [z] at h1;cases h1
  have kY:az w' Lo Pr 0 (.vec e m):=by
   have e1:(Lo 0).len=m.length:=h0.trans hml.symm
   have e2:(Lo 0).aF=.slice (some ⟨(Lo 0).blk,off,none⟩) m.length cap:=by rw [hml];exact h1
   have e3:m.length<=cap:=by rw [hml];exact h2
   refine ⟨e1,.inr ⟨off,cap,_,el,e2,e3,hsame,by rw [show (putCells id off (flatK (b7 e) e.n m.toArray) cells).size=cells.size by simp [putCells]];exact h4,λ j z hj=> ?_⟩⟩
   refine ⟨b7 e z,λ c u hu=> ?_,(eZ hf).2 rfl⟩
   have hj':j <m.length:=(List.getElem?_eq_some_iff.1 hj).1
   have Co:c <e.n:=by rw [<-jC hf z];exact (List.getElem?_eq_some_iff.1 hu).1
   obtain ⟨u',q1,q2⟩:=bG m j c hj' Co
   have hz:m.toArray[j]! =z:=by
    rw [getElem!_def];simp only [List.getElem?_toArray];rw [hj]
   rw [hz,hu] at q1
   cases q1
   have hle:(j+1) * e.n<=cap * e.n:=Nat.mul_le_mul_right _ (by omega)
   have hle2:(j+1) * e.n<=m.length * e.n:=Nat.mul_le_mul_right _ (by omega)
   rw [Nat.add_mul,Nat.one_mul] at hle hle2
   have hlt:off+j * e.n+c <cells.size:=by omega
   unfold putCells
   rw [Array.getElem?_mapIdx,Array.getElem?_eq_getElem hlt]
   simp only [Option.map_some]
   rw [if_pos ⟨by omega,by simp;omega⟩,show off+j * e.n+c - off=j * e.n+c by omega,q2]
   rfl
  refine ⟨Pr,[],Lo,rfl,λ _ _ _=>rfl,λ b hb hne=>BS b hb (hnb b hne),pG,λ _ h=>h,λ _ h _=>.inl h,λ b hb=>Nat.lt_of_lt_of_le (hp b hb) pG.sz,Sep.B4 kY λ _=>hun aq,λ b hb=> ?_,rfl⟩
  obtain ⟨i,κ,o,hi,aM⟩:=hb
  cases i with
  |zero=>
   have:κ=0/\o=.vec e m:=by
    have h:some ((0:Nat),Ob.vec e m)=some (κ,o):=hi
    simp only [Option.some.injEq,Prod.mk.injEq] at h
    exact ⟨h.1.symm,h.2.symm⟩
   obtain ⟨rfl,rfl⟩:=this
   rcases aM with ⟨_,rfl⟩|q
   ·exact .inl ⟨0,0,_,rfl,.inl ⟨aq,rfl⟩⟩
   ·exact q.elim
  |succ i=>
   have h:([]:List (Nat×Ob))[i]?=some (κ,o):=hi
   simp at h
theorem By (Ly:SlLaysF0.n6 P ρ) {e:Ty} (hf:gr e=true) (aE:∀w,(isAgg (ρ.t 24)).run P w=.ok true w) (zE:∀w,(Go.sizeOf (ρ.t 24)).run P w=.ok e.n w) {g:FuncId} {f:e.D->e.D->Option (Int×Unit)}
 (hok:cT P g [(true,e),(true,e)] [.d false (.int .i64)] (λ xs=>f xs.1 xs.2.1)) (eg:um P g):gV P (ρ.f 6) 0 true [.row e] [(false,.fn g)] [] (λ x _=>qe f x.1):=by
 intro x xs y r hr w Pr vs Lo hp hS ha
 obtain ⟨l,⟨⟩⟩:=x
 obtain ⟨v,us,rfl,hv,fD⟩:=ha
 have fD:us=[]:=fD
 subst fD
 have hv:[v]=[.func (.func g) #[] #[]] :=hv
 cases hv
 have hr:qe f l=some (y,r):=hr
 have ir:=hr
 unfold qe at hr
 split at hr
 ·rename_i hg
  obtain ⟨m,h1,h2,_⟩:=vW hg.1 hg.2.1 hg.2.2
  rw [h1] at ir
  have hr:((_,()),())=(y,r):=Option.some.inj hr
  have ir:((m,()),())=(y,r):=Option.some.inj ir
  obtain ⟨rfl,rfl⟩:=Prod.mk.inj ir
  have hm:=congrArg Prod.fst (Prod.mk.inj hr).1
  exact ug Ly hf aE zE hok eg hg.1 hg.2.1 l hg.2.2 m hm h2.length_eq w Pr Lo hp hS
 ·cases hr
end
end Go.Rx
