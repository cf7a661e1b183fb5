/- Reflection, part Mp: maps whose keys are numbers or pairs of numbers. -/
import Derived.Test.YtollcjadobpfdaaGreatRxFm
import Derived.Maps.RangeRun
set_option linter.unusedVariables false
set_option linter.unusedSimpArgs false
set_option linter.unusedSectionVars false
namespace Go.Rx
def iB (a b:Int):Bool:=decide (a=b)
theorem pK {a b:Int}:iB a b=true↔a=b:=decide_eq_true_iff
def kB:(K:Ty)->K.D->K.D->Bool
 | .int _,a,b=>iB a b
 | .pair a b,x,y=>kB a x.1 y.1 && kB b x.2 y.2
 |_,_,_=>false
section
variable {α β:Type} (q:α->α->Bool)
def dA:List (α×β)->α->Option β
 | [],_=>none
 | (k',v)::r,k=>match q k k' with
   |true=>some v
   |false=>dA r k
def jV:List (α×β)->α->β->List (α×β)
 | [],k,v=>[(k,v)]
 | (k',v')::r,k,v=>match q k k' with
   |true=>(k,v)::r
   |false=>(k',v')::jV r k v
def jU:List (α×β)->α->List (α×β)
 | [],_=>[]
 | (k',v')::r,k=>match q k k' with
   |true=>r
   |false=>(k',v')::jU r k
end
def oS (T:bh) (t:TypeId):Bool:=match T.get t with
 |some i=>match i.d with
  | .array 2 e=>i.eq && mD T e && (match T.get e with
    |some ei=>ei.size.beq 1
    |none=>false)
  |_=>false
 |none=>false
def fI (T:bh) (t:TypeId):Ty->Bool
 | .int .i64=>mD T t
 | .pair (.int .i64) (.int .i64)=>iS T t || oS T t
 |_=>false
def b8:(K:Ty)->K.D->Value
 | .int k,n=>.int k n
 | .pair (.int j) (.int k),x=>.agg #[.int j x.1,.int k x.2]
 |_,_=>undef
def iG (w:World) (Pr:Nat->Prop) (V:Ty) (x:V.D) (v:Value):Prop:=(V.jB=true->∃us,v=.agg us/\ay w Pr V x us.toList)/\(V.jB=false->ay w Pr V x [v])
def iI (T:bh) (t:TypeId) (K V:Ty):Option V.D:=match T.get t with
 |some i=>match i.d with
  | .map k v=>match fI T k K,T.get v with
    |true,some vi=>match vi.zero with
     |some (b,z)=>match b == V.jB,V.of z with
      |true,some (y,[])=>some y
      |_,_=>none
     |none=>none
    |_,_=>none
  |_=>none
 |none=>none
def e8 (V:Ty) (x:V.D):Cp:=match V.jB with
 |true=>.agg (V.cells x)
 |false=>match V.cells x with
  | [c]=>.one c
  |_=>.one .any
def jJ (K:Ty):AV->Option K.D
 | .cp (.one c)=>match K.jB,K.of [c] with
   |false,some (x,[])=>some x
   |_,_=>none
 | .cp (.agg cs)=>match K.jB,K.of cs with
   |true,some (x,[])=>some x
   |_,_=>none
 |_=>none
section
variable {w:World} {R:Nat->RL} {Pr:Nat->Prop}
theorem bN.iff {K V:Ty} {kv:K.D×V.D} {en:MapEntry}:bN w Pr K V kv en↔iG w Pr K kv.1 en.key/\iG w Pr V kv.2 en.val:=
 ⟨λ ⟨a,b,c,d⟩=>⟨⟨a,b⟩,c,d⟩,λ ⟨⟨a,b⟩,c,d⟩=>⟨a,b,c,d⟩⟩
theorem jK {K:Ty} {v:AV} {u:Value} {x:K.D} (h:jJ K v=some x) (hr:aA w R Pr v u):iG w Pr K x u:=by
 unfold jJ at h
 split at h
 ·rename_i c
  split at h
  ·rename_i y hp hy
   cases h
   obtain ⟨u1,u2,h1,h2,h3⟩:=c8 (us:=[u]) hy ⟨hr,trivial⟩
   have eP:u2=[]:=by
    cases u2 with
    |nil=>rfl
    |cons _ _=>exact h3.elim
   subst eP
   rw [List.append_nil] at h1
   exact ⟨λ z=>by rw [hp] at z;(first|cases z|contradiction),λ _=>by rw [h1];exact h2⟩
  ·cases h
 ·rename_i cs
  obtain ⟨us,rfl,hu⟩:=hr
  split at h
  ·rename_i y hp hy
   cases h
   obtain ⟨u1,u2,h1,h2,h3⟩:=c8 hy hu
   have eP:u2=[]:=by
    cases u2 with
    |nil=>rfl
    |cons _ _=>exact h3.elim
   subst eP
   rw [List.append_nil] at h1
   exact ⟨λ _=>⟨us,rfl,by rw [h1];exact h2⟩,λ z=>by rw [hp] at z;(first|cases z|contradiction)⟩
  ·cases h
 ·cases h
theorem oL {V:Ty} {x:V.D} {v:Value} (h:iG w Pr V x v):bf w R Pr (e8 V x) v/\(e8 V x).refs=[]:=by
 unfold e8
 split
 ·rename_i hp
  obtain ⟨us,rfl,h1⟩:=h.1 hp
  refine ⟨⟨us,rfl,bu h1⟩, ?_⟩
  show (V.cells x).flatMap C.refs=[]
  rw [List.flatMap_eq_nil_iff];exact bL V x
 ·rename_i hp
  have h1:=bu (R:=R) (h.2 hp)
  split
  ·rename_i c hc
   rw [hc] at h1
   exact ⟨h1.1,bL V x c (by rw [hc];simp)⟩
  ·exact ⟨trivial,rfl⟩
end
theorem A2 {T:bh} {t:TypeId} {K:Ty} (h:fI T t K=true) {a b:K.D}:kB K a b=true↔a=b:=by
 unfold fI at h
 split at h
 ·exact pK
 ·simp only [kB,Bool.and_eq_true]
  exact ⟨λ z=>Prod.ext (pK.1 z.1) (pK.1 z.2),λ z=>by rw [z];exact ⟨pK.2 rfl,pK.2 rfl⟩⟩
 ·cases h
theorem je {T:bh} {t:TypeId} {K:Ty} (h:fI T t K=true) {w:World} {Pr:Nat->Prop} {k:K.D} {u:Value}:iG w Pr K k u↔u=b8 K k:=by
 unfold fI at h
 split at h
 ·constructor
  ·intro z
   have h1:[u]=[Value.int .i64 k]:=z.2 rfl
   have h2:u=Value.int .i64 k:=by simpa using h1
   exact h2
  ·intro z
   exact ⟨λ g=>(by cases g),λ _=>(by rw [z];rfl)⟩
 ·constructor
  rotate_left
  ·intro z
   exact ⟨λ _=>⟨_,z,[.int .i64 k.1],[.int .i64 k.2],rfl,rfl,rfl⟩,λ g=>by cases g⟩
  ·intro z
   obtain ⟨us,rfl,u1,u2,h1,h2,h3⟩:=z.1 rfl
   have h2:u1=[Value.int .i64 k.1]:=h2
   have h3:u2=[Value.int .i64 k.2]:=h3
   subst h2 h3
   show Value.agg us=.agg #[.int .i64 k.1,.int .i64 k.2]
   congr 1
   apply Array.ext'
   simpa using h1
 ·cases h
section
variable {P:Program} {T:bh} (hT:bC P T) {w:World}
include hT
theorem kM {t:TypeId} (h:oS T t=true):∃i e ei,T.get t=some i/\i.d=.array 2 e/\i.eq=true/\T.get e=some ei/\ei.d=.int .i64/\ei.size=1:=by
 unfold oS at h
 split at h
 ·rename_i i hi
  split at h
  ·rename_i e hd
   simp only [Bool.and_eq_true] at h
   obtain ⟨⟨h1,h2⟩,h3⟩:=h
   obtain ⟨ei,g1,g2⟩:=eu hT h2
   rw [g1] at h3
   exact ⟨i,e,ei,hi,hd,h1,g1,g2,Nat.eq_of_beq_eq_true h3⟩
  ·cases h
 ·cases h
theorem uW {t:TypeId} (h:oS T t=true) (a b c d:Int):(Op.equal t (pk a b) (pk c d)).run P w=.ok (decide (a=c/\b=d)) w:=by
 obtain ⟨i,e,ei,hi,hd,he,eD,wZ,hsz⟩:=kM hT h
 obtain ⟨k1,k4⟩:=qL hT hi hd he
 obtain ⟨ti,g1,g2,_⟩:=dM hT eD
 have hsz':P.cellsOf e=1:=by rw [<-hsz, <-g2];simp [Program.cellsOf,g1]
 have hl:jq T 40 (([gq e 0,gq e 1]:List Field).map λ f=>(f.offset,f.type)) [.int .i64 a,.int .i64 b] [.int .i64 c,.int .i64 d]=some [⟨a=c,inferInstance⟩,⟨b=d,inferInstance⟩]:=by
  simp [jq,gq,eD,wZ,qT]
 have ih:=dy hT (R:=λ _=>⟨0,none,0,0⟩) (Pr:=λ _=>False) (w:=w) 40 [gq e 0,gq e 1] _ _ #[.int .i64 a,.int .i64 b] #[.int .i64 c,.int .i64 d] _ 9999 hl (λ f hf=>by
  simp only [List.mem_cons,List.not_mem_nil,or_false] at hf
  rcases hf with rfl|rfl<;>rfl) ⟨rfl,rfl,trivial⟩ ⟨rfl,rfl,trivial⟩ (by omega)
 have hs:(Op.equalIn 10000 t (pk a b) (pk c d)).run P w=.ok (decide (a=c/\b=d)) w:=by
  rw [run_equalIn_array w 9999 _ _ k1 g1,hsz',gw]
  show (Op.eqFields 9999 _ _ [gq e 0,gq e 1]).run P w=_
  rw [ih]
  by_cases e1:a=c<;>by_cases e2:b=d<;>simp [e1,e2]
 exact hs
theorem uV {t:TypeId} (h:oS T t=true) (em:Bool) (a b:Int):(Instr.checkKey em 10000 t (pk a b)).run P w=.ok () w:=by
 obtain ⟨i,e,ei,hi,hd,he,eD,wZ,hsz⟩:=kM hT h
 have k1:=iE hT hi hd
 have u1:=jj hT eD wZ
 have p1:(part e #[Value.int .i64 a,.int .i64 b] 0).run P w=.ok (.int .i64 a) w:=fZ hT eD (by rw [wZ];rfl) rfl
 have p2:(part e #[Value.int .i64 a,.int .i64 b] 1).run P w=.ok (.int .i64 b) w:=fZ hT eD (by rw [wZ];rfl) rfl
 have c1:∀n (z:Int),(Instr.checkKey em (n+1) e (.int .i64 z)).run P w=.ok () w:=λ n z=>by
  simp [Instr.checkKey,run_underlying u1]
 have key:∀n,(Instr.checkKey em (n+2) t (pk a b)).run P w=.ok () w:=λ n=>by
  unfold Instr.checkKey
  simp only [Sem.run_bind,run_underlying k1,Result.andThen_ok]
  simp only [Std.Legacy.Range.forIn_eq_forIn_range',Std.Legacy.Range.size,Nat.sub_zero,Nat.add_one_sub_one,Nat.div_one]
  simp [List.range',bQ hT eD,hsz,p1,p2,c1]
 exact key 9998
theorem ry {t:TypeId} {K:Ty} (h:fI T t K=true) (a b:K.D):(Op.equal t (b8 K a) (b8 K b)).run P w=.ok (kB K a b) w:=by
 unfold fI at h
 split at h
 ·obtain ⟨i,hi,hd⟩:=eu hT h
  have:=l5 hT (R:=λ _=>⟨0,none,0,0⟩) (Pr:=λ _=>False) (w:=w) hi (a:=.int .i64 a) (b:=.int .i64 b) (x:=⟨@Eq Int a b,Int.instDecidableEq a b⟩) (by rw [hd];rfl) rfl rfl 9999
  exact this
 ·have e1:∀x1 x2 y1 y2:Int,(iB x1 y1 && iB x2 y2)=decide (x1=y1/\x2=y2):=λ x1 x2 y1 y2=>by
   unfold iB
   by_cases e1:x1=y1<;>by_cases e2:x2=y2<;>simp [e1,e2]
  have e2:kB (.pair (.int .i64) (.int .i64)) a b=(iB a.1 b.1 && iB a.2 b.2):=rfl
  have e3:=e2.trans (e1 a.1 a.2 b.1 b.2)
  rw [e3]
  rcases Bool.or_eq_true_iff.1 h with h|h
  ·exact p6 hT h a.1 a.2 b.1 b.2
  ·exact uW hT h a.1 a.2 b.1 b.2
 ·cases h
theorem mG {t:TypeId} {K:Ty} (h:fI T t K=true) (em:Bool) (a:K.D):(Instr.checkKey em 10000 t (b8 K a)).run P w=.ok () w:=by
 unfold fI at h
 split at h
 ·obtain ⟨i,hi,hd⟩:=eu hT h
  have u1:=jj hT hi hd
  have key:∀n,(Instr.checkKey em (n+1) t (b8 (.int .i64) a)).run P w=.ok () w:=λ n=>by
   show (Instr.checkKey em (n+1) t (.int .i64 a)).run P w=.ok () w
   simp [Instr.checkKey,run_underlying u1]
  exact key 9999
 ·rcases Bool.or_eq_true_iff.1 h with h|h
  ·exact lz hT h em a.1 a.2
  ·exact uV hT h em a.1 a.2
 ·cases h
omit hT in
theorem vT (a b:Int):Instr.sameBits 10000 (pk a b) (pk a b)=true:=by
 show (_ && _)=true
 simp [Instr.sameBits]
omit hT in
theorem yj {t:TypeId} {K:Ty} (h:fI T t K=true) (a:K.D):Instr.sameBits 10000 (b8 K a) (b8 K a)=true:=by
 unfold fI at h
 split at h
 ·have key:∀x:Int,Instr.sameBits 10000 (.int .i64 x) (.int .i64 x)=true:=λ x=>by simp [Instr.sameBits]
  exact key a
 ·exact vT a.1 a.2
 ·cases h
inductive Found (K V:Ty) (k:K.D) (l:List (K.D×V.D)) (es:List MapEntry):Option Nat->Prop where
 |no (h:dA (kB K) l k=none) (hs:∀v,jV (kB K) l k v=l++[(k,v)]) (hd:jU (kB K) l k=l):Found K V k l es none
 |yes (j:Nat) (kv:K.D×V.D) (en:MapEntry) (h:dA (kB K) l k=some kv.2) (hl:l[j]?=some kv) (he:es[j]?=some en) (hk:kv.1=k) (hs:∀v,jV (kB K) l k v=l.set j (k,v)) (hd:jU (kB K) l k=l.eraseIdx j):Found K V k l es (some j)
theorem sU {t:TypeId} {K V:Ty} (h:fI T t K=true) {Pr:Nat->Prop} (k:K.D):∀(l:List (K.D×V.D)) (es:List MapEntry) (i:Nat),es.length=l.length->(∀(i:Nat) kv en,l[i]?=some kv->es[i]?=some en->bN w Pr K V kv en)->
 (Found K V k l es none/\(Instr.findAsking t (b8 K k) es i).run P w=.ok none w)\/∃j en,Found K V k l es (some j)/\es[j]?=some en/\(Instr.findAsking t (b8 K k) es i).run P w=.ok (some (i+j,en.val)) w
 | [],[],i,_,_=>.inl ⟨.no rfl (λ _=>rfl) rfl,by simp [Instr.findAsking]⟩
 |kv::l,e::es,i,hl,hr=>by
  have h0:=(bN.iff.1 (hr 0 kv e rfl rfl)).1
  have h0:=(je h).1 h0
  have he:=ry hT (w:=w) h k kv.1
  rw [<-h0] at he
  cases hq:kB K k kv.1 with
  |true=>
   rw [hq] at he
   have hk:=(A2 h).1 hq
   refine .inr ⟨0,e,.yes 0 kv e (by simp [dA,hq]) rfl rfl hk.symm (λ v=>by simp [jV,hq]) (by simp [jU,hq]),rfl, ?_⟩
   simp only [Instr.findAsking,Sem.run_bind,he,Result.andThen_ok,if_true,Sem.run_pure,Nat.add_zero]
  |false=>
   rw [hq] at he
   have hstep:(Instr.findAsking t (b8 K k) (e::es) i).run P w=(Instr.findAsking t (b8 K k) es (i+1)).run P w:=by
    simp only [Instr.findAsking,Sem.run_bind,he,Result.andThen_ok,Bool.false_eq_true,if_false]
   rcases sU h k l es (i+1) (by simpa using hl) (λ i kv en h1 h2=>hr (i+1) kv en (by simpa using h1) (by simpa using h2)) with ⟨h1,h2⟩|⟨j,en,h1,h2,h3⟩
   ·cases h1 with
    |no a b c=>exact .inl ⟨.no (by simp [dA,hq,a]) (λ v=>by simp [jV,hq,b]) (by simp [jU,hq,c]),by rw [hstep,h2]⟩
   ·cases h1 with
    |yes _ kv' en' a b c d f g=>
     exact .inr ⟨j+1,en,.yes (j+1) kv' en' (by simp [dA,hq,a]) (by simpa using b) (by simpa using c) d (λ v=>by simp [jV,hq,f]) (by simp [jU,hq,g]),by simpa using h2,by rw [hstep,h3];congr 3;omega⟩
 | [],_::_,_,hl,_=>by simp at hl
 |_::_,[],_,hl,_=>by simp at hl
theorem j6 {t:TypeId} {K V:Ty} (h:fI T t K=true) {Pr:Nat->Prop} (k:K.D) {l:List (K.D×V.D)} {es:List MapEntry} (hl:es.length=l.length) (hr:∀(i:Nat) kv en,l[i]?=some kv->es[i]?=some en->bN w Pr K V kv en):
 (Found K V k l es none/\(Instr.findKey t (b8 K k) es).run P w=.ok none w)\/∃j en,Found K V k l es (some j)/\es[j]?=some en/\(Instr.findKey t (b8 K k) es).run P w=.ok (some (j,en.val)) w:=by
 have Cv:=sU hT (w:=w) h (Pr:=Pr) k l es 0 hl hr
 have BW:∃d,P.underlying t=some d:=by
  unfold fI at h
  split at h
  ·obtain ⟨i,hi,hd⟩:=eu hT h;exact ⟨_,jj hT hi hd⟩
  ·rcases Bool.or_eq_true_iff.1 h with h|h
   ·obtain ⟨i,f,g,hi,hd,_⟩:=iT hT h
    obtain ⟨gs,k1,_⟩:=iX hT hi hd;exact ⟨_,k1⟩
   ·obtain ⟨i,e,ei,hi,hd,_⟩:=kM hT h;exact ⟨_,iE hT hi hd⟩
  ·cases h
 obtain ⟨d,hd⟩:=BW
 have z6:(Instr.findKey t (b8 K k) es).run P w=(Instr.findAsking t (b8 K k) es 0).run P w:=by
  cases hn:Instr.findNow d (b8 K k) es 0 with
  |none=>simp [Instr.findKey,run_underlying hd,hn]
  |some r=>
   have yO:∀(l:List (K.D×V.D)) (es:List MapEntry) (i:Nat) (r:Option (Nat×Value)),es.length=l.length->(∀(i:Nat) kv en,l[i]?=some kv->es[i]?=some en->bN w Pr K V kv en)->Instr.findNow d (b8 K k) es i=some r->(Instr.findAsking t (b8 K k) es i).run P w=.ok r w:=by
    intro l es
    induction es generalizing l with
    |nil=>intro i r _ _ hn;simp [Instr.findNow] at hn;subst hn;simp [Instr.findAsking]
    |cons e es ih=>
     intro i r hl hr hn
     match l,hl,hr with
     | [],hl,_=>simp at hl
     |kv::l,hl,hr=>
      have h0:=(je h).1 (bN.iff.1 (hr 0 kv e rfl rfl)).1
      have he:=ry hT (w:=w) h k kv.1
      rw [<-h0] at he
      have Bm:∀b,Instr.sameNow d (b8 K k) e.key=some b->b=kB K k kv.1:=λ b hb=>by
       rw [h0] at hb
       unfold fI at h
       split at h
       ·cases d<;>simp [Instr.sameNow,b8] at hb
        rw [<-hb]
        exact nq (α:=Int) _ _ _
       ·cases d<;>simp [Instr.sameNow,b8] at hb
       ·cases h
      simp only [Instr.findNow] at hn
      split at hn
      ·rename_i hb
       cases hn
       have:=Bm _ hb
       rw [<-this] at he
       simp only [Instr.findAsking,Sem.run_bind,he,Result.andThen_ok,if_true,Sem.run_pure]
      ·rename_i hb
       have:=Bm _ hb
       rw [<-this] at he
       simp only [Instr.findAsking,Sem.run_bind,he,Result.andThen_ok,Bool.false_eq_true,if_false]
       exact ih l (i+1) r (by simpa using hl) (λ i kv en h1 h2=>hr (i+1) kv en (by simpa using h1) (by simpa using h2)) hn
      ·cases hn
   rw [yO l es 0 r hl hr hn]
   simp [Instr.findKey,run_underlying hd,hn]
 rw [z6]
 simpa using Cv
theorem iy {t:TypeId} {K V:Ty} {y:V.D} (h:iI T t K V=some y):∃k v,P.underlying t=some (.map k v)/\fI T k K=true/\∀(w:World) (Pr:Nat->Prop),∃zv,(zeroValue v).run P w=.ok zv w/\iG w Pr V y zv:=by
 unfold iI at h
 split at h
 ·rename_i i hi
  split at h
  ·rename_i k v hd
   obtain ⟨d,h1,h2⟩:=cq hT hi
   rw [hd] at h2
   cases d<;>simp only [dN] at h2<;>cases h2
   split at h
   ·rename_i vi hk hv
    split at h
    ·rename_i b z hz
     split at h
     ·rename_i y' hb hy
      cases h
      refine ⟨k,v,h1,hk,λ w Pr=> ?_⟩
      obtain ⟨ti,g1,g2,g3,g4⟩:=dM hT hv
      rw [hz] at g4
      obtain ⟨zv,s8,mC⟩:=Option.bind_eq_some_iff.1 g4.symm
      obtain ⟨z1,z2,z3⟩:=gG hT (w:=w) (R:=λ _=>⟨0,none,0,0⟩) (Pr:=Pr) mC
      refine ⟨zv,by simp [zeroValue,typeInfo,g1,s8], ?_⟩
      obtain ⟨u1,u2,e1,e2,e3⟩:=c8 hy z1
      have eP:u2=[]:=by
       cases u2 with
       |nil=>rfl
       |cons _ _=>exact e3.elim
      subst eP
      rw [List.append_nil] at e1
      have hb:b=V.jB:=by simpa using hb
      cases b with
      |true=>
       obtain ⟨vs,rfl⟩:=z3 rfl
       exact ⟨λ _=>⟨vs,rfl,by rw [show vs.toList=u1 from e1];exact e2⟩,λ z=>(by rw [<-hb] at z;cases z)⟩
      |false=>
       refine ⟨λ z=>(by rw [<-hb] at z;cases z),λ _=> ?_⟩
       have:zv.cells= #[zv] :=by
        unfold zeroOf at mC
        split at mC
        ·cases mC
        ·cases mC
        ·rename_i hne _
         cases zv<;>first|rfl|exact absurd rfl (hne _)
       rw [this] at e1
       rw [show [zv]=u1 from e1];exact e2
     ·cases h
    ·cases h
   ·cases h
  ·cases h
 ·cases h
def jm (w:World) (Pr:Nat->Prop) (K V:Ty) (l:List (K.D×V.D)) (es:Array MapEntry) (clock:Nat):Prop:=
 sD es.toList clock/\es.toList.length=l.length/\∀(i:Nat) kv en,l[i]?=some kv->es.toList[i]?=some en->bN w Pr K V kv en
theorem qH {t:TypeId} {K V:Ty} {y:V.D} (h:iI T t K V=some y) {Pr:Nat->Prop} {blk:Nat} {es:Array MapEntry} {clock:Nat} {l:List (K.D×V.D)} (hb:w.heap[blk]?=some (.map es clock)) (hs:jm w Pr K V l es clock) (k:K.D) {u:Value} (hu:iG w Pr K k u):
 ∃v,iG w Pr V ((dA (kB K) l k).getD y) v/\(Instr.lookup t (.map (some blk)) u false).run P w=.ok v w/\(Instr.lookup t (.map (some blk)) u true).run P w=.ok (.tuple #[v, .bool (dA (kB K) l k).isSome]) w:=by
 obtain ⟨kt,vt,hun,hk,hz⟩:=iy hT h
 obtain ⟨zv,Bq,CR⟩:=hz w Pr
 have hu:=(je hk).1 hu
 subst hu
 have hc:=λ e=>mG hT (w:=w) hk e k
 rcases j6 hT (w:=w) hk k hs.2.1 hs.2.2 with ⟨h1,h2⟩|⟨j,en,h1,h2,h3⟩
 ·cases h1 with
  |no a b c=>
   refine ⟨zv,by rw [a];exact CR, ?_, ?_⟩
   ·simp only [Instr.lookup,Sem.run_bind,run_underlying hun,Result.andThen_ok,get_map hb,Sem.run_pure,hc,h2,Bq];rfl
   ·rw [a];simp only [Instr.lookup,Sem.run_bind,run_underlying hun,Result.andThen_ok,get_map hb,Sem.run_pure,hc,h2,Bq];rfl
 ·cases h1 with
  |yes _ kv en' a b c d f g=>
   rw [c] at h2;cases h2
   have hv:=(bN.iff.1 (hs.2.2 j kv en b c)).2
   refine ⟨en.val,by rw [a];exact hv, ?_, ?_⟩
   ·simp only [Instr.lookup,Sem.run_bind,run_underlying hun,Result.andThen_ok,get_map hb,Sem.run_pure,hc,h3];rfl
   ·rw [a];simp only [Instr.lookup,Sem.run_bind,run_underlying hun,Result.andThen_ok,get_map hb,Sem.run_pure,hc,h3];rfl
omit hT in
theorem nH {blk:Nat} {es:Array MapEntry} {clock:Nat} (hb:w.heap[blk]?=some (.map es clock)) (o:Obj):∃w',(setObj blk o).run P w=.ok () w'/\w'.heap[blk]?=some o/\(∀q,q≠blk->w'.heap[q]?=w.heap[q]?)/\w'.heap.size=w.heap.size/\Grow w w':=by
 have hlt:blk <w.heap.size:=(Array.getElem?_eq_some_iff.1 hb).1
 refine ⟨{ w with heap:=w.heap.setIfInBounds blk o },uP o hb, ?_,λ q hq=> ?_, ?_, ?_,rfl,rfl,rfl,Nat.le_refl _⟩
 ·simp [hlt]
 ·simp [Array.getElem?_setIfInBounds,Ne.symm hq]
 ·simp
 ·simp
theorem qJ {t:TypeId} {K V:Ty} {y:V.D} (h:iI T t K V=some y) {Pr:Nat->Prop} {blk:Nat} (hpb: ¬Pr blk) {es:Array MapEntry} {clock:Nat} {l:List (K.D×V.D)} (hb:w.heap[blk]?=some (.map es clock)) (hs:jm w Pr K V l es clock) (k:K.D) {u:Value} (hu:iG w Pr K k u) (x:V.D) {v:Value} (hv:iG w Pr V x v):
 ∃es' clock' w',(Instr.mapUpdate t (.map (some blk)) u v).run P w=.ok () w'/\w'.heap[blk]?=some (.map es' clock')/\(∀q,q≠blk->w'.heap[q]?=w.heap[q]?)/\w'.heap.size=w.heap.size/\Grow w w'/\jm w' Pr K V (jV (kB K) l k x) es' clock':=by
 obtain ⟨kt,vt,hun,hk,hz⟩:=iy hT h
 have Ab:=(je hk).1 hu
 subst Ab
 have hc:=λ e=>mG hT (w:=w) hk e k
 obtain ⟨⟨s1,s2⟩,s3,s4⟩:=hs
 have mv:∀{w':World},(∀q,q≠blk->w'.heap[q]?=w.heap[q]?)->∀{kv:K.D×V.D} {en:MapEntry},bN w Pr K V kv en->bN w' Pr K V kv en:=λ hq _ _ hr=>hr.move (λ b hb=>hq b (λ e=>hpb (e▸hb))) (λ _ h=>h)
 have hne:bN w Pr K V (k,x) { key:=b8 K k,val:=v,born:=clock }:=bN.iff.2 ⟨hu,hv⟩
 rcases j6 hT (w:=w) hk k s3 s4 with ⟨h1,h2⟩|⟨j,en,h1,h2,h3⟩
 ·cases h1 with
  |no a b c=>
   obtain ⟨w',r1,r2,r3,r4,r5⟩:=nH (P:=P) hb (.map (es.push { key:=b8 K k,val:=v,born:=clock }) (clock+1))
   refine ⟨_,_,w', ?_,r2,r3,r4,r5,⟨?_, ?_⟩, ?_, ?_⟩
   ·simp only [Instr.mapUpdate,Sem.run_bind,run_underlying hun,Result.andThen_ok,get_map hb,hc,h2,r1]
   ·rw [Array.toList_push,List.map_append]
    refine List.nodup_append.2 ⟨s1,by simp,λ p hp q hq=> ?_⟩
    obtain ⟨e,he,rfl⟩:=List.mem_map.1 hp
    simp only [List.map_cons,List.map_nil,List.mem_singleton] at hq
    have:=s2 e he
    omega
   ·intro e he
    rw [Array.toList_push] at he
    rcases List.mem_append.1 he with he|he
    ·have:=s2 e he;omega
    ·rw [List.mem_singleton] at he;subst he;simp
   ·rw [Array.toList_push,b x];simp [s3]
   ·intro i kv e h1 h2
    rw [b x] at h1
    rw [Array.toList_push] at h2
    by_cases hi:i <l.length
    ·rw [List.getElem?_append_left hi] at h1
     rw [List.getElem?_append_left (by omega)] at h2
     exact mv r3 (s4 i kv e h1 h2)
    ·rw [List.getElem?_append_right (by omega)] at h1
     rw [List.getElem?_append_right (by omega)] at h2
     have e0:i - l.length=0:=by
      rcases Nat.eq_zero_or_pos (i - l.length) with e|e
      ·exact e
      ·rw [List.getElem?_eq_none (by simp;omega)] at h1;cases h1
     rw [e0] at h1
     rw [s3,e0] at h2
     cases h1;cases h2
     exact mv r3 hne
 ·cases h1 with
  |yes _ kv0 en' a b c d f g=>
   rw [c] at h2;cases h2
   have Ct:es[j]?=some en:=by simpa using c
   have hke:en.key=b8 K k:=by
    have:=(je hk).1 (bN.iff.1 (s4 j kv0 en b c)).1
    rw [this,d]
   obtain ⟨w',r1,r2,r3,r4,r5⟩:=nH (P:=P) hb (.map (es.modify j λ e=>{ e with key:=b8 K k,val:=v }) clock)
   have bG:∀i,(es.modify j λ e=>{ e with key:=b8 K k,val:=v }).toList[i]?=if j=i then (es.toList[i]?).map (λ e=>{ e with key:=b8 K k,val:=v }) else es.toList[i]?:=λ i=>by
    rw [Array.toList_modify,List.getElem?_modify]
    split<;>simp
   have Bd:(es.modify j λ e=>{ e with key:=b8 K k,val:=v }).toList.map (·.born)=es.toList.map (·.born):=by
    apply List.ext_getElem?
    intro i
    rw [List.getElem?_map,List.getElem?_map,bG]
    split
    ·cases es.toList[i]?<;>rfl
    ·rfl
   refine ⟨_,_,w', ?_,r2,r3,r4,r5,⟨by rw [Bd];exact s1, ?_⟩, ?_, ?_⟩
   ·simp [Instr.mapUpdate,run_underlying hun,get_map hb,hc,h3,Ct,hke,Instr.keyThatStays,yj hk,r1]
   ·intro e he
    have h5:e.born∈(es.modify j λ e=>{ e with key:=b8 K k,val:=v }).toList.map (·.born):=List.mem_map_of_mem he
    rw [Bd] at h5
    obtain ⟨e',h6,h7⟩:=List.mem_map.1 h5
    rw [<-h7];exact s2 e' h6
   ·rw [Array.toList_modify,List.length_modify,f x,List.length_set];exact s3
   ·intro i kv e h1 h2
    rw [f x] at h1
    rw [bG] at h2
    by_cases hij:j=i
    ·subst hij
     rw [if_pos rfl,c] at h2
     rw [List.getElem?_set_self (List.getElem?_eq_some_iff.1 b).1] at h1
     cases h1;cases h2
     exact mv r3 (bN.iff.2 ⟨hu,hv⟩)
    ·rw [if_neg hij] at h2
     rw [List.getElem?_set_ne hij] at h1
     exact mv r3 (s4 i kv e h1 h2)
theorem qG {t t' ty:TypeId} {K V:Ty} {y:V.D} (h:iI T t K V=some y) {Pr:Nat->Prop} {blk:Nat} (hpb: ¬Pr blk) {es:Array MapEntry} {clock:Nat} {l:List (K.D×V.D)} (hb:w.heap[blk]?=some (.map es clock)) (hs:jm w Pr K V l es clock) (k:K.D) {u:Value} (hu:iG w Pr K k u):
 ∃es' clock' w',(Builtin.delete_ #[t, t'] ty #[.map (some blk),u]).run P w=.ok (.tuple #[]) w'/\w'.heap[blk]?=some (.map es' clock')/\(∀q,q≠blk->w'.heap[q]?=w.heap[q]?)/\w'.heap.size=w.heap.size/\Grow w w'/\jm w' Pr K V (jU (kB K) l k) es' clock':=by
 obtain ⟨kt,vt,hun,hk,hz⟩:=iy hT h
 have Ab:=(je hk).1 hu
 subst Ab
 have hc:=λ e=>mG hT (w:=w) hk e k
 obtain ⟨⟨s1,s2⟩,s3,s4⟩:=hs
 have mv:∀{w':World},(∀q,q≠blk->w'.heap[q]?=w.heap[q]?)->∀{kv:K.D×V.D} {en:MapEntry},bN w Pr K V kv en->bN w' Pr K V kv en:=λ hq _ _ hr=>hr.move (λ b hb=>hq b (λ e=>hpb (e▸hb))) (λ _ h=>h)
 rcases j6 hT (w:=w) hk k s3 s4 with ⟨h1,h2⟩|⟨j,en,h1,h2,h3⟩
 ·cases h1 with
  |no a b c=>
   obtain ⟨w',r1,r2,r3,r4,r5⟩:=nH (P:=P) hb (.map es clock)
   refine ⟨_,_,w', ?_,r2,r3,r4,r5,⟨s1,s2⟩,by rw [c];exact s3,λ i kv e h1 h2=>by rw [c] at h1;exact mv r3 (s4 i kv e h1 h2)⟩
   simp [Builtin.delete_,run_underlying hun,get_map hb,hc,h2,r1]
 ·cases h1 with
  |yes _ kv0 en' a b c d f g=>
   obtain ⟨w',r1,r2,r3,r4,r5⟩:=nH (P:=P) hb (.map (es.eraseIdxIfInBounds j) clock)
   have hel:(es.eraseIdxIfInBounds j).toList=es.toList.eraseIdx j:=Array.toList_eraseIdxIfInBounds
   refine ⟨_,_,w', ?_,r2,r3,r4,r5,⟨?_, ?_⟩, ?_, ?_⟩
   ·simp [Builtin.delete_,run_underlying hun,get_map hb,hc,h3,r1]
   ·rw [hel]
    exact s1.sublist ((List.eraseIdx_sublist _ _).map _)
   ·intro e he
    rw [hel] at he
    exact s2 e (List.mem_of_mem_eraseIdx he)
   ·have hjl:=(List.getElem?_eq_some_iff.1 b).1
    rw [hel,g,List.length_eraseIdx,List.length_eraseIdx,s3]
   ·intro i kv e h1 h2
    rw [g,List.getElem?_eraseIdx] at h1
    rw [hel,List.getElem?_eraseIdx] at h2
    split at h1
    ·rename_i hi;rw [if_pos hi] at h2;exact mv r3 (s4 i kv e h1 h2)
    ·rename_i hi;rw [if_neg hi] at h2;exact mv r3 (s4 (i+1) kv e h1 h2)
end
end Go.Rx
