/- Reflection, part Fm: sets, kept in maps from pairs of numbers to true. -/
import Derived.Test.YtollcjadobpfdaaGreatRxF
set_option linter.unusedVariables false
set_option linter.unusedSimpArgs false
set_option linter.unusedSectionVars false
namespace Go.Rx
def mD (T:bh) (t:TypeId):Bool:=match T.get t with
 |some i=>match i.d with
  | .int .i64=>true
  |_=>false
 |none=>false
def iS (T:bh) (t:TypeId):Bool:=match T.get t with
 |some i=>match i.d with
  | .struct [(0,f),(1,g)]=>i.eq && mD T f && mD T g
  |_=>false
 |none=>false
def rW (T:bh) (t:TypeId):Bool:=match T.get t with
 |some i=>match i.d,i.zero with
  | .bool,some (false,[.lit false])=>true
  |_,_=>false
 |none=>false
def mP (T:bh) (t:TypeId):Bool:=match T.get t with
 |some i=>match i.d with
  | .map k v=>iS T k && rW T v
  |_=>false
 |none=>false
abbrev pk (a b:Int):Value:=.agg #[.int .i64 a,.int .i64 b]
def xl (k:Int×Int) (e:MapEntry):Prop:=e.key=pk k.1 k.2/\e.val=Value.bool true
theorem get_map {P:Program} {w:World} {r:Nat} {es:Array MapEntry} {clock:Nat} (hb:w.heap[r]?=some (.map es clock)):(getObj r).run P w=.ok (.map es clock) w:=by
 simp [getObj,Sem.run,hb]
theorem uP {P:Program} {w:World} {r:Nat} {es:Array MapEntry} {clock:Nat} (o:Obj) (hb:w.heap[r]?=some (.map es clock)):(setObj r o).run P w=.ok () { w with heap:=w.heap.setIfInBounds r o }:=by
 simp [setObj,Sem.run,hb]
section
variable {P:Program} {T:bh} (hT:bC P T) {w:World}
include hT
theorem eu {t:TypeId} (h:mD T t=true):∃i,T.get t=some i/\i.d=.int .i64:=by
 unfold mD at h
 split at h
 ·rename_i i hi
  split at h
  ·rename_i hd;exact ⟨i,hi,hd⟩
  ·cases h
 ·cases h
theorem iT {t:TypeId} (h:iS T t=true):∃i f g,T.get t=some i/\i.d=.struct [(0,f),(1,g)]/\i.eq=true/\mD T f=true/\mD T g=true:=by
 unfold iS at h
 split at h
 ·rename_i i hi
  split at h
  ·rename_i f g hd
   simp only [Bool.and_eq_true] at h
   exact ⟨i,f,g,hi,hd,h.1.1,h.1.2,h.2⟩
  ·cases h
 ·cases h
theorem rH {t:TypeId} (h:mP T t=true):∃k v,P.underlying t=some (.map k v)/\iS T k=true/\rW T v=true:=by
 unfold mP at h
 split at h
 ·rename_i i hi
  split at h
  ·rename_i k v hd
   obtain ⟨d,h1,h2⟩:=cq hT hi
   rw [hd] at h2
   cases d<;>simp only [dN] at h2<;>cases h2
   simp only [Bool.and_eq_true] at h
   exact ⟨k,v,h1,h.1,h.2⟩
  ·cases h
 ·cases h
theorem wk {t:TypeId} (h:rW T t=true):(zeroValue t).run P w=.ok (.bool false) w:=by
 unfold rW at h
 split at h
 ·rename_i i hi
  split at h
  ·rename_i hd hz
   obtain ⟨ti,h1,h2,h3,h4⟩:=dM hT hi
   rw [hz] at h4
   cases hv:ti.zero with
   |none=>rw [hv] at h4;cases h4
   |some v=>
    rw [hv] at h4
    have h4:zeroOf v=some (false,[.lit false]):=h4.symm
    obtain ⟨k1,_,_⟩:=gG hT (w:=w) (R:=λ _=>⟨0,none,0,0⟩) (Pr:=λ _=>False) h4
    have yW:v=.bool false:=by
     unfold zeroOf at h4
     split at h4
     ·cases h4
     ·cases h4
     ·have e:nP v=.lit false:=by simpa using h4
      have hr:=kD w (λ _=>⟨0,none,0,0⟩) (λ _=>False) v
      rw [e] at hr
      exact hr
    simp [zeroValue,typeInfo,h1,hv,yW]
  ·cases h
 ·cases h
theorem p6 {t:TypeId} (h:iS T t=true) (a b c d:Int):(Op.equal t (pk a b) (pk c d)).run P w=.ok (decide (a=c/\b=d)) w:=by
 obtain ⟨i,f,g,hi,hd,he,hf,hg⟩:=iT hT h
 obtain ⟨fi,kA,rq⟩:=eu hT hf
 obtain ⟨gi,yN,hgd⟩:=eu hT hg
 obtain ⟨gs,k1,k2,k3,k4,k5⟩:=qg hT hi hd he
 have hl:jq T 40 (gs.toList.map λ f=>(f.offset,f.type)) [.int .i64 a,.int .i64 b] [.int .i64 c,.int .i64 d]=some [⟨a=c,inferInstance⟩,⟨b=d,inferInstance⟩]:=by
  rw [<-k2]
  simp [jq,kA,rq,yN,hgd,qT]
 have ih:=dy hT (R:=λ _=>⟨0,none,0,0⟩) (Pr:=λ _=>False) (w:=w) 40 gs.toList _ _ #[.int .i64 a,.int .i64 b] #[.int .i64 c,.int .i64 d] _ 9999 hl k5 ⟨rfl,rfl,trivial⟩ ⟨rfl,rfl,trivial⟩ (by omega)
 have hfo:P.fieldsOf t=gs:=by simp [Program.fieldsOf,k1]
 have hs:(Op.equalIn 10000 t (pk a b) (pk c d)).run P w=.ok (decide (a=c/\b=d)) w:=by
  rw [run_equalIn_struct (P:=P) w 9999 t _ _ (by rw [hfo];exact k1) k3,hfo]
  rw [ih]
  by_cases e1:a=c<;>by_cases e2:b=d<;>simp [e1,e2]
 exact hs
theorem lz {t:TypeId} (h:iS T t=true) (e:Bool) (a b:Int):(Instr.checkKey e 10000 t (pk a b)).run P w=.ok () w:=by
 obtain ⟨i,f,g,hi,hd,he,hf,hg⟩:=iT hT h
 obtain ⟨fi,kA,rq⟩:=eu hT hf
 obtain ⟨gi,yN,hgd⟩:=eu hT hg
 obtain ⟨gs,k1,k2,k3,k4,k5⟩:=qg hT hi hd he
 have yP:∃x y,gs= #[x, y]/\x.offset=0/\x.type=f/\y.offset=1/\y.type=g:=by
  rcases hh:gs.toList with _|⟨x,_|⟨y,_|⟨z,r⟩⟩⟩
  ·rw [hh] at k2;simp at k2
  ·rw [hh] at k2;simp at k2
  ·rw [hh] at k2
   simp at k2
   exact ⟨x,y,by apply Array.ext';simpa using hh,k2.1.1.symm,k2.1.2.symm,k2.2.1.symm,k2.2.2.symm⟩
  ·rw [hh] at k2;simp at k2
 obtain ⟨x,y,rfl,x1,x2,y1,y2⟩:=yP
 have p1:(part x.type #[Value.int .i64 a,.int .i64 b] x.offset).run P w=.ok (.int .i64 a) w:=by
  rw [x2];exact fZ hT kA (by rw [rq];rfl) (by rw [x1];rfl)
 have p2:(part y.type #[Value.int .i64 a,.int .i64 b] y.offset).run P w=.ok (.int .i64 b) w:=by
  rw [y2];exact fZ hT yN (by rw [hgd];rfl) (by rw [y1];rfl)
 have u1:=jj hT kA rq
 have u2:=jj hT yN hgd
 have c1:∀n (z:Int),(Instr.checkKey e (n+1) x.type (.int .i64 z)).run P w=.ok () w:=λ n z=>by
  rw [x2];simp [Instr.checkKey,run_underlying u1]
 have c2:∀n (z:Int),(Instr.checkKey e (n+1) y.type (.int .i64 z)).run P w=.ok () w:=λ n z=>by
  rw [y2];simp [Instr.checkKey,run_underlying u2]
 have key:∀n,(Instr.checkKey e (n+2) t (pk a b)).run P w=.ok () w:=λ n=>by
  unfold Instr.checkKey
  simp only [Sem.run_bind,run_underlying k1,Result.andThen_ok]
  simp [p1,p2,c1,c2]
 exact key 9998
theorem sV {t:TypeId} (h:iS T t=true) (a b:Int):∀(ks:List (Int×Int)) (es:List MapEntry) (i:Nat),an xl ks es->
 ((a,b)∉ks/\(Instr.findAsking t (pk a b) es i).run P w=.ok none w)\/((a,b)∈ks/\∃j e,es[j]?=some e/\e.key=pk a b/\e.val=.bool true/\(Instr.findAsking t (pk a b) es i).run P w=.ok (some (i+j,.bool true)) w)
 | [],[],i,_=>.inl ⟨by simp,by simp [Instr.findAsking]⟩
 |k::ks,e::es,i,hA=>by
  have he:=p6 hT (w:=w) h a b k.1 k.2
  rw [<-hA.1.1] at he
  by_cases hk:a=k.1/\b=k.2
  ·refine .inr ⟨by rw [show (a,b)=k by ext<;>simp [hk.1,hk.2]];simp,0,e,rfl,by rw [hA.1.1,hk.1,hk.2],hA.1.2, ?_⟩
   simp only [Instr.findAsking,Sem.run_bind,he,Result.andThen_ok,decide_eq_true hk,if_true,Sem.run_pure,hA.1.2,Nat.add_zero]
  ·have hne:(a,b)≠k:=λ z=>hk ⟨by rw [<-z],by rw [<-z]⟩
   have hstep:(Instr.findAsking t (pk a b) (e::es) i).run P w=(Instr.findAsking t (pk a b) es (i+1)).run P w:=by
    simp only [Instr.findAsking,Sem.run_bind,he,Result.andThen_ok,decide_eq_false hk,Bool.false_eq_true,if_false]
   rcases sV h a b ks es (i+1) hA.2 with ⟨h1,h2⟩|⟨h1,j,e',h2,h3,h4,h5⟩
   ·exact .inl ⟨by simp [hne,h1],by rw [hstep,h2]⟩
   ·exact .inr ⟨by simp [h1],j+1,e',by simpa using h2,h3,h4,by rw [hstep,h5];congr 3;omega⟩
 | [],_::_,_,hA=>hA.elim
 |_::_,[],_,hA=>hA.elim
theorem nR {t:TypeId} (h:iS T t=true) (a b:Int) {ks:List (Int×Int)} {es:List MapEntry} (hA:an xl ks es):
 ((a,b)∉ks/\(Instr.findKey t (pk a b) es).run P w=.ok none w)\/((a,b)∈ks/\∃j e,es[j]?=some e/\e.key=pk a b/\e.val=.bool true/\(Instr.findKey t (pk a b) es).run P w=.ok (some (j,.bool true)) w):=by
 obtain ⟨i,f,g,hi,hd,he,hf,hg⟩:=iT hT h
 obtain ⟨gs,k1,k2⟩:=iX hT hi hd
 have z6:(Instr.findKey t (pk a b) es).run P w=(Instr.findAsking t (pk a b) es 0).run P w:=by
  cases es with
  |nil=>simp [Instr.findKey,run_underlying k1,Instr.findNow,Instr.findAsking]
  |cons e es=>simp [Instr.findKey,run_underlying k1,Instr.findNow,Instr.sameNow]
 rw [z6]
 have:=sV hT (w:=w) h a b ks es 0 hA
 simpa using this
theorem qI {t:TypeId} (h:mP T t=true) {blk:Nat} {es:Array MapEntry} {clock:Nat} {l:List (Int×Int)} (hb:w.heap[blk]?=some (.map es clock)) (hs:oO l es.toList) (a b:Int):
 (Instr.lookup t (.map (some blk)) (pk a b) false).run P w=.ok (.bool (decide ((a,b)∈l))) w:=by
 obtain ⟨kt,vt,hu,hk,hv⟩:=rH hT h
 obtain ⟨ks,hm,hA⟩:=hs
 have hc:=λ e=>lz hT (w:=w) hk e a b
 have hz:=wk hT (w:=w) hv
 rcases nR hT (w:=w) hk a b hA with ⟨h1,h2⟩|⟨h1,j,e,h2,h3,h4,h5⟩
 ·have hd:decide ((a,b)∈l)=false:=decide_eq_false (λ z=>h1 ((hm _).2 z))
  simp only [Instr.lookup,Sem.run_bind,run_underlying hu,Result.andThen_ok,get_map hb,Sem.run_pure,hc,h2,hz,hd]
  rfl
 ·have hd:decide ((a,b)∈l)=true:=decide_eq_true ((hm _).1 h1)
  simp only [Instr.lookup,Sem.run_bind,run_underlying hu,Result.andThen_ok,get_map hb,Sem.run_pure,hc,h5,hd]
  rfl
theorem xH (a b:Int):Instr.sameBits 10000 (pk a b) (pk a b)=true:=by
 show (_ && _)=true
 simp [Instr.sameBits]
theorem qK {t:TypeId} (h:mP T t=true) {blk:Nat} {es:Array MapEntry} {clock:Nat} {l:List (Int×Int)} (hb:w.heap[blk]?=some (.map es clock)) (hs:oO l es.toList) (a b:Int):
 ∃es' clock' w',(Instr.mapUpdate t (.map (some blk)) (pk a b) (.bool true)).run P w=.ok () w'/\w'.heap[blk]?=some (.map es' clock')/\(∀q,q≠blk->w'.heap[q]?=w.heap[q]?)/\w'.heap.size=w.heap.size/\w'.os=w.os/\w'.tape=w.tape/\w'.output=w.output/\w'.drawn=w.drawn/\oO (l++[(a,b)]) es'.toList:=by
 obtain ⟨kt,vt,hu,hk,hv⟩:=rH hT h
 obtain ⟨ks,hm,hA⟩:=hs
 have hc:=λ e=>lz hT (w:=w) hk e a b
 have hlt:blk <w.heap.size:=(Array.getElem?_eq_some_iff.1 hb).1
 have s7:∀o,∃w',(setObj blk o).run P w=.ok () w'/\w'.heap[blk]?=some o/\(∀q,q≠blk->w'.heap[q]?=w.heap[q]?)/\w'.heap.size=w.heap.size/\w'.os=w.os/\w'.tape=w.tape/\w'.output=w.output/\w'.drawn=w.drawn:=λ o=>by
  refine ⟨{ w with heap:=w.heap.setIfInBounds blk o }, ?_, ?_,λ q hq=> ?_, ?_,rfl,rfl,rfl,rfl⟩
  ·exact uP o hb
  ·simp [hlt]
  ·simp [Array.getElem?_setIfInBounds,Ne.symm hq]
  ·simp
 rcases nR hT (w:=w) hk a b hA with ⟨h1,h2⟩|⟨h1,j,e,h2,h3,h4,h5⟩
 ·obtain ⟨w',r1,r2,r3,r4,r5,r6,r7,r8⟩:=s7 (.map (es.push { key:=pk a b,val:=.bool true,born:=clock }) (clock+1))
  refine ⟨_,_,w', ?_,r2,r3,r4,r5,r6,r7,r8,ks++[(a,b)],λ x=>by simp [hm], ?_⟩
  ·simp only [Instr.mapUpdate,Sem.run_bind,run_underlying hu,Result.andThen_ok,get_map hb,hc,h2,r1]
  ·rw [Array.toList_push]
   exact hA.append ⟨⟨rfl,rfl⟩,trivial⟩
 ·obtain ⟨w',r1,r2,r3,r4,r5,r6,r7,r8⟩:=s7 (.map (es.modify j λ e=>{ e with key:=pk a b,val:=.bool true }) clock)
  have hj:es[j]?=some e:=by simpa using h2
  refine ⟨_,_,w', ?_,r2,r3,r4,r5,r6,r7,r8,ks,λ x=> ?_, ?_⟩
  ·simp [Instr.mapUpdate,run_underlying hu,get_map hb,hc,h5,hj,h3,Instr.keyThatStays,xH hT,r1]
  ·rw [hm]
   simp only [List.mem_append,List.mem_singleton]
   exact ⟨.inl,λ z=>z.elim id (λ z=>by rw [z];exact (hm _).1 h1)⟩
  ·have:es.modify j (λ e=>{ e with key:=pk a b,val:=.bool true })=es:=by
    apply Array.ext
    ·simp
    ·intro q q1 q2
     rw [Array.getElem_modify]
     split
     ·rename_i hq
      subst hq
      have he:es[j]=e:=by
       have:=Array.getElem?_eq_getElem (xs:=es) (i:=j) q2
       rw [this] at hj;exact Option.some.inj hj
      rw [he, <-h3, <-h4]
     ·rfl
   rw [this];exact hA
end
end Go.Rx
