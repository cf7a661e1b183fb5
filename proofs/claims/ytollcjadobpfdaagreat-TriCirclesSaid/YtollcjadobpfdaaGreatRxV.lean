/- Reflection, part V: what a text of code comes to, and that it does so. -/
import Derived.Test.YtollcjadobpfdaaGreatRxU
set_option linter.unusedVariables false
set_option linter.unusedSimpArgs false
set_option linter.unusedSectionVars false
namespace Go.Rx
inductive Ex where
 |nx
 |ret
 |exit (id:Nat)
def Ex.to:Ex->Exit
 | .nx=>.normal
 | .ret=>.ret
 | .exit id=>.exit id
structure oM where
 loops:List (Nat×Cl):=[]
 qk:List (Nat×Cl):=[]
 conds:List (Nat×Cl):=[]
 qF:List (Nat×Cl):=[]
def yI:List (Nat×Cl)->Nat->Option Cl
 | [],_=>none
 | (j,c)::r,i=>match j.beq i with
   |true=>some c
   |false=>yI r i
def cut (l:List (Nat×Cl)) (i:Nat) (σ:St):St:=
 match yI l i with
 |some c=>c.go σ
 |none=>σ
def cW:Code->Nat
 | .region id _ _=>id
 | .seq a b=>match (cW a).beq 1000000 with
   |true=>cW b
   |false=>cW a
 | .cond _ a b=>match (cW a).beq 1000000 with
   |true=>cW b
   |false=>cW a
 | .block _ c=>cW c
 | .loop c=>cW c
 |_=>1000000
def cU (a b:Code):Nat:=match (cW a).beq 1000000 with
 |true=>cW b
 |false=>cW a
noncomputable def p7 {α β:Type} (l:List β) (z:Option α) (f:β->List β->Option α):Option α:=
 open Classical in if h:∃y,(l=[]->z=some y)/\∀i (hi:i <l.length),f l[i] (l.eraseIdx i)=some y then some h.choose else none
theorem vQ {α β:Type} {l:List β} {z:Option α} {f:β->List β->Option α} {y:α} (h:p7 l z f=some y):(l=[]->z=some y)/\∀i (hi:i <l.length),f l[i] (l.eraseIdx i)=some y:=by
 unfold p7 at h
 split at h
 ·rename_i g
  cases h
  exact g.choose_spec
 ·cases h
theorem AK {α β:Type} {l:List β} {z:Option α} {f:β->List β->Option α} {y:α} (h1:l=[]->z=some y) (h2:∀i (hi:i <l.length),f l[i] (l.eraseIdx i)=some y):p7 l z f=some y:=by
 unfold p7
 have h:∃y,(l=[]->z=some y)/\∀i (hi:i <l.length),f l[i] (l.eraseIdx i)=some y:=⟨y,h1,h2⟩
 rw [dif_pos h]
 obtain ⟨g1,g2⟩:=h.choose_spec
 cases l with
 |nil=>exact (g1 rfl).symm.trans (h1 rfl)
 |cons x l=>exact (g2 0 (by simp)).symm.trans (h2 0 (by simp))
abbrev eN (α:Type):=Ex->St->Option α
def iJ {α:Type} (f:St->Option α) (K:eN α):eN α
 | .nx,σ=>f σ
 |e,σ=>K e σ
def sr {α:Type} (id:Nat) (f:St->Option α) (K:eN α):eN α
 | .nx,σ=>f σ
 | .exit j,σ=>match j.beq id with
   |true=>f σ
   |false=>K (.exit j) σ
 | .ret,σ=>K .ret σ
def gX {α:Type} (body:St->eN α->Option α) (cl:St->St) (K:eN α):Nat->St->Option α
 | 0,_=>none
 |k+1,σ=>body σ (iJ (λ σ'=>gX body cl K k (cl σ')) K)
section
variable (T:bh) (Y:dZ) (E:Env) (A:oM) (k:Nat)
noncomputable def yy {α:Type} (ops:List Oper) (σ:St) (K:St->List bg->Option α):Option α:=
 match ops with
 |o::r=>match o.op with
  | .next x false=>match o.guard,σ.ρ x with
    |none,.cp (.one (.ptr d 0))=>match σ.ob d with
     |some (.tok κ)=>match σ.ob κ with
      |some (.map KT VT l (some (d',left,_)))=>match d'.beq d with
       |true=>p7 left (runK T Y E ops 1 r ((σ.aK κ (some (.map KT VT l none))).put o.dst (.bO [.one (.lit false)])) K)
         (λ kv rest=>runK T Y E ops 1 r ((σ.aK κ (some (.map KT VT l (some (d,rest,some kv))))).put o.dst (.bO [.one (.lit true),.one .any,.one .any])) K)
       |false=>none
      |_=>none
     |_=>none
    |_,_=>none
  |_=>runK T Y E ops 0 ops σ K
 | []=>runK T Y E ops 0 ops σ K
noncomputable def den {α:Type}:Code->Nat->St->eN α->Option α
 | .skip,_,σ,K=>K .nx σ
 | .ret,_,σ,K=>K .ret σ
 | .exit id,_,σ,K=>K (.exit id) σ
 | .seq a b,n,σ,K=>den a n σ (iJ (λ σ'=>den b n σ' K) K)
 | .cond c a b,n,σ,K=>match σ.ρ c with
   | .cp (.one (.lit true))=>den a n σ (iJ (λ σ'=>K .nx (cut A.conds (cU a b) σ')) K)
   | .cp (.one (.lit false))=>den b n σ (iJ (λ σ'=>K .nx (cut A.conds (cU a b) σ')) K)
   | .cp (.one (.prop p d))=>@ite _ p d (den a n σ (iJ (λ σ'=>K .nx (cut A.conds (cU a b) σ')) K)) (den b n σ (iJ (λ σ'=>K .nx (cut A.conds (cU a b) σ')) K))
   |_=>none
 | .block id c,_,σ,K=>den c id σ (sr id (λ σ'=>K .nx (cut A.qk id σ')) K)
 | .loop c,n,σ,K=>gX (λ σ K=>den c n σ K) (cut A.loops n) K k (cut A.loops n σ)
 | .region id ops false,_,σ,K=>yy T Y E ops.toList σ λ σ' _=>K .nx (cut A.qF id σ')
 | .region id ops true,_,σ,K=>runK T Y E ops.toList 0 ops.toList σ λ σ' Fs=>match xk ops.toList Fs with
   |true=>K .nx (cut A.qF id σ')
   |false=>none
 |_,_,_,_=>none
end
def eT:Code->Bool
 | .seq a b=>eT a && eT b
 | .cond _ a b=>eT a && eT b
 | .block _ c=>eT c
 | .loop c=>eT c
 | .region _ ops true=>u9 ops.toList
 |_=>true
section
variable {w0:World} {Fz av:Nat->Prop} {Lo:Nat->RL}
variable {P:Program} {T:bh} {Y:dZ} {E:Env} {A:oM} {k:Nat}
def Ok (w0:World) (Fz av:Nat->Prop) (Lo:Nat->RL) {α:Type} (y:α) (K:eN α) (Q:Exit->Act->World->Prop):Prop:=∀e σ R Pr a w,Inv w0 Fz av Lo R Pr σ a w->K e σ=some y->Q e.to a w
theorem jc (aZ:∀b,b <w0.heap.size->Fz b\/av b) {l:List (Nat×Cl)} {i:Nat} {σ:St} {R:Nat->RL} {Pr:Nat->Prop} {a:Act} {w:World} (h:Inv w0 Fz av Lo R Pr σ a w):∃R' ak,Inv w0 Fz av Lo R' ak (cut l i σ) a w:=by
 unfold cut
 split
 ·exact h.clean aZ _
 ·exact ⟨R,Pr,h⟩
theorem nW {α:Type} {b:Nat} {seen:Array Nat}:∀{es:List MapEntry} {l:List α},b∉es.map (·.born)->bl es l (seen.push b)=bl es l seen
 | [],l,_=>by cases l<;>rfl
 |e::es,[],_=>rfl
 |e::es,x::l,h=>by
  simp only [List.map_cons,List.mem_cons,not_or] at h
  have hc:(seen.push b).contains e.born=seen.contains e.born:=by
   rw [Array.contains_push]
   have:(e.born == b)=false:=by simpa using λ z:e.born=b=>h.1 z.symm
   rw [this,Bool.or_false]
  rw [bl,bl,hc,nW h.2]
theorem pR {α:Type} {seen:Array Nat} {e:MapEntry}:∀{es:List MapEntry} {l:List α} {j:Nat} {x:α},es.length=l.length->(es.map (·.born)).Nodup->es[j]?=some e->l[j]?=some x->seen.contains e.born=false->
 ∃i,∃hi:i <(bl es l seen).length,(bl es l seen)[i]=x/\bl es l (seen.push e.born)=(bl es l seen).eraseIdx i
 | [],_,j,_,_,_,he,_,_=>by simp at he
 |e0::es,[],j,_,hl,_,_,_,_=>by simp at hl
 |e0::es,x0::l,j,x,hl,hn,he,hx,hs=>by
  rw [List.map_cons,List.nodup_cons] at hn
  cases j with
  |zero=>
   simp only [List.getElem?_cons_zero,Option.some.injEq] at he hx
   subst he hx
   have h1:bl (e0::es) (x0::l) seen=x0::bl es l seen:=by rw [bl,hs]
   have h2:bl (e0::es) (x0::l) (seen.push e0.born)=bl es l seen:=by
    have:(seen.push e0.born).contains e0.born=true:=by simp
    rw [bl,this,nW hn.1]
   exact ⟨0,by rw [h1];simp,by simp [h1],by rw [h2,h1];rfl⟩
  |succ j=>
   simp only [List.getElem?_cons_succ] at he hx
   obtain ⟨i,hi,g1,g2⟩:=pR (by simpa using hl) hn.2 he hx hs
   have hne:e0.born≠e.born:=λ z=>hn.1 (by rw [z];exact List.mem_map.2 ⟨e,List.mem_of_getElem? he,rfl⟩)
   have hc:(seen.push e.born).contains e0.born=seen.contains e0.born:=by
    rw [Array.contains_push]
    have:(e0.born == e.born)=false:=by simpa using hne
    rw [this,Bool.or_false]
   cases hb:seen.contains e0.born with
   |true=>
    have h1:bl (e0::es) (x0::l) seen=bl es l seen:=by rw [bl,hb]
    have h2:bl (e0::es) (x0::l) (seen.push e.born)=bl es l (seen.push e.born):=by rw [bl,hc,hb]
    exact ⟨i,by rw [h1];exact hi,by simp only [h1];exact g1,by rw [h2,h1];exact g2⟩
   |false=>
    have h1:bl (e0::es) (x0::l) seen=x0::bl es l seen:=by rw [bl,hb]
    have h2:bl (e0::es) (x0::l) (seen.push e.born)=x0::bl es l (seen.push e.born):=by rw [bl,hc,hb]
    exact ⟨i+1,by rw [h1];simpa using hi,by simp only [h1,List.getElem_cons_succ];exact g1,by rw [h2,h1,g2];rfl⟩
theorem pQ {α:Type} {seen:Array Nat}:∀{es:List MapEntry} {l:List α},(∀e∈es,seen.contains e.born=true)->bl es l seen=[]
 | [],l,_=>by cases l<;>rfl
 |e::es,[],_=>rfl
 |e::es,x::l,h=>by
  rw [bl,h e (List.mem_cons_self ..)]
  exact pQ λ e' he=>h e' (List.mem_cons_of_mem _ he)
theorem zj (aZ:∀b,b <w0.heap.size->Fz b\/av b) {σ:St} {R:Nat->RL} {Pr:Nat->Prop} {a:Act} {w:World} (h:Inv w0 Fz av Lo R Pr σ a w) {o:Oper} {x:Operand} (ho:o.op=.next x false) {d κ:Nat} {KT VT:Ty} {l left:List (KT.D×VT.D)} {cur:Option (KT.D×VT.D)}
 (hx:σ.ρ x=.cp (.one (.ptr d 0))) (aa:σ.ob κ=some (.map KT VT l (some (d,left,cur)))) {K:Act->World->Prop} {Q:Exit->Act->World->Prop}
 (hz:left=[]->∀u R' ak w',Inv w0 Fz av Lo R' ak ((σ.aK κ (some (.map KT VT l none))).put o.dst (.bO [.one (.lit false)])) (a.put o.dst u) w'->K (a.put o.dst u) w')
 (hf:∀i (hi:i <left.length),∀u R' ak w',Inv w0 Fz av Lo R' ak ((σ.aK κ (some (.map KT VT l (some (d,left.eraseIdx i,some left[i]))))).put o.dst (.bO [.one (.lit true),.one .any,.one .any])) (a.put o.dst u) w'->K (a.put o.dst u) w'):o.wp P a w K Q:=by
 obtain ⟨dst,op,ty,pos,after,guard⟩:=o
 simp only at ho hz hf
 subst ho
 have jy:=h.cu x
 rw [hx] at jy
 have jy:a.eval x=.pointer (some ⟨(R d).blk,0,none⟩):=jy
 obtain ⟨es,clock,g1,⟨g2,lP⟩,g3,g4,g5⟩:=h.ob κ _ aa
 obtain ⟨since,seen,k1,k2,k3,k4,_⟩:=g5 d left cur rfl
 have yM:execOp a.eval ⟨dst,.next x false,ty,pos,after,guard⟩=(do pure (.value (<-Instr.next (a.eval x) false ty))):=rfl
 have hdp:σ.ob d≠none:=h.wo κ _ d aa (List.mem_singleton.2 rfl)
 unfold Oper.wp
 rcases run_next_at (P:=P) w ty (R d).blk (R κ).blk since clock seen es clock k1 g1 k3 k2 with ⟨m1,m2⟩|⟨e,he,w1,hw1,m2⟩
 ·rw [yM,jy,Sem.run_bind,m2]
  have hl:left=[]:=by
   rw [k4]
   refine pQ λ e he=> ?_
   have hm:leftOf es seen= #[] :=Array.eq_empty_of_size_eq_zero m1
   unfold leftOf at hm
   rw [Array.filter_eq_empty_iff] at hm
   have:=hm e (by simpa using he)
   simpa using this
  have h1:=h.upd κ _ (.map KT VT l none) aa (w':=w) (R':=R) (λ _ _=>rfl) (.inl rfl) (λ _ _ _=>rfl) (Grow.refl _) (λ _=>.inr ⟨trivial,rfl⟩) ⟨es,clock,g1,⟨g2,lP⟩,g3,g4,λ _ _ _ z=>by cases z⟩ (λ _ z=>by cases z) (λ b z=>by obtain ⟨_,_,z,_⟩:=z;cases z)
  exact hz hl _ R Pr w (h1.put dst _ _ ⟨_,rfl,rfl,trivial⟩ (λ κ z=>by cases z))
 ·rw [yM,jy,Sem.run_bind,m2]
  obtain ⟨Cr,Cs⟩:=mem_left he
  obtain ⟨j,hj⟩:=List.getElem?_of_mem Cr
  have hjl:j <l.length:=by rw [<-g3];exact (List.getElem?_eq_some_iff.1 hj).1
  obtain ⟨i,hi,q1,q2⟩:=pR g3 g2 hj (List.getElem?_eq_getElem hjl) Cs
  have hnb:(R κ).blk≠(R d).blk:=λ z=>((h.lm κ _ _ aa ⟨d,_,rfl,rfl⟩).2.2 κ _ aa).1 trivial z
  have hheap:∀b,(ChangeMaps.setBlock w1 (R d).blk (.mapIter (some (R κ).blk) since (seen.push e.born) clock)).heap[b]?=if b=(R d).blk then some (.mapIter (some (R κ).blk) since (seen.push e.born) clock) else w.heap[b]?:=λ b=>by
   have hlt:(R d).blk <w.heap.size:=(Array.getElem?_eq_some_iff.1 k1).1
   have:(ChangeMaps.setBlock w1 (R d).blk (.mapIter (some (R κ).blk) since (seen.push e.born) clock)).heap=w.heap.setIfInBounds (R d).blk (.mapIter (some (R κ).blk) since (seen.push e.born) clock):=by
    rcases hw1 with rfl|rfl<;>rfl
   rw [this,Array.getElem?_setIfInBounds]
   by_cases hb:(R d).blk=b
   ·subst hb;simp [hlt]
   ·rw [if_neg hb,if_neg (λ z=>hb z.symm)]
  have hsz:(ChangeMaps.setBlock w1 (R d).blk (.mapIter (some (R κ).blk) since (seen.push e.born) clock)).heap.size=w.heap.size:=by
   have e1:w1.heap=w.heap:=by rcases hw1 with rfl|rfl<;>rfl
   show (w1.heap.setIfInBounds _ _).size=_
   rw [Array.size_setIfInBounds,e1]
  have pG:Grow w (ChangeMaps.setBlock w1 (R d).blk (.mapIter (some (R κ).blk) since (seen.push e.born) clock)):=⟨by rw [hsz];exact Nat.le_refl _,by rcases hw1 with rfl|rfl<;>rfl,by rcases hw1 with rfl|rfl<;>rfl,by rcases hw1 with rfl|rfl<;>rfl,by rcases hw1 with rfl|rfl<;>first|exact Nat.le_refl _|exact Nat.le_succ _⟩
  generalize hw':ChangeMaps.setBlock w1 (R d).blk (.mapIter (some (R κ).blk) since (seen.push e.born) clock)=w' at *
  have gM:∀w2 b,bt w2 R κ (.map KT VT l (some (d,left.eraseIdx i,some (l[j]'hjl)))) b->bt w R κ (.map KT VT l (some (d,left,cur))) b:=λ w2 b aM=>by
   rcases aM with ⟨_,z⟩|⟨d',L,z1,z2⟩
   ·exact .inl ⟨trivial,z⟩
   ·cases z1;exact .inr ⟨d,_,rfl,z2⟩
  have BI: ¬Pr (R d).blk:=(h.lm κ _ _ aa ⟨d,_,rfl,rfl⟩).1
  have kY:az w' R Pr κ (.map KT VT l (some (d,left.eraseIdx i,some (l[j]'hjl)))):=by
   refine ⟨es,clock,by rw [hheap,if_neg hnb];exact g1,⟨g2,lP⟩,g3,λ i kv en z1 z2=>(g4 i kv en z1 z2).move (λ b hb=>by rw [hheap,if_neg (λ (z:b=(R d).blk)=>BI (z▸hb))]) (λ _ h=>h),λ d' L cur' z=> ?_⟩
   cases z
   refine ⟨since,seen.push e.born,by rw [hheap,if_pos rfl],k2,k3, ?_,λ kv z=> ?_⟩
   ·rw [q2];congr 1
   ·cases z
    exact ⟨j,e,seen,List.getElem?_eq_getElem hjl,hj,rfl⟩
  have key:∀(q ah:Nat) (o1:Ob),([(κ,Ob.map KT VT l (some (d,left.eraseIdx i,some (l[j]'hjl))))]:List (Nat×Ob))[q]?=some (ah,o1)->q=0/\ah=κ/\o1=.map KT VT l (some (d,left.eraseIdx i,some (l[j]'hjl))):=λ q ah o1 z=>by
   cases q with
   |zero=>simp at z;exact ⟨rfl,z.1.symm,z.2.symm⟩
   |succ q=>simp at z
  have h2:=h.y4 [(κ,.map KT VT l (some (d,left.eraseIdx i,some (l[j]'hjl))))] (w':=w') (R':=R) (ak:=Pr) (by simp) (λ ah bq=>by
   simp only [List.map_cons,List.map_nil,List.mem_singleton] at bq
   subst bq;rw [aa];simp) (λ _ _=>rfl) (λ _=>.inl rfl)
   ⟨λ q ah o1 z=>by obtain ⟨_,rfl,rfl⟩:=key q ah o1 z;exact kY,λ q ah o1 b z aM=>by obtain ⟨_,rfl,rfl⟩:=key q ah o1 z;exact (h.dD aa (gM _ b aM)).1,λ q q' ah o1 aH o2 b z z' hne _=>absurd ((key q ah o1 z).1.trans (key q' aH o2 z').1.symm) hne,λ q ah o1 z _ hi=>by
     obtain ⟨_,rfl,rfl⟩:=key q ah o1 z
     obtain ⟨d',L,e1,e2⟩:=hi
     cases e1;exact hnb e2⟩ (λ ah o1 z aH hk=>by
     simp only [List.mem_singleton,Prod.mk.injEq] at z
     obtain ⟨rfl,rfl⟩:=z
     simp only [Ob.refs,List.mem_singleton] at hk
     subst hk;exact hdp) (λ b ⟨q,ah,o1,z,aM⟩=>by
     obtain ⟨_,rfl,rfl⟩:=key q ah o1 z
     exact .inl ⟨ah,by simp,_,aa,gM _ b aM⟩) (λ b _ hall=>by
     rw [hheap,if_neg (λ z=>hall κ (by simp) _ aa (.inr ⟨d,_,rfl,z⟩))]) pG (λ _ z=>z) (λ b z _=>.inl z) (λ b z=>by rw [hsz];exact h.pr b z) aZ
  have hi':i <left.length:=by rw [k4];exact hi
  have hq:left[i]=l[j]:=by
   have:left[i]=(bl es.toList l seen)[i]:=by congr 1
   rw [this];exact q1
  refine hf i hi' _ R Pr w' (Inv.put ?_ dst _ _ ⟨_,rfl,rfl,trivial,trivial,trivial⟩ (λ κ z=>by cases z))
  rw [hq];exact h2
theorem cQ (hT:bC P T) (hE:bR P E) (dW:dH P E) (aZ:∀b,b <w0.heap.size->Fz b\/av b) (hm:P.follows .mixedOrders=true) {α:Type} (y:α):∀(c:Code),eT c=true->∀(n:Nat) (σ:St) (K:eN α) (R:Nat->RL) (Pr:Nat->Prop) (a:Act) (w:World) (Q:Exit->Act->World->Prop),
 Inv w0 Fz av Lo R Pr σ a w->den T Y E A k c n σ K=some y->Ok w0 Fz av Lo y K Q->c.wp P Q a w
 | .skip,_,n,σ,K,R,Pr,a,w,Q,h,hd,hq=>wp_skip (hq .nx σ R Pr a w h hd)
 | .ret,_,n,σ,K,R,Pr,a,w,Q,h,hd,hq=>wp_ret (hq .ret σ R Pr a w h hd)
 | .exit id,_,n,σ,K,R,Pr,a,w,Q,h,hd,hq=>wp_exit (hq (.exit id) σ R Pr a w h hd)
 | .seq x z,aF,n,σ,K,R,Pr,a,w,Q,h,hd,hq=>by
   simp only [eT,Bool.and_eq_true] at aF
   refine wp_seq (cQ hT hE dW aZ hm y x aF.1 n σ _ R Pr a w _ h hd ?_)
   intro e σ' R' ak a' w' h' hk
   cases e with
   |nx=>exact cQ hT hE dW aZ hm y z aF.2 n σ' K R' ak a' w' Q h' hk hq
   |ret=>exact hq .ret σ' R' ak a' w' h' hk
   |exit id=>exact hq (.exit id) σ' R' ak a' w' h' hk
 | .cond c x z,aF,n,σ,K,R,Pr,a,w,Q,h,hd,hq=>by
   simp only [eT,Bool.and_eq_true] at aF
   have hc:=h.cu c
   have uE:Ok w0 Fz av Lo y (iJ (λ σ'=>K .nx (cut A.conds (cU x z) σ')) K) Q:=λ e σ' R' ak a' w' h' hk=>by
    cases e with
    |nx=>
     obtain ⟨R2,fJ,h2⟩:=jc aZ (l:=A.conds) (i:=cU x z) h'
     exact hq .nx _ R2 fJ a' w' h2 hk
    |ret=>exact hq .ret σ' R' ak a' w' h' hk
    |exit id=>exact hq (.exit id) σ' R' ak a' w' h' hk
   unfold den at hd
   split at hd
   ·rename_i e
    rw [e] at hc
    exact wp_cond_true hc (cQ hT hE dW aZ hm y x aF.1 n σ _ R Pr a w Q h hd uE)
   ·rename_i e
    rw [e] at hc
    exact wp_cond_false hc (cQ hT hE dW aZ hm y z aF.2 n σ _ R Pr a w Q h hd uE)
   ·rename_i p d e
    rw [e] at hc
    have hc:a.eval c=.bool (@decide p d):=hc
    by_cases hp:p
    ·rw [if_pos hp] at hd
     refine wp_cond_true (by rw [hc];simp [hp]) (cQ hT hE dW aZ hm y x aF.1 n σ _ R Pr a w Q h hd uE)
    ·rw [if_neg hp] at hd
     refine wp_cond_false (by rw [hc];simp [hp]) (cQ hT hE dW aZ hm y z aF.2 n σ _ R Pr a w Q h hd uE)
   ·cases hd
 | .block id c,aF,n,σ,K,R,Pr,a,w,Q,h,hd,hq=>by
   refine wp_block (cQ hT hE dW aZ hm y c aF id σ _ R Pr a w _ h hd ?_)
   intro e σ' R' ak a' w' h' hk
   have zT:K .nx (cut A.qk id σ')=some y->Q .normal a' w':=λ hk=>by
    obtain ⟨R2,fJ,h2⟩:=jc aZ (l:=A.qk) (i:=id) h'
    exact hq .nx _ R2 fJ a' w' h2 hk
   cases e with
   |nx=>exact zT hk
   |ret=>exact hq .ret σ' R' ak a' w' h' hk
   |exit j=>
    simp only [sr] at hk
    split at hk
    ·rename_i hj
     rw [Nat.beq_eq] at hj
     subst hj
     show Exit.inBlock j Q (.exit j) a' w'
     simp only [Exit.inBlock,if_true]
     exact zT hk
    ·rename_i hj
     have hj': ¬j=id:=λ e=>by subst e;simp at hj
     show Exit.inBlock id Q (.exit j) a' w'
     simp only [Exit.inBlock,if_neg hj']
     exact hq (.exit j) σ' R' ak a' w' h' hk
 | .loop c,aF,n,σ,K,R,Pr,a,w,Q,h,hd,hq=>by
   obtain ⟨R1,hD,h1⟩:=jc aZ (l:=A.loops) (i:=n) h
   refine wp_loop_ghost (λ j a w=>∃σ R Pr,Inv w0 Fz av Lo R Pr σ a w/\gX (λ σ K=>den T Y E A k c n σ K) (cut A.loops n) K j σ=some y) k ⟨_,R1,hD,h1,hd⟩ ?_
   rintro j a w ⟨σ,R,Pr,h,hd⟩
   cases j with
   |zero=>simp only [gX] at hd;cases hd
   |succ j=>
    simp only [gX] at hd
    refine cQ hT hE dW aZ hm y c aF n _ _ R Pr a w _ h hd ?_
    intro e σ' R' ak a' w' h' hk
    cases e with
    |nx=>
     obtain ⟨R2,fJ,h2⟩:=jc aZ (l:=A.loops) (i:=n) h'
     exact ⟨j,by omega,_,R2,fJ,h2,hk⟩
    |ret=>exact hq .ret σ' R' ak a' w' h' hk
    |exit id=>exact hq (.exit id) σ' R' ak a' w' h' hk
 | .region id ops false,aF,n,σ,K,R,Pr,a,w,Q,h,hd,hq=>by
   refine wp_region_list ?_
   have go:∀{i:Nat} {r:List Oper} {σ:St} {R:Nat->RL} {Pr:Nat->Prop} {a:Act} {w:World},Inv w0 Fz av Lo R Pr σ a w->runK T Y E ops.toList i r σ (λ σ' _=>K .nx (cut A.qF id σ'))=some y->wpList P ops.toList.toArray Q r a w:=λ h hd=>by
    obtain ⟨σ',Fs,hL,hk⟩:=iC T Y E hd
    exact rC (Q:=Q) hT hE dW aZ hL h λ R' ak a' w' h'=>by
     obtain ⟨R2,fJ,h2⟩:=jc aZ (l:=A.qF) (i:=id) h'
     exact hq .nx _ R2 fJ a' w' h2 hk
   suffices hs:wpList P ops.toList.toArray Q ops.toList a w by simpa using hs
   have hd:yy T Y E ops.toList σ (λ σ' _=>K .nx (cut A.qF id σ'))=some y:=hd
   unfold yy at hd
   split at hd
   ·rename_i o r vI
    split at hd
    ·rename_i x CC
     split at hd
     ·rename_i d hg hx
      split at hd
      ·rename_i κ hdt
       split at hd
       ·rename_i KT VT l d' left cur aa
        split at hd
        ·rename_i ij
         have ij:=Nat.eq_of_beq_eq_true ij
         subst ij
         obtain ⟨p1,p2⟩:=vQ hd
         rw [vI]
         refine wpList_step λ K2 yJ=> ?_
         have As:Region.wanted o (yielded (o::r).toArray a.tmps)=true:=by simp [Region.wanted,hg]
         rw [As,if_pos rfl]
         rw [vI] at go p1 p2
         exact zj aZ h CC hx aa (λ hl u R' ak w' h'=>yJ _ _ (go h' (p1 hl))) (λ i hi u R' ak w' h'=>yJ _ _ (go h' (p2 i hi)))
        ·cases hd
       ·cases hd
      ·cases hd
     ·cases hd
    ·rename_i hne
     exact go h hd
   ·rename_i hnil
    exact go h hd
 | .region id ops true,aF,n,σ,K,R,Pr,a,w,Q,h,hd,hq=>by
   obtain ⟨σ',Fs,hL,hk⟩:=iC T Y E hd
   split at hk
   ·rename_i hi
    have:=tY (Q:=Q) (id:=id) hT hE dW aZ hm aF hL hi h λ R' ak a' w' h'=>by
     obtain ⟨R2,fJ,h2⟩:=jc aZ (l:=A.qF) (i:=id) h'
     exact hq .nx _ R2 fJ a' w' h2 hk
    simpa using this
   ·cases hk
 | .rangeFunc ..,_,n,σ,K,R,Pr,a,w,Q,h,hd,hq=>by cases hd
 | .scope ..,_,n,σ,K,R,Pr,a,w,Q,h,hd,hq=>by cases hd
 | .label ..,_,n,σ,K,R,Pr,a,w,Q,h,hd,hq=>by cases hd
 | .goto ..,_,n,σ,K,R,Pr,a,w,Q,h,hd,hq=>by cases hd
 | .refuse ..,_,n,σ,K,R,Pr,a,w,Q,h,hd,hq=>by cases hd
end
end Go.Rx
