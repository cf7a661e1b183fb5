/- Reflection, part J: what the operations that make or write objects do in the machine. -/
import Derived.Test.YtollcjadobpfdaaGreatRxI
set_option linter.unusedVariables false
set_option linter.unusedSimpArgs false
set_option linter.unusedSectionVars false
namespace Go.Rx
section
variable {w0:World} {Fz av:Nat->Prop} {Lo:Nat->RL} {R:Nat->RL} {Pr:Nat->Prop} {σ:St} {a:Act} {w:World}
theorem Cb {a b:Nat} (h:a.blt b=true):a <b:=by
 rw [Nat.blt_eq] at h;exact h
theorem b9 {ob:Nat->Option Ob} {len d:Nat} {conds:List DP} {acc:List Nat} {v:C} {o:Ob} {e:bK} (h:dB ob len d conds acc v o=some e):fE d len=true/\ob d=none/\e=⟨conds,d::acc,aQ v,none,some (d,o)⟩:=by
 unfold dB at h
 split at h
 ·rename_i h1 h2
  exact ⟨h1,h2,(Option.some.inj h).symm⟩
 ·cases h
theorem Inv.nE (h:Inv w0 Fz av Lo R Pr σ a w) {d:Nat} {o:Ob} {loc:RL} {w':World} (hd:σ.ob d=none) (hok:fE d σ.objs.length=true) (hw:∀b,b <w.heap.size->w'.heap[b]?=w.heap[b]?) (hg:Grow w w')
 (hb:real (λ κ=>if κ=d then loc else R κ) d o->loc.blk=w.heap.size) (ho:∀R':Nat->RL,R' d=loc->(∀κ,σ.ob κ≠none->R' κ=R κ)->az w' R' Pr d o) (nS:∀κ∈o.refs,σ.ob κ≠none) (dst:Option Nat) (v:C) (u:Value)
 (hv:∀R':Nat->RL,R' d=loc->au w' R' Pr v u) (CM:v.refs=[d]) (hni:∀(R':Nat->RL) b,R' d=loc-> ¬bM w' R' d o b:=by exact λ _ _ _ h=>h):
 ∃R',Inv w0 Fz av Lo R' Pr ((σ.aK d (some o)).put dst (aQ v)) (a.put dst u) w':=by
 have eE:∀b,Pr b->b <w.heap.size:=h.pr
 have hs:=hg.sz
 have h1:=h.world (ak:=Pr) hw hg (λ _ h=>h) (λ _ h _=>h) (λ b hb=>by have:=h.pr b hb;omega)
 refine ⟨λ κ=>if κ=d then loc else R κ, ?_⟩
 have dn:(λ κ=>if κ=d then loc else R κ) d=loc:=by simp
 have hlt:=ct hok
 have h2:=h1.add d o loc hd hok rfl (ho _ dn (λ κ aa=>by have:κ≠d:=λ e=>aa (e▸hd);simp [this])) nS (λ aq=>by
  have e:=hb aq
  refine ⟨λ z=>by have:=eE _ z;omega,λ z=>by have:=(h.fz _ z).1;have:=h.sm.sz;omega,λ κ o' aa=>⟨λ dK=>by have:=az.lt dK (h.ob κ o' aa);omega,λ hi=>by have:=(h.ob κ o' aa).eF (hi.back (w:=w) (R:=R) rfl (λ j7=>hw _ (az.lt j7 (h.ob κ o' aa))));omega⟩⟩) (hni _ · dn)
 refine h2.put dst (aQ v) u (hv _ dn) (λ κ aa=> ?_)
 have:κ=d:=by
  have h3:κ∈v.refs:=aa
  rw [CM] at h3;simpa using h3
 subst this
 rw [St.aL,if_pos ⟨rfl,hlt⟩];simp
theorem bH (w:World) (x:Obj) (b:Nat) (h:b <w.heap.size):(w.alloc x).heap[b]?=w.heap[b]?:=by
 simp only [World.alloc,Array.getElem?_push]
 simp [Nat.ne_of_lt h]
theorem cO (w:World) (x:Obj):(w.alloc x).heap[w.heap.size]?=some x:=by
 show (w.heap.push x)[w.heap.size]?=some x
 simp
def lW:Value->AV
 | .agg cs=>.cp (.agg (cs.toList.map nP))
 | .tuple _=>bA
 |v=>.cp (.one (nP v))
theorem uZ (w:World) (R:Nat->RL) (Pr:Nat->Prop) (v:Value):aA w R Pr (lW v) v:=by
 unfold lW
 split
 ·rename_i cs
  refine ⟨cs,rfl, ?_⟩
  generalize cs.toList=l
  induction l with
  |nil=>trivial
  |cons x l ih=>exact ⟨kD _ _ _ _,ih⟩
 ·trivial
 ·exact kD _ _ _ _
theorem tX (v:Value):(lW v).refs=[]:=by
 unfold lW
 split
 ·rename_i cs
  simp only [AV.refs,Cp.refs]
  generalize cs.toList=l
  induction l with
  |nil=>rfl
  |cons x l ih=>simp only [List.map_cons,List.flatMap_cons,lB,List.nil_append];exact ih
 ·rfl
 ·exact lB _
def St.ρ (σ:St):Operand->AV
 | .tmp t=>σ.get t
 | .const v=>lW v
 | .func f=>aQ (.fn f [])
 |_=>bA
theorem Inv.cu (h:Inv w0 Fz av Lo R Pr σ a w) (x:Operand):aA w R Pr (σ.ρ x) (a.eval x):=by
 cases x with
 |tmp t=>exact h.tm t
 |const v=>exact uZ w R Pr v
 |func f=>rfl
 |global g=>trivial
theorem St.zq (σ:St) (x:Operand) {κ:Nat} (h:κ∈(σ.ρ x).refs):∃t,x=.tmp t/\κ∈(σ.get t).refs:=by
 cases x with
 |tmp t=>exact ⟨t,rfl,h⟩
 |const v=>simp only [St.ρ,tX] at h;cases h
 |func f=>cases h
 |global g=>cases h
theorem Inv.y6 (h:Inv w0 Fz av Lo R Pr σ a w) (x:Operand) {κ:Nat} (hk:κ∈(σ.ρ x).refs):σ.ob κ≠none:=by
 obtain ⟨t,_,h2⟩:=St.zq σ x hk
 exact h.wt t κ h2
variable {P:Program} {T:bh} (hT:bC P T) {Y:dZ}
def Dd (P:Program) (w0:World) (Fz av:Nat->Prop) (Lo:Nat->RL) (Pr:Nat->Prop) (σ':St) (a:Act) (w:World) (dst:Option Nat) (s:Sem Next):Prop:=
 ∃u w' R',(s.run P w=.ok (.value u) w'\/(s.run P w=.ok .skip w'/\u=undef))/\Inv w0 Fz av Lo R' Pr σ' (a.put dst u) w'
include hT
theorem qQ (h:Inv w0 Fz av Lo R Pr σ a w) {d:Nat} {dst:Option Nat} {cs:List C} {el:TypeId} {vs:Array Value} {e:bK} {acc:List Nat} (hn:dB σ.ob σ.objs.length d [] acc (.ptr d 0) (.box cs)=some e) (hr:an (au w R Pr) cs vs.toList) (nS:∀c∈cs,∀κ∈c.refs,σ.ob κ≠none):
 ∃R',Inv w0 Fz av Lo R' Pr (σ.ef dst e) (a.put dst (.pointer (some ⟨w.heap.size,0,none⟩))) (w.alloc (.cells vs el)):=by
 obtain ⟨h1,h2,rfl⟩:=b9 hn
 refine h.nE (loc:=⟨w.heap.size,none,0,0⟩) h2 h1 (λ b hb=>bH w _ b hb) ⟨by simp,rfl,rfl,rfl,(by first|exact Nat.le_refl _|exact Nat.le_succ _|exact Nat.le_add_right _ _)⟩ (λ _=>rfl) (λ R' dn rj=> ?_) (λ κ aa=> ?_) dst _ _ (λ R' dn=> ?_) rfl
 ·refine ⟨el,vs,by rw [dn];exact cO w _,hr.mono λ c hc v hv=> ?_⟩
  exact au.move (λ b hb=>bH w _ b (h.pr b hb)) (λ _ h=>h) (λ κ aa=>rj κ (nS c hc κ aa)) hv
 ·obtain ⟨c,hc,hk⟩:=List.mem_flatMap.1 aa
  exact nS c hc κ hk
 ·simp only [au];rw [dn]
theorem ux {x:Cp} {cs:List C} (h:bV x=some cs) {c:C} (hc:c∈cs) {κ:Nat} (hk:κ∈c.refs):κ∈x.refs:=by
 unfold bV at h
 split at h
 ·cases h
 ·cases h;simp at hc;subst hc;exact hk
 ·cases h;exact List.mem_flatMap.2 ⟨c,hc,hk⟩
theorem ng (h:Inv w0 Fz av Lo R Pr σ a w) {d:Nat} {dst:Option Nat} {e:Ty} {l:List e.D} {conds:List DP} {acc:List Nat} {el:TypeId} {cells:Array Value} {us:List Value} {cap:Nat} {ef:bK} {w1:World} (hw1:w1.heap=w.heap) (hg1:Grow w w1)
 (hn:dB σ.ob σ.objs.length d conds acc (.own d) (.vec e l)=some ef) (ha:At cells 0 us) (hr:aS w Pr e l us) (hcap:l.length<=cap) (hc:cap * e.n<=cells.size):
 ∃R',Inv w0 Fz av Lo R' Pr (σ.ef dst ef) (a.put dst (.slice (some ⟨w.heap.size,0,none⟩) l.length cap)) (w1.alloc (.cells cells el)):=by
 obtain ⟨h1,h2,rfl⟩:=b9 hn
 have hsz:w1.heap.size=w.heap.size:=by rw [hw1]
 have hold:∀b,b <w.heap.size->(w1.alloc (.cells cells el)).heap[b]?=w.heap[b]?:=λ b hb=>by rw [bH w1 _ b (by omega),hw1]
 refine h.nE (loc:=⟨w.heap.size,some ⟨w.heap.size,0,none⟩,l.length,cap⟩) h2 h1 hold ⟨by simp;omega,hg1.os,hg1.tape,hg1.output,hg1.dr⟩ (λ _=>rfl) (λ R' dn rj=> ?_) (λ κ aa=>by cases aa) dst _ _ (λ R' dn=> ?_) rfl
 ·refine ⟨by rw [dn],.inr ⟨0,cap,cells,el,by rw [dn];rfl,hcap,by rw [dn, <-hsz];exact cO w1 _,by simpa using hc, ?_⟩⟩
  have hr':=hr.move (w':=w1.alloc (.cells cells el)) (λ b hb=>hold b (h.pr b hb)) (λ _ h=>h)
  exact hr'.idx ha
 ·simp only [au];rw [dn];rfl
theorem fc {el:TypeId} {i:TI} (hi:T.get el=some i) {b:Bool} {z:List C} (hz:i.zero=some (b,z)) (w:World) (R:Nat->RL) (Pr:Nat->Prop):
 ∃ti v,P.info? el=some ti/\ti.zero=some v/\ti.size=i.size/\ti.bytes=i.bytes/\an (au w R Pr) z v.cells.toList/\(∀c∈z,c.refs=[]):=by
 obtain ⟨ti,h1,h2,h3,h4⟩:=dM hT hi
 rw [h4] at hz
 obtain ⟨v,hv,mC⟩:=Option.bind_eq_some_iff.1 hz
 obtain ⟨z1,z2,z3⟩:=gG hT (w:=w) (R:=R) (Pr:=Pr) mC
 exact ⟨ti,v,h1,hv,h2,h3,z1,z2⟩
theorem oJ (h:Inv w0 Fz av Lo R Pr σ a w) {e:Ty} {x:C} {acc:List Nat} {m:List e.D} (hs:lE σ.ob e x=some (acc,m)) {v:Value} (hx:au w R Pr x v):
 ∃A cap us,v=.slice A m.length cap/\aS w Pr e m us/\(m=[]\/∃blk off cells el fr,A=some ⟨blk,off,none⟩/\w.heap[blk]?=some (.cells cells el fr)/\At cells off us)/\(m=[]->us=[]):=by
 unfold lE at hs
 split at hs
 ·rename_i κ sz lo n
  split at hs
  ·rename_i e' l ho
   split at hs
   ·rename_i he _ hsz
    subst he
    cases hs
    rw [Nat.beq_eq] at hsz
    obtain ⟨h0,h1⟩:=h.ob κ _ ho
    obtain ⟨q1,A,c,rfl,q2⟩:=hx
    have hlen:((l.drop lo).take n).length=n:=by simp;omega
    by_cases hn:n=0
    ·subst hn
     exact ⟨A,c,[],by simp,by simp [aS],.inl (by simp),λ _=>rfl⟩
    ·obtain ⟨o,m0,c',q3,q4⟩:=q2 hn
     rcases h1 with ⟨h1,rfl⟩|⟨off,cap,cells,el,h1,h2,h3,h4,h5⟩
     ·rw [h1] at q3;cases q3
     ·have e1:off=o:=by rw [h1] at q3;simpa using (by injection q3 with q3 _ _;injection q3 with q3;injection q3:off=o)
      subst e1
      obtain ⟨us,k1,k2⟩:=aS.of (l:=(l.drop lo).take n) (cells:=cells) (off:=off+lo * sz) (λ i y hi=>by
       rw [List.getElem?_take] at hi
       split at hi
       ·rw [List.getElem?_drop] at hi
        obtain ⟨us,r1,r2⟩:=h5 _ y hi
        exact ⟨us,by rw [hsz,Nat.add_assoc, <-Nat.add_mul];exact r1,r2⟩
       ·cases hi)
      exact ⟨A,c,us,by rw [hlen],k2,.inr ⟨_,_,cells,el,_,q4,h3,k1⟩,λ hm=>by
       have hm:(l.drop lo).take n=[]:=hm
       rw [hm] at hlen;simp at hlen;omega⟩
   ·cases hs
  ·cases hs
 ·rename_i κ
  split at hs
  ·rename_i e' l ho
   split at hs
   ·rename_i he _
    subst he
    cases hs
    obtain ⟨h0,h1⟩:=h.ob κ _ ho
    rcases h1 with ⟨h1,rfl⟩|⟨off,cap,cells,el,h1,h2,h3,h4,h5⟩
    ·exact ⟨none,0,[],hx.trans h1,rfl,.inl rfl,λ _=>rfl⟩
    ·obtain ⟨us,k1,k2⟩:=aS.of h5
     exact ⟨_,cap,us,hx.trans h1,k2,.inr ⟨_,off,cells,el,_,rfl,h3,k1⟩,λ hm=>by subst hm;exact k2⟩
   ·cases hs
  ·cases hs
 ·rename_i b e' y
  split at hs
  ·rename_i he _
   subst he
   cases hs
   obtain ⟨A,cap,h1,h2,h3,h4⟩:=hx
   have hv:v=.slice A (bX b y).length cap:=by simpa using h1
   by_cases hne:bX b y=[]
   ·refine ⟨A,cap,[],hv, ?_,.inl hne,λ _=>rfl⟩
    show aS w Pr e' (bX b y) []
    rw [hne];rfl
   ·obtain ⟨blk,off,cells,el,fr,g1,g2,g3,g4⟩:=h4 hne
    obtain ⟨us,k1,k2⟩:=aS.of g4
    exact ⟨A,cap,us,hv,k2,.inr ⟨blk,off,cells,el,fr,g1,g3,k1⟩,λ hm=>(hne hm).elim⟩
  ·cases hs
 ·cases hs
  exact ⟨none,0,[],hx,rfl,.inl rfl,λ _=>rfl⟩
 ·cases hs
omit hT in
theorem At.cell {w:World} {blk off:Nat} {cells:Array Value} {el:TypeId} {fr:Nat×Nat} {us:List Value} (hb:w.heap[blk]?=some (.cells cells el fr)) (ha:At cells off us):∀j v,us[j]?=some v->w.cell? ((⟨blk,off,none⟩:Addr).add j)=some v:=λ j v hj=>by
 rw [ew]
 simp [World.cell?,hb,ha j v hj]
omit hT in
theorem AE {cur news:List Value} {o:Nat} (h:o+news.length<=cur.length):∀(off:Nat) (us:List Value),(∀c u,us[c]?=some u->cur[off+c]?=some u)->off+us.length<=o->At (cur.take o++news++cur.drop (o+news.length)).toArray off us:=λ off us ha hl c u hu=>by
 have hc:c <us.length:=by
  rcases Nat.lt_or_ge c us.length with g|g
  ·exact g
  ·rw [List.getElem?_eq_none g] at hu;cases hu
 simp only [List.getElem?_toArray]
 rw [List.append_assoc,List.getElem?_append_left (by simp;omega),List.getElem?_take,if_pos (by omega)]
 exact ha c u hu
omit hT in
theorem zm {cur news:List Value} {o:Nat} (h:o+news.length<=cur.length):At (cur.take o++news++cur.drop (o+news.length)).toArray o news:=λ c u hu=>by
 have hc:c <news.length:=by
  rcases Nat.lt_or_ge c news.length with g|g
  ·exact g
  ·rw [List.getElem?_eq_none g] at hu;cases hu
 simp only [List.getElem?_toArray]
 rw [List.append_assoc,List.getElem?_append_right (by simp;omega)]
 have:o+c - (cur.take o).length=c:=by simp;omega
 rw [this,List.getElem?_append_left hc]
 exact hu
end
end Go.Rx
