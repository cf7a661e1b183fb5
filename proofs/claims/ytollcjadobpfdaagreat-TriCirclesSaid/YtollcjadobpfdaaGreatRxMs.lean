/- Reflection, part Ms: objects that stand apart; objects that another function has written, moved or made. -/
import Derived.Test.YtollcjadobpfdaaGreatRxM
set_option linter.unusedVariables false
set_option linter.unusedSimpArgs false
set_option linter.unusedSectionVars false
namespace Go.Rx
def bt (w:World) (R:Nat->RL) (κ:Nat) (o:Ob) (b:Nat):Prop:=(real R κ o/\b=(R κ).blk)\/bM w R κ o b
structure Sep (w:World) (R:Nat->RL) (Pr:Nat->Prop) (us:List (Nat×Ob)):Prop where
 ob:∀(i:Nat) κ o,us[i]?=some (κ,o)->az w R Pr κ o
 un:∀(i:Nat) κ o b,us[i]?=some (κ,o)->bt w R κ o b-> ¬Pr b
 ds:∀(i j:Nat) κ o af o' b,us[i]?=some (κ,o)->us[j]?=some (af,o')->i≠j->bt w R κ o b-> ¬bt w R af o' b
 own:∀(i:Nat) κ o,us[i]?=some (κ,o)->real R κ o-> ¬bM w R κ o (R κ).blk
def Bl (w:World) (R:Nat->RL) (us:List (Nat×Ob)) (b:Nat):Prop:=∃(i:Nat) (κ:Nat) (o:Ob),us[i]?=some (κ,o)/\bt w R κ o b
theorem cm {R R':Nat->RL} {κ:Nat} (h:R' κ=R κ) (o:Ob):real R' κ o↔real R κ o:=by
 cases o<;>simp only [real,h]
section
variable {w0:World} {Fz av:Nat->Prop} {Lo:Nat->RL} {R:Nat->RL} {Pr:Nat->Prop} {σ:St} {a:Act} {w:World}
theorem az.pX {κ b:Nat} {o:Ob} (h:az w R Pr κ o) (hb:bt w R κ o b):b <w.heap.size:=by
 rcases hb with ⟨h1,rfl⟩|h1
 ·exact az.lt h1 h
 ·exact h.eF h1
theorem Inv.dD (h:Inv w0 Fz av Lo R Pr σ a w) {κ b:Nat} {o:Ob} (ho:σ.ob κ=some o) (hb:bt w R κ o b): ¬Pr b/\ ¬Fz b:=by
 rcases hb with ⟨h1,rfl⟩|h1
 ·exact h.un κ o ho h1
 ·exact ⟨(h.lm κ o b ho h1).1,(h.lm κ o b ho h1).2.1⟩
theorem Inv.eG (h:Inv w0 Fz av Lo R Pr σ a w) {κ af b:Nat} {o o':Ob} (ho:σ.ob κ=some o) (ho':σ.ob af=some o') (hne:κ≠af) (hb:bt w R κ o b): ¬bt w R af o' b:=by
 intro hb'
 rcases hb with ⟨h1,rfl⟩|h1
 ·rcases hb' with ⟨h2,e⟩|h2
  ·exact h.ds κ af o o' ho ho' h1 h2 hne e
  ·exact ((h.lm af o' _ ho' h2).2.2 κ o ho).1 h1 rfl
 ·rcases hb' with ⟨h2,rfl⟩|h2
  ·exact ((h.lm κ o _ ho h1).2.2 af o' ho').1 h2 rfl
  ·exact ((h.lm κ o b ho h1).2.2 af o' ho').2 hne.symm h2
theorem Inv.qB (h:Inv w0 Fz av Lo R Pr σ a w) {κ:Nat} {o:Ob} (ho:σ.ob κ=some o) (aq:real R κ o): ¬bM w R κ o (R κ).blk:=λ hi=>((h.lm κ o _ ho hi).2.2 κ o ho).1 aq rfl
theorem qA {ob:Nat->Option Ob} (hun:∀κ o b,ob κ=some o->bt w R κ o b-> ¬Pr b/\ ¬Fz b) (hds:∀κ af o o' b,ob κ=some o->ob af=some o'->κ≠af->bt w R κ o b-> ¬bt w R af o' b) (hown:∀κ o,ob κ=some o->real R κ o-> ¬bM w R κ o (R κ).blk):
 (∀κ o,ob κ=some o->real R κ o-> ¬Pr (R κ).blk/\ ¬Fz (R κ).blk)/\
 (∀κ af o o',ob κ=some o->ob af=some o'->real R κ o->real R af o'->κ≠af->(R κ).blk≠(R af).blk)/\
 (∀κ o b,ob κ=some o->bM w R κ o b-> ¬Pr b/\ ¬Fz b/\∀af o',ob af=some o'->(real R af o'->(R af).blk≠b)/\(af≠κ-> ¬bM w R af o' b)):=by
 refine ⟨λ κ o ho aq=>hun κ o _ ho (.inl ⟨aq,rfl⟩),λ κ af o o' ho ho' aq dK hne e=>hds κ af o o' _ ho ho' hne (.inl ⟨aq,rfl⟩) (.inl ⟨dK,e⟩),λ κ o b ho hi=>⟨(hun κ o b ho (.inr hi)).1,(hun κ o b ho (.inr hi)).2,λ af o' ho'=>⟨λ aq e=> ?_,λ hne hi'=>hds af κ o' o b ho' ho hne (.inr hi') (.inr hi)⟩⟩⟩
 by_cases g:af=κ
 ·subst g
  rw [ho] at ho';cases ho'
  exact hown af o ho aq (e▸hi)
 ·exact hds af κ o' o b ho' ho g (.inl ⟨aq,e.symm⟩) (.inr hi)
theorem Inv.y4 (h:Inv w0 Fz av Lo R Pr σ a w) (us:List (Nat×Ob)) {w':World} {R':Nat->RL} {ak:Nat->Prop} (hnd:(us.map (·.1)).Nodup)
 (hin:∀κ∈us.map (·.1),σ.ob κ≠none) (hR:∀κ,κ∉us.map (·.1)->R' κ=R κ)
 (hk:∀κ,R' κ=R κ\/((∀t,κ∉(σ.get t).refs)/\(∀af o,af∉us.map (·.1)->σ.ob af=some o->κ∉o.refs)/\fE κ σ.objs.length=true))
 (hS:Sep w' R' ak us) (hrf:∀κ o,(κ,o)∈us->∀af∈o.refs,σ.ob af≠none)
 (jP:∀b,Bl w' R' us b->(∃κ∈us.map (·.1),∃o,σ.ob κ=some o/\bt w R κ o b)\/w.heap.size<=b)
 (hw:∀b,b <w.heap.size->(∀κ∈us.map (·.1),∀o,σ.ob κ=some o-> ¬bt w R κ o b)->w'.heap[b]?=w.heap[b]?)
 (hg:Grow w w') (hp:∀b,Pr b->ak b) (hp1:∀b,ak b->b <w.heap.size->Pr b\/∃κ∈us.map (·.1),∃o,σ.ob κ=some o/\bt w R κ o b) (hp2:∀b,ak b->b <w'.heap.size)
 (aZ:∀b,b <w0.heap.size->Fz b\/av b):
 Inv w0 Fz av Lo R' ak (σ.aG us) a w':=by
 have hs:=hg.sz
 have pG:=h.sm.sz
 have eE:∀b,Pr b->w'.heap[b]?=w.heap[b]?:=λ b hb=>hw b (h.pr b hb) (λ κ _ o ho aM=>(h.dD ho aM).1 hb)
 have hmem:∀κ x,(κ,x)∈us->∃i,us[i]?=some (κ,x):=λ κ x hx=>List.getElem?_of_mem hx
 have aj:∀κ x,(σ.aG us).ob κ=some x->(κ,x)∈us\/(κ∉us.map (·.1)/\σ.ob κ=some x):=λ κ x hx=>by
  by_cases g:κ∈us.map (·.1)
  ·obtain ⟨⟨ah,o1⟩,h1,h2⟩:=List.mem_map.1 g
   simp only at h2
   subst h2
   have:=e7 us σ.objs _ o1 h1 hnd (c6 (hin _ g))
   have hx':(aU σ.objs us).getD ah none=some x:=hx
   rw [this] at hx'
   cases hx';exact .inl h1
  ·rw [cR σ us κ g] at hx;exact .inr ⟨g,hx⟩
 have hne:∀κ,σ.ob κ≠none->(σ.aG us).ob κ≠none:=λ κ hk=>by
  by_cases g:κ∈us.map (·.1)
  ·obtain ⟨⟨ah,o1⟩,h1,h2⟩:=List.mem_map.1 g
   simp only at h2
   subst h2
   have:=e7 us σ.objs _ o1 h1 hnd (c6 hk)
   intro hx
   have hx':(aU σ.objs us).getD ah none=none:=hx
   rw [this] at hx';cases hx'
  ·rw [cR σ us κ g];exact hk
 have hkeep:∀κ x,κ∉us.map (·.1)->σ.ob κ=some x->∀b,bt w R κ x b->w'.heap[b]?=w.heap[b]?:=λ κ x hn hx b aM=>
  hw b ((h.ob κ x hx).pX aM) (λ ah bq o1 iq=>h.eG hx iq (λ z=>hn (z▸bq)) aM)
 have gM:∀κ x b,κ∉us.map (·.1)->σ.ob κ=some x->bt w' R' κ x b->bt w R κ x b:=λ κ x b hn hx aM=>by
  rcases aM with ⟨h1,h2⟩|h1
  ·exact .inl ⟨(cm (hR κ hn) x).1 h1,by rw [<-hR κ hn];exact h2⟩
  ·exact .inr (h1.back (hR κ hn) (λ aq=>hkeep κ x hn hx _ (.inl ⟨aq,rfl⟩)) (λ ah h1=>(hk ah).elim id (λ z=>(z.2.1 κ x hn hx h1).elim)))
 have BV:∀κ o b,(σ.aG us).ob κ=some o->bt w' R' κ o b-> ¬ak b/\ ¬Fz b:=λ κ x b hx aM=>by
  rcases aj κ x hx with g|⟨g1,g2⟩
  ·obtain ⟨i,hi⟩:=hmem κ x g
   refine ⟨hS.un i κ x b hi aM,λ hz=> ?_⟩
   rcases jP b ⟨i,κ,x,hi,aM⟩ with ⟨ah,_,o1,m1,m2⟩|m
   ·exact (h.dD m1 m2).2 hz
   ·have:=(h.fz b hz).1;omega
  ·have h0:=gM κ x b g1 g2 aM
   refine ⟨λ hz=> ?_,(h.dD g2 h0).2⟩
   rcases hp1 b hz ((h.ob κ x g2).pX h0) with m|⟨ah,m1,o1,m2,m3⟩
   ·exact (h.dD g2 h0).1 m
   ·exact h.eG g2 m2 (λ z=>g1 (z▸m1)) h0 m3
 have zU:∀κ af o o' b,(κ,o)∈us->af∉us.map (·.1)->σ.ob af=some o'->bt w' R' κ o b-> ¬bt w' R' af o' b:=λ κ af o o' b g g1 g2 aM gu=>by
  obtain ⟨i,hi⟩:=hmem κ o g
  have h0:=gM af o' b g1 g2 gu
  rcases jP b ⟨i,κ,o,hi,aM⟩ with ⟨ah,m1,o1,m2,m3⟩|m
  ·exact h.eG g2 m2 (λ z=>g1 (z▸m1)) h0 m3
  ·have:=(h.ob af o' g2).pX h0;omega
 have BM:∀κ af o o' b,(σ.aG us).ob κ=some o->(σ.aG us).ob af=some o'->κ≠af->bt w' R' κ o b-> ¬bt w' R' af o' b:=λ κ af o o' b hx hx' hkk aM gu=>by
  rcases aj κ o hx with g|⟨g1,g2⟩
  ·rcases aj af o' hx' with g'|⟨qZ,lP⟩
   ·obtain ⟨i,hi⟩:=hmem κ o g
    obtain ⟨j,hj⟩:=hmem af o' g'
    exact hS.ds i j κ o af o' b hi hj (λ z=>by subst z;rw [hi] at hj;cases hj;exact hkk rfl) aM gu
   ·exact zU κ af o o' b g qZ lP aM gu
  ·rcases aj af o' hx' with g'|⟨qZ,lP⟩
   ·exact zU af κ o' o b g' g1 g2 gu aM
   ·exact h.eG g2 lP hkk (gM κ o b g1 g2 aM) (gM af o' b qZ lP gu)
 have AW:∀κ o,(σ.aG us).ob κ=some o->real R' κ o-> ¬bM w' R' κ o (R' κ).blk:=λ κ x hx aq hi=>by
  rcases aj κ x hx with g|⟨g1,g2⟩
  ·obtain ⟨i,hi'⟩:=hmem κ x g
   exact hS.own i κ x hi' aq hi
  ·have gN:=(cm (hR κ g1) x).1 aq
   exact h.qB g2 gN (by rw [hR κ g1] at hi;exact hi.back (hR κ g1) (λ aq=>hkeep κ x g1 g2 _ (.inl ⟨aq,rfl⟩)) (λ ah h1=>(hk ah).elim id (λ z=>(z.2.1 κ x g1 g2 h1).elim)))
 obtain ⟨q1,q2,q3⟩:=qA BV BM AW
 refine { h with un:=q1,ds:=q2,lm:=q3,fx:=λ κ aa=> ?_,tm:=λ t=>aA.move eE hp (λ κ aa=>(hk κ).elim id (λ z=>(z.1 t aa).elim)) (h.tm t),ob:=λ κ x hx=> ?_,wt:=λ t κ hk=>hne κ (h.wt t κ hk),wo:=λ af x κ hx hk=> ?_,sz:=h.sz,fz:=λ b hb=> ?_,pr:=hp2,po:=λ b hb hb'=> ?_,sm:=h.sm.trans hg }
 ·rcases aj κ x hx with g|⟨g1,g2⟩
  ·obtain ⟨i,hi⟩:=hmem κ x g
   exact hS.ob i κ x hi
  ·exact az.move eE hp (λ aq=>hkeep κ x g1 g2 _ (.inl ⟨aq,rfl⟩)) (hR κ g1) (λ ah bq=>(hk ah).elim id (λ z=>(z.2.1 κ x g1 g2 bq).elim)) (h.ob κ x g2) (λ b hb=>hkeep κ x g1 g2 b (.inr hb))
 ·rcases aj af x hx with g|⟨g1,g2⟩
  ·exact hne κ (hrf af x g κ hk)
  ·exact hne κ (h.wo af x κ g2 hk)
 ·have:=h.fz b hb
  exact ⟨this.1,(hw b (by omega) (λ κ _ o ho aM=>(h.dD ho aM).2 hb)).trans this.2⟩
 ·rcases hp1 b hb' (by omega) with m|⟨κ,_,o,m1,m2⟩
  ·exact h.po b hb m
  ·exact (aZ b hb).elim (λ z=>((h.dD m1 m2).2 z).elim) id
 ·have aD:κ <σ.objs.length % 16:=by simpa [St.aG,gl] using aa
  rcases hk κ with g|⟨_,_,g⟩
  ·rw [g];exact h.fx κ aD
  ·have:=pZ g;omega
theorem Inv.zB (h:Inv w0 Fz av Lo R Pr σ a w) (d:Nat) (o:Ob) (hd:σ.ob d=none) (hok:fE d σ.objs.length=true) {R':Nat->RL} (hR:∀κ,κ≠d->R' κ=R κ)
 (ho:az w R' Pr d o) (nS:∀κ∈o.refs,σ.ob κ≠none) (hun:∀b,bt w R' d o b-> ¬Pr b/\ ¬Fz b/\∀κ o',σ.ob κ=some o'-> ¬bt w R κ o' b) (hown:real R' d o-> ¬bM w R' d o (R' d).blk):
 Inv w0 Fz av Lo R' Pr (σ.aK d (some o)) a w:=by
 have hlt:=ct hok
 have ez:∀κ,σ.ob κ≠none->κ≠d:=λ κ hk e=>hk (e▸hd)
 have aj:∀κ x,(σ.aK d (some o)).ob κ=some x->(κ=d/\x=o)\/(κ≠d/\σ.ob κ=some x):=λ κ x hx=>by
  rw [St.aL] at hx
  by_cases g:d=κ
  ·rw [if_pos ⟨g,hlt⟩] at hx;cases hx;exact .inl ⟨g.symm,rfl⟩
  ·rw [if_neg (λ z=>g z.1)] at hx;exact .inr ⟨λ z=>g z.symm,hx⟩
 have hne:∀κ,σ.ob κ≠none->(σ.aK d (some o)).ob κ≠none:=λ κ hk=>by
  rw [St.aL,if_neg (λ z=>ez κ hk z.1.symm)];exact hk
 have gM:∀κ x b,κ≠d->σ.ob κ=some x->bt w R' κ x b->bt w R κ x b:=λ κ x b hn hx aM=>by
  rcases aM with ⟨h1,h2⟩|h1
  ·exact .inl ⟨(cm (hR κ hn) x).1 h1,by rw [<-hR κ hn];exact h2⟩
  ·exact .inr (h1.back (hR κ hn) (λ _=>rfl) (λ ah h1=>hR ah (ez ah (h.wo κ x ah hx h1))))
 obtain ⟨q1,q2,q3⟩:=qA (w:=w) (R:=R') (Pr:=Pr) (Fz:=Fz) (ob:=(σ.aK d (some o)).ob) (λ κ x b hx aM=>by
  rcases aj κ x hx with ⟨rfl,rfl⟩|⟨hk,hx⟩
  ·exact ⟨(hun b aM).1,(hun b aM).2.1⟩
  ·exact h.dD hx (gM κ x b hk hx aM)) (λ κ af x x' b hx hx' hkk aM gu=>by
  rcases aj κ x hx with ⟨rfl,rfl⟩|⟨hk,hy⟩
  ·rcases aj af x' hx' with ⟨rfl,rfl⟩|⟨hk',hy'⟩
   ·exact hkk rfl
   ·exact (hun b aM).2.2 af x' hy' (gM af x' b hk' hy' gu)
  ·rcases aj af x' hx' with ⟨rfl,rfl⟩|⟨hk',hy'⟩
   ·exact (hun b gu).2.2 κ x hy (gM κ x b hk hy aM)
   ·exact h.eG hy hy' hkk (gM κ x b hk hy aM) (gM af x' b hk' hy' gu)) (λ κ x hx aq hi=>by
  rcases aj κ x hx with ⟨rfl,rfl⟩|⟨hk,hx⟩
  ·exact hown aq hi
  ·rw [hR κ hk] at hi
   exact h.qB hx ((cm (hR κ hk) x).1 aq) (hi.back (hR κ hk) (λ _=>rfl) (λ ah h1=>hR ah (ez ah (h.wo κ x ah hx h1)))))
 refine { h with un:=q1,ds:=q2,lm:=q3,tm:=λ t=> ?_,ob:=λ κ x hx=> ?_,wt:=λ t κ hk=>hne κ (h.wt t κ hk),wo:=λ af x κ hx hk=> ?_,sz:=h.sz,fx:=λ κ aa=> ?_ }
 ·exact aA.move (λ _ _=>rfl) (λ _ h=>h) (λ κ hk=>hR κ (ez κ (h.wt t κ hk))) (h.tm t)
 ·rcases aj κ x hx with ⟨rfl,rfl⟩|⟨hk,hx⟩
  ·exact ho
  ·exact az.move (λ _ _=>rfl) (λ _ h=>h) (λ _=>rfl) (hR κ hk) (λ ah hk1=>hR ah (ez ah (h.wo κ x ah hx hk1))) (h.ob κ x hx)
 ·rcases aj af x hx with ⟨rfl,rfl⟩|⟨hk',hx⟩
  ·exact hne κ (nS κ hk)
  ·exact hne κ (h.wo af x κ hx hk)
 ·have aa:κ <σ.objs.length % 16:=by simpa [St.aK] using aa
  have Cq:=pZ hok
  rw [hR κ (by omega)];exact h.fx κ aa
def St.cF (σ:St):List (Nat×Ob)->Option St
 | []=>some σ
 | (κ,o)::r=>match fE κ σ.objs.length,σ.ob κ with
   |true,none=>St.cF (σ.aK κ (some o)) r
   |_,_=>none
theorem ec {σ σ':St} {κ:Nat} {o:Ob} {r:List (Nat×Ob)} (h:σ.cF ((κ,o)::r)=some σ'):fE κ σ.objs.length=true/\σ.ob κ=none/\(σ.aK κ (some o)).cF r=some σ':=by
 simp only [St.cF] at h
 split at h
 ·rename_i h1 h2
  exact ⟨h1,h2,h⟩
 ·cases h
theorem qO:∀{us:List (Nat×Ob)} {σ σ':St},σ.cF us=some σ'->∀κ∈us.map (·.1),σ.ob κ=none
 | (κ,o)::r,σ,σ',h,af,aa=>by
   obtain ⟨h1,h2,h3⟩:=ec h
   rcases List.mem_cons.1 aa with rfl|aa
   ·exact h2
   ·have:=qO h3 af aa
    rw [St.aL] at this
    split at this
    ·cases this
    ·exact this
theorem oQ {us:List (Nat×Ob)} {σ σ':St} {κ:Nat} {o:Ob} (h:σ.cF ((κ,o)::us)=some σ'):κ∉us.map (·.1):=λ aa=>by
 obtain ⟨h1,h2,h3⟩:=ec h
 have:=qO h3 κ aa
 rw [St.aL,if_pos ⟨rfl,ct h1⟩] at this
 cases this
def eS:List Nat->List (Nat×Ob)->Prop
 |_,[]=>True
 |S,(κ,o)::r=>(∀af∈o.refs,af∈S)/\eS (κ::S) r
theorem Sep.tail {u:Nat×Ob} {us:List (Nat×Ob)} (h:Sep w R Pr (u::us)):Sep w R Pr us where
 ob i κ o hi:=h.ob (i+1) κ o (by simpa using hi)
 un i κ o b hi:=h.un (i+1) κ o b (by simpa using hi)
 ds i j κ o af o' b hi hj hne:=h.ds (i+1) (j+1) κ o af o' b (by simpa using hi) (by simpa using hj) (by omega)
 own i κ o hi:=h.own (i+1) κ o (by simpa using hi)
theorem Inv.zC (L:Nat->RL):∀(us:List (Nat×Ob)) (S:List Nat) (σ σ':St) (R:Nat->RL),Inv w0 Fz av Lo R Pr σ a w->σ.cF us=some σ'->(∀κ∈S,R κ=L κ/\σ.ob κ≠none)->eS S us->Sep w L Pr us->
 (∀b,Bl w L us b-> ¬Fz b/\∀κ o',σ.ob κ=some o'-> ¬bt w R κ o' b)->
 ∃R',Inv w0 Fz av Lo R' Pr σ' a w/\(∀κ∈us.map (·.1),R' κ=L κ/\σ'.ob κ≠none)/\(∀κ,σ.ob κ≠none->R' κ=R κ/\σ'.ob κ≠none)/\σ'.tmps=σ.tmps/\
  ∀κ x,σ'.ob κ=some x->(κ,x)∈us\/σ.ob κ=some x
 | [],S,σ,σ',R,h,ha,hS,hr,hs,hb=>by
   simp only [St.cF] at ha
   cases ha
   exact ⟨R,h,λ κ aa=>(by cases aa),λ κ aa=>⟨rfl,aa⟩,rfl,λ κ x hx=>.inr hx⟩
 | (κ,o)::us,S,σ,σ',R,h,ha,hS,hr,hs,hb=>by
   obtain ⟨g1,g2,g3⟩:=ec ha
   have hfr:=oQ ha
   have eo:(λ af=>if af=κ then L κ else R af) κ=L κ:=by simp
   have cA:∀af,af≠κ->(λ af=>if af=κ then L κ else R af) af=R af:=λ af hk=>by simp [hk]
   have wU:∀af∈S,af≠κ:=λ af aa e=>(hS af aa).2 (e▸g2)
   have sj:∀b,bt w (λ af=>if af=κ then L κ else R af) κ o b->bt w L κ o b:=λ b aM=>by
    rcases aM with ⟨h1,h2⟩|h1
    ·exact .inl ⟨(cm eo o).1 h1,by rw [<-eo];exact h2⟩
    ·exact .inr (h1.back eo (λ _=>rfl) (λ ah bq=>(cA ah (wU ah (hr.1 ah bq))).trans (hS ah (hr.1 ah bq)).1))
   have h0:∀b,bt w L κ o b->Bl w L ((κ,o)::us) b:=λ b aM=>⟨0,κ,o,rfl,aM⟩
   have hi1:=h.zB κ o g2 g1 cA (az.move (λ _ _=>rfl) (λ _ h=>h) (λ _=>rfl) eo (λ ah bq=>by
    have hm:=hr.1 ah bq
    exact (cA ah (wU ah hm)).trans (hS ah hm).1) (hs.ob 0 κ o rfl)) (λ ah bq=>(hS ah (hr.1 ah bq)).2) (λ b aM=>⟨hs.un 0 κ o b rfl (sj b aM),(hb b (h0 b (sj b aM))).1,(hb b (h0 b (sj b aM))).2⟩) (λ aq hi=>by
    simp only [if_true] at hi
    exact hs.own 0 κ o rfl ((cm eo o).1 aq) (hi.back eo (λ _=>rfl) (λ ah bq=>(cA ah (wU ah (hr.1 ah bq))).trans (hS ah (hr.1 ah bq)).1)))
   obtain ⟨R',k1,k2,k3,k4,k5⟩:=Inv.zC L us (κ::S) _ σ' _ hi1 g3 (λ af aa=>by
    rcases List.mem_cons.1 aa with rfl|aa
    ·exact ⟨eo,by rw [St.aL,if_pos ⟨rfl,ct g1⟩];simp⟩
    ·exact ⟨(cA af (wU af aa)).trans (hS af aa).1,by rw [St.aL,if_neg (λ z=>wU af aa z.1.symm)];exact (hS af aa).2⟩) hr.2 hs.tail (λ b ⟨i,ah,o1,hi,aM⟩=>⟨(hb b ⟨i+1,ah,o1,by simpa using hi,aM⟩).1,λ aH x hx vG=>by
    rw [St.aL] at hx
    by_cases e:κ=aH
    ·subst e
     rw [if_pos ⟨rfl,ct g1⟩] at hx;cases hx
     exact hs.ds 0 (i+1) κ o ah o1 b rfl (by simpa using hi) (by omega) (sj b vG) aM
    ·rw [if_neg (λ z=>e z.1)] at hx
     refine (hb b ⟨i+1,ah,o1,by simpa using hi,aM⟩).2 aH x hx ?_
     rcases vG with ⟨q1,q2⟩|q1
     ·exact .inl ⟨(cm (cA aH (λ z=>e z.symm)) x).1 q1,by rw [<-cA aH (λ z=>e z.symm)];exact q2⟩
     ·exact .inr (q1.back (cA aH (λ z=>e z.symm)) (λ _=>rfl) (λ BA h3=>cA BA (λ z=>h.wo aH x BA hx h3 (z▸g2))))⟩)
   have hpk:=k3 κ (by rw [St.aL,if_pos ⟨rfl,ct g1⟩];simp)
   refine ⟨R',k1,λ af aa=> ?_,λ af aa=> ?_,k4,λ af x hx=> ?_⟩
   ·rcases List.mem_cons.1 aa with rfl|aa
    ·exact ⟨hpk.1.trans eo,hpk.2⟩
    ·exact k2 af aa
   ·have hk:af≠κ:=λ e=>aa (e▸g2)
    have:=k3 af (by rw [St.aL,if_neg (λ z=>hk z.1.symm)];exact aa)
    exact ⟨this.1.trans (cA af hk),this.2⟩
   ·rcases k5 af x hx with m|m
    ·exact .inl (List.mem_cons_of_mem _ m)
    ·rw [St.aL] at m
     by_cases e:κ=af
     ·subst e
      rw [if_pos ⟨rfl,ct g1⟩] at m;cases m
      exact .inl (List.mem_cons_self ..)
     ·rw [if_neg (λ z=>e z.1)] at m;exact .inr m
end
end Go.Rx
