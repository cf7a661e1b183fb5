/- Reflection, part H: rows of data; objects that are forgotten, made, written. -/
import Derived.Test.YtollcjadobpfdaaGreatRxG
import Derived.Laws.Append
import Derived.Laws.AppendOwn
set_option linter.unusedVariables false
set_option linter.unusedSimpArgs false
set_option linter.unusedSectionVars false
namespace Go.Rx
def aS (w:World) (Pr:Nat->Prop) (e:Ty):List e.D->List Value->Prop
 | [],us=>us=[]
 |y::l,us=>∃u1 u2,us=u1++u2/\ay w Pr e y u1/\aS w Pr e l u2
section
variable {w:World} {R:Nat->RL} {Pr:Nat->Prop} {e:Ty}
theorem aS.len:∀{l:List e.D} {us:List Value},aS w Pr e l us->us.length=l.length * e.n
 | [],us,h=>by rw [show us=[] from h];simp
 |y::l,us,h=>by
  obtain ⟨u1,u2,rfl,h1,h2⟩:=h
  rw [List.length_append,h1.len,aS.len h2,List.length_cons,Nat.add_mul];omega
theorem aS.append:∀{l l':List e.D} {us us':List Value},aS w Pr e l us->aS w Pr e l' us'->aS w Pr e (l++l') (us++us')
 | [],_,us,_,h,h'=>by rw [show us=[] from h];exact h'
 |y::l,_,us,us',h,h'=>by
  obtain ⟨u1,u2,rfl,h1,h2⟩:=h
  exact ⟨u1,u2++us',by simp,h1,aS.append h2 h'⟩
theorem aS.idx {cells:Array Value}:∀{l:List e.D} {us:List Value} {off:Nat},aS w Pr e l us->At cells off us->∀i y,l[i]?=some y->∃us',At cells (off+i * e.n) us'/\ay w Pr e y us'
 | [],_,_,_,_,i,y,hi=>by simp at hi
 |x::l,us,off,h,ha,i,y,hi=>by
  obtain ⟨u1,u2,rfl,h1,h2⟩:=h
  cases i with
  |zero=>simp at hi;subst hi;exact ⟨u1,by simpa using ha.left,h1⟩
  |succ i=>
   obtain ⟨us',k1,k2⟩:=aS.idx h2 ha.right i y (by simpa using hi)
   refine ⟨us', ?_,k2⟩
   rw [h1.len] at k1
   rw [Nat.add_mul,Nat.one_mul,show off+(i * e.n+e.n)=off+e.n+i * e.n by omega]
   exact k1
theorem aS.of {cells:Array Value}:∀{l:List e.D} {off:Nat},(∀i y,l[i]?=some y->∃us',At cells (off+i * e.n) us'/\ay w Pr e y us')->∃us,At cells off us/\aS w Pr e l us
 | [],off,_=>⟨[],λ c u h=>by simp at h,rfl⟩
 |x::l,off,h=>by
  obtain ⟨u1,k1,k2⟩:=h 0 x (by simp)
  obtain ⟨u2,k3,k4⟩:=aS.of (l:=l) (off:=off+e.n) (λ i y hi=>by
   obtain ⟨us',g1,g2⟩:=h (i+1) y (by simpa using hi)
   rw [Nat.add_mul,Nat.one_mul,show off+(i * e.n+e.n)=off+e.n+i * e.n by omega] at g1
   exact ⟨us',g1,g2⟩)
  exact ⟨u1++u2,At.app (by simpa using k1) (by rw [k2.len];exact k3),u1,u2,rfl,k2,k4⟩
theorem aS.move {w':World} {ak:Nat->Prop} (hw:∀b,Pr b->w'.heap[b]?=w.heap[b]?) (hp:∀b,Pr b->ak b):∀{l:List e.D} {us:List Value},aS w Pr e l us->aS w' ak e l us
 | [],_,h=>h
 |_::_,_,⟨u1,u2,h0,h1,h2⟩=>⟨u1,u2,h0,h1.move hw hp,aS.move hw hp h2⟩
end
def Ty.tB (e:Ty):Nat->List C->Option (List e.D)
 | 0,[]=>some []
 | 0,_::_=>none
 |n+1,cs=>match e.of cs with
  |some (x,r)=>(Ty.tB e n r).map (x:: ·)
  |none=>none
theorem qC {w:World} {R:Nat->RL} {Pr:Nat->Prop} {e:Ty}:∀{n:Nat} {cs:List C} {l:List e.D} {us:List Value},e.tB n cs=some l->an (au w R Pr) cs us->aS w Pr e l us/\l.length=n
 | 0,[],_,us,h,hr=>by
   simp only [Ty.tB] at h;cases h
   cases us with
   |nil=>exact ⟨rfl,rfl⟩
   |cons _ _=>exact hr.elim
 | 0,_::_,_,_,h,_=>by simp only [Ty.tB] at h;cases h
 |n+1,cs,l,us,h,hr=>by
  simp only [Ty.tB] at h
  split at h
  ·rename_i x r hx
   obtain ⟨l',hl,rfl⟩:=Option.map_eq_some_iff.1 h
   obtain ⟨u1,u2,rfl,h1,h2⟩:=c8 hx hr
   obtain ⟨h3,h4⟩:=qC hl h2
   exact ⟨⟨u1,u2,rfl,h1,h3⟩,by simp [h4]⟩
  ·cases h
theorem ot:∀(e:Ty) (x:e.D),∀c∈e.cells x,c≠ .any
 | .int _,_,c,h=>by simp [Ty.cells] at h;subst h;simp
 | .bool,_,c,h=>by simp [Ty.cells] at h;subst h;simp
 | .str,_,c,h=>by simp [Ty.cells] at h;subst h;simp
 | .pair a b,x,c,h=>by
   rcases List.mem_append.1 h with h|h
   ·exact ot a x.1 c h
   ·exact ot b x.2 c h
 | .sl _ _,_,c,h=>by simp [Ty.cells] at h;subst h;simp
 | .fn _,_,c,h=>by simp [Ty.cells] at h;subst h;simp
 | .ptr _,_,c,h=>by simp [Ty.cells] at h;subst h;simp
 | .cL _ _,_,c,h=>by simp [Ty.cells] at h;subst h;simp
 | .map _ _,_,c,h=>by simp [Ty.cells] at h;subst h;simp
theorem tD {w:World} {R:Nat->RL} {Pr:Nat->Prop}:∀{cs:List C} {us:List Value},an (au w R Pr) cs us->(∀c∈cs,c≠ .any)->∀u∈us,u.oneCell'=true
 | [],[],_,_,u,hu=>by cases hu
 |c::cs,v::us,h,hn,u,hu=>by
  rcases List.mem_cons.1 hu with rfl|hu
  ·have:=au.one h.1 (hn c (by simp))
   cases u<;>first|rfl|exact absurd rfl (this.1 _)|exact absurd rfl (this.2 _)
  ·exact tD h.2 (λ c hc=>hn c (by simp [hc])) u hu
 | [],_::_,h,_,_,_=>h.elim
 |_::_,[],h,_,_,_=>h.elim
theorem ay.qD {w:World} {Pr:Nat->Prop} {e:Ty} {x:e.D} {us:List Value} (h:ay w Pr e x us):∀u∈us,u.oneCell'=true:=
 tD (bu (R:=λ _=>⟨0,none,0,0⟩) h) (ot e x)
theorem aS.qD {w:World} {Pr:Nat->Prop} {e:Ty}:∀{l:List e.D} {us:List Value},aS w Pr e l us->∀u∈us,u.oneCell'=true
 | [],us,h,u,hu=>by rw [show us=[] from h] at hu;cases hu
 |y::l,us,h,u,hu=>by
  obtain ⟨u1,u2,rfl,h1,h2⟩:=h
  rcases List.mem_append.1 hu with hu|hu
  ·exact h1.qD u hu
  ·exact aS.qD h2 u hu
def fT (κ:Nat) (c:C):C:=if c.refs.contains κ then .any else c
def iw (κ:Nat):Cp->Cp
 | .one c=>.one (fT κ c)
 | .agg cs=>.agg (cs.map (fT κ))
def iP (κ:Nat):AV->AV
 | .cp x=>.cp (iw κ x)
 | .bO vs=>.bO (vs.map (iw κ))
def bS (κ:Nat):Option Ob->Option Ob
 |some (.box cs)=>some (.box (cs.map (fT κ)))
 |some (.map K V l (some (d,L)))=>match d.beq κ with
  |true=>some (.map K V l none)
  |false=>some (.map K V l (some (d,L)))
 |o=>o
def St.kill (σ:St) (κ:Nat):St:=⟨σ.tmps.map (iP κ),σ.objs.map (bS κ)⟩
theorem mH {w:World} {R:Nat->RL} {Pr:Nat->Prop} {κ:Nat} {c:C} {v:Value} (h:au w R Pr c v):au w R Pr (fT κ c) v:=by
 unfold fT
 split
 ·trivial
 ·exact h
theorem gx {κ af:Nat} {c:C} (h:af∈(fT κ c).refs):af∈c.refs/\af≠κ:=by
 unfold fT at h
 split at h
 ·cases h
 ·rename_i hn
  refine ⟨h,λ e=>hn ?_⟩
  subst e
  simpa using h
theorem pN {w:World} {R:Nat->RL} {Pr:Nat->Prop} {κ:Nat} {c:Cp} {v:Value} (h:bf w R Pr c v):bf w R Pr (iw κ c) v:=by
 cases c with
 |one c=>exact mH h
 |agg cs=>obtain ⟨vs,h1,h2⟩:=h;exact ⟨vs,h1,h2.cZ λ a _ b hb=>mH hb⟩
theorem nU {κ af:Nat} {c:Cp} (h:af∈(iw κ c).refs):af∈c.refs/\af≠κ:=by
 cases c with
 |one c=>exact gx h
 |agg cs=>
  obtain ⟨c,hc,hk⟩:=List.mem_flatMap.1 h
  obtain ⟨d,hd,rfl⟩:=List.mem_map.1 hc
  have:=gx hk
  exact ⟨List.mem_flatMap.2 ⟨d,hd,this.1⟩,this.2⟩
theorem xq {w:World} {R:Nat->RL} {Pr:Nat->Prop} {κ:Nat} {c:AV} {v:Value} (h:aA w R Pr c v):aA w R Pr (iP κ c) v:=by
 cases c with
 |cp c=>exact pN h
 |bO cs=>obtain ⟨vs,h1,h2⟩:=h;exact ⟨vs,h1,h2.cZ λ a _ b hb=>pN hb⟩
theorem k9 {κ af:Nat} {c:AV} (h:af∈(iP κ c).refs):af∈c.refs/\af≠κ:=by
 cases c with
 |cp c=>exact nU h
 |bO cs=>
  obtain ⟨c,hc,hk⟩:=List.mem_flatMap.1 h
  obtain ⟨d,hd,rfl⟩:=List.mem_map.1 hc
  have:=nU hk
  exact ⟨List.mem_flatMap.2 ⟨d,hd,this.1⟩,this.2⟩
section
variable {w0:World} {Fz av:Nat->Prop} {Lo:Nat->RL} {R:Nat->RL} {Pr:Nat->Prop} {σ:St} {a:Act} {w:World}
theorem fW (κ t:Nat):(σ.kill κ).get t=iP κ (σ.get t):=by
 unfold St.get St.kill
 simp only [List.getD_eq_getElem?_getD,List.getElem?_map]
 cases σ.tmps[t]?<;>simp [iP,iw,fT,C.refs]
theorem dx (κ af:Nat):(σ.kill κ).ob af=bS κ (σ.ob af):=by
 unfold St.ob St.kill
 simp only [List.getD_eq_getElem?_getD,List.getElem?_map]
 cases σ.objs[af]?<;>simp [bS]
theorem iQ {κ:Nat} {o:Option Ob} {o':Ob} (h:bS κ o=some o'):∃o1,o=some o1/\((∃cs,o1=.box cs/\o'=.box (cs.map (fT κ)))\/(o'=o1/\((∀cs,o1≠ .box cs)->κ∉o1.refs))\/∃K V l L,o1=.map K V l (some (κ,L))/\o'=.map K V l none):=by
 unfold bS at h
 split at h
 ·cases h;exact ⟨_,rfl,.inl ⟨_,rfl,rfl⟩⟩
 ·rename_i K V l d L
  split at h
  ·rename_i hd
   have hd:=Nat.eq_of_beq_eq_true hd
   subst hd
   cases h
   exact ⟨_,rfl,.inr (.inr ⟨K,V,l,L,rfl,rfl⟩)⟩
  ·rename_i hd
   cases h
   refine ⟨_,rfl,.inr (.inl ⟨rfl,λ _ hk=> ?_⟩)⟩
   simp only [Ob.refs,List.mem_singleton] at hk
   subst hk
   simp at hd
 ·rename_i h1 h2
  refine ⟨o',h,.inr (.inl ⟨rfl,λ hb hk=> ?_⟩)⟩
  cases o' with
  |box cs=>exact hb cs rfl
  |map K V l it=>
   cases it with
   |none=>cases hk
   |some p=>exact h2 K V l p.1 p.2 h
  |_=>cases hk
theorem pO {κ:Nat} {o:Option Ob} (h:o≠none):bS κ o≠none:=by
 unfold bS
 split
 ·simp
 ·split<;>simp
 ·exact h
theorem Inv.kill (h:Inv w0 Fz av Lo R Pr σ a w) (κ:Nat):Inv w0 Fz av Lo R Pr (σ.kill κ) a w/\(∀t,κ∉((σ.kill κ).get t).refs)/\∀af x,(σ.kill κ).ob af=some x->κ∉x.refs:=by
 have Ak:∀af x ah,(σ.kill κ).ob af=some x->ah∈x.refs->ah≠κ/\σ.ob ah≠none:=λ af x ah hx hk=>by
  rw [dx] at hx
  obtain ⟨o,h1,⟨cs,rfl,rfl⟩|⟨rfl,CA⟩|⟨K,V,l,L,rfl,rfl⟩⟩:=iQ hx
  ·obtain ⟨c,hc,hk⟩:=List.mem_flatMap.1 hk
   obtain ⟨d,hd,rfl⟩:=List.mem_map.1 hc
   have:=gx hk
   exact ⟨this.2,h.wo af _ ah h1 (List.mem_flatMap.2 ⟨d,hd,this.1⟩)⟩
  ·cases x with
   |vec e l=>cases hk
   |rows e l hh=>cases hk
   |set l=>cases hk
   |cG e x=>cases hk
   |tok κ=>cases hk
   |map K V l it=>exact ⟨λ e=>CA (λ cs z=>by cases z) (e▸hk),h.wo af _ ah h1 hk⟩
   |box cs=>
    rw [h1] at hx
    simp only [bS] at hx
    have hx:=Ob.box.inj (Option.some.inj hx)
    rw [<-hx] at hk
    obtain ⟨c,hc,hk⟩:=List.mem_flatMap.1 hk
    obtain ⟨d,hd,rfl⟩:=List.mem_map.1 hc
    have:=gx hk
    exact ⟨this.2,h.wo af _ ah h1 (List.mem_flatMap.2 ⟨d,hd,this.1⟩)⟩
  ·cases hk
 refine ⟨h.weak _ (by simpa [St.kill] using h.sz) (by simp [St.kill]) (λ t u hu=>by rw [fW];exact xq hu) (λ af o' ho=> ?_) (λ t af hk=> ?_) (λ af o ah ho hk=> ?_),λ t hk=> ?_,λ af x hx hk=>(Ak af x κ hx hk).1 rfl⟩
 ·rw [dx] at ho
  obtain ⟨o,h1,⟨cs,rfl,rfl⟩|⟨rfl,_⟩|⟨K,V,l,L,rfl,rfl⟩⟩:=iQ ho
  ·exact ⟨_,h1,λ ⟨el,vs,g1,g2⟩=>⟨el,vs,g1,g2.cZ λ a _ b hb=>mH hb⟩,λ _=>trivial,λ b hb=>hb.elim⟩
  ·exact ⟨_,h1,id,id,λ _ h=>h⟩
  ·exact ⟨_,h1,λ ⟨es,clock,g1,g2,g3,g4,_⟩=>⟨es,clock,g1,g2,g3,g4,λ _ _ _ z=>by cases z⟩,λ _=>trivial,λ b ⟨_,_,z,_⟩=>by cases z⟩
 ·rw [fW] at hk
  rw [dx]
  exact pO (h.wt t af (k9 hk).1)
 ·rw [dx]
  exact pO (Ak af o ah ho hk).2
 ·rw [fW] at hk
  exact (k9 hk).2 rfl
end
end Go.Rx
