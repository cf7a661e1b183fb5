/- Reflection, part R: what need not be known any more (at heads of loops and where ways meet). -/
import Derived.Test.YthfjdcdbimjkjaaRxQ
set_option linter.unusedVariables false
set_option linter.unusedSimpArgs false
set_option linter.unusedSectionVars false
namespace Go.Rx
inductive Sh where
 |id
 |bool
 |val (b:Bool) (e:Ty)
structure Cl where
 bJ:List Nat:=[]
 Bc:List (Nat×Nat×Ty):=[]
 Ai:List (Nat×Nat×Nat×Ty):=[]
 slots:List (Nat×Sh):=[]
 keys:List (Nat×List Sh):=[]
 rH:List Nat:=[]
 AR:List (Nat×Ty):=[]
def nh:Sh->C->C
 | .id,c=>c
 | .bool,.prop p d=>.prop (@decide p d=true) (instDecidableEqBool (@decide p d) true)
 | .bool,.lit b=>.prop (b=true) (instDecidableEqBool b true)
 | .bool,c=>c
 | .val b e,.nil=>.val b e (xz b)
 | .val false _,.val true e' x=>.val false e' (bW true x)
 | .val _ _,c=>c
def rS (s:Sh):AV->AV
 | .cp (.one c)=>.cp (.one (nh s c))
 |v=>v
def jJ (ks:List Nat) (c:C):C:=if c.refs.all ks.contains then c else .any
def oS (ks:List Nat):Cp->Cp
 | .one c=>.one (jJ ks c)
 | .agg cs=>.agg (cs.map (jJ ks))
def rU (ks:List Nat):AV->AV
 | .cp x=>.cp (oS ks x)
 | .bO vs=>.bO (vs.map (oS ks))
def rT:List Sh->List C->List C
 |s::r,c::cs=>nh s c::rT r cs
 |_,cs=>cs
def pJ {α:Type} (ks:List Nat):Option (Nat×α)->Option (Nat×α)
 |some (d,L)=>match ks.contains d with
  |true=>some (d,L)
  |false=>none
 |none=>none
def gn (ks:List Nat) (fO:List Sh):Option Ob->Option Ob
 |some (.box cs)=>some (.box ((rT fO cs).map (jJ ks)))
 |some (.map K V l it)=>some (.map K V l (pJ ks it))
 |o=>o
def iU (σ:St) (ks:List Nat):List (Nat×Sh)->List AV->List AV
 | [],l=>l
 | (t,s)::r,l=>(iU σ ks r l).set t (rU ks (rS s (σ.get t)))
def fT (σ:St) (ks:List Nat):List (Nat×List Sh)->List (Option Ob)->List (Option Ob)
 | [],l=>l
 | (κ,fO)::r,l=>(fT σ ks r l).set κ (gn ks fO (σ.ob κ))
def there (σ:St):List (Nat×List Sh)->List (Nat×List Sh)
 | []=>[]
 | (κ,fO)::r=>match σ.ob κ with
   |some _=>(κ,fO)::there σ r
   |none=>there σ r
def nB:List (Nat×Nat×Nat×Ty)->St->St
 | [],σ=>σ
 | (q,i,κ,e)::r,σ=>match σ.ob q,σ.ob κ,fC κ σ.objs.length with
   |some (.box cs),none,true=>match cs[i]? with
    |some .nil=>nB r ((σ.aK κ (some (.vec e []))).aK q (some (.box (cs.set i (.own κ)))))
    |_=>nB r σ
   |_,_,_=>nB r σ
def tg:List (Nat×Nat×Ty)->St->St
 | [],σ=>σ
 | (t,κ,e)::r,σ=>match σ.get t,σ.ob κ,fC κ σ.objs.length with
   | .cp (.one .nil),none,true=>tg r ((σ.aK κ (some (.vec e []))).put (some t) (aN (.own κ)))
   |_,_,_=>tg r σ
def keep (slots:List (Nat×Sh)) (ks:List (Nat×List Sh)) (σ:St):St:=⟨iU σ (ks.map (·.1)) slots (List.replicate σ.tmps.length bB),fT σ (ks.map (·.1)) ks (List.replicate σ.objs.length none)⟩
def yl:List Nat->St->St
 | [],σ=>σ
 |κ::r,σ=>yl r (σ.rH κ)
def ql:List (Nat×Ty)->St->St
 | [],σ=>σ
 | (κ,e)::r,σ=>match σ.ob κ with
   |some (.box cs)=>match e.of cs with
    |some (y,[])=>ql r (σ.aK κ (some (.cG e y)))
    |_=>ql r σ
   |_=>ql r σ
def Cl.go (c:Cl) (σ:St):St:=
 let σ1:=nB c.Ai (tg c.Bc (ql c.AR (bC c.bJ (yl c.rH σ))))
 keep c.slots (there σ1 c.keys) σ1
theorem qM {w:World} {R:Nat->RL} {Pr:Nat->Prop} {s:Sh} {c:C} {v:Value} (h:au w R Pr c v):au w R Pr (nh s c) v:=by
 unfold nh
 split
 ·exact h
 ·rename_i p d
  show v=_
  rw [show v=_ from h]
  by_cases hp:p<;>simp [hp]
 ·rename_i b
  show v=_
  rw [show v=_ from h]
  cases b<;>rfl
 ·exact h
 ·rename_i b e
  have hv:v=.slice none 0 0:=h
  subst hv
  refine ⟨none,0, ?_⟩
  cases b<;>exact ⟨rfl,Nat.le_refl _,by simp [p9,xz],λ h=>(h rfl).elim⟩
 ·rename_i e e' x
  obtain ⟨A,cap,k1,k2,k3,k4⟩:=h
  exact ⟨A,cap,k1,k2,oG k3,k4⟩
 ·exact h
theorem Aw (s:Sh) (c:C) {κ:Nat} (h:κ∈(nh s c).refs):κ∈c.refs:=by
 unfold nh at h
 split at h
 ·exact h
 ·cases h
 ·cases h
 ·exact h
 ·cases h
 ·cases h
 ·exact h
theorem v8 {w:World} {R:Nat->RL} {Pr:Nat->Prop} {s:Sh} {c:AV} {v:Value} (h:aA w R Pr c v):aA w R Pr (rS s c) v:=by
 unfold rS
 split
 ·exact qM h
 ·exact h
theorem lW {w:World} {R:Nat->RL} {Pr:Nat->Prop} {ks:List Nat} {c:C} {v:Value} (h:au w R Pr c v):au w R Pr (jJ ks c) v:=by
 unfold jJ
 split
 ·exact h
 ·trivial
theorem kQ {ks:List Nat} {c:C} {κ:Nat} (h:κ∈(jJ ks c).refs):κ∈ks/\κ∈c.refs:=by
 unfold jJ at h
 split at h
 ·rename_i ha
  exact ⟨by simpa using List.all_eq_true.1 ha κ h,h⟩
 ·cases h
theorem wg {w:World} {R:Nat->RL} {Pr:Nat->Prop} {ks:List Nat} {c:AV} {v:Value} (h:aA w R Pr c v):aA w R Pr (rU ks c) v:=by
 have kj:∀{x:Cp} {u:Value},bf w R Pr x u->bf w R Pr (oS ks x) u:=λ {x u} h=>by
  cases x with
  |one c=>exact lW h
  |agg cs=>obtain ⟨vs,h1,h2⟩:=h;exact ⟨vs,h1,h2.cU λ a _ b hb=>lW hb⟩
 cases c with
 |cp x=>exact kj h
 |bO xs=>obtain ⟨vs,h1,h2⟩:=h;exact ⟨vs,h1,h2.cU λ a _ b hb=>kj hb⟩
theorem uW {ks:List Nat} {c:AV} {κ:Nat} (h:κ∈(rU ks c).refs):κ∈ks:=by
 have kj:∀{x:Cp},κ∈(oS ks x).refs->κ∈ks:=λ {x} h=>by
  cases x with
  |one c=>exact (kQ h).1
  |agg cs=>
   obtain ⟨c,hc,hk⟩:=List.mem_flatMap.1 h
   obtain ⟨d,hd,rfl⟩:=List.mem_map.1 hc
   exact (kQ hk).1
 cases c with
 |cp x=>exact kj h
 |bO xs=>
  obtain ⟨c,hc,hk⟩:=List.mem_flatMap.1 h
  obtain ⟨d,hd,rfl⟩:=List.mem_map.1 hc
  exact kj hk
theorem rF (σ:St) (ks:List Nat):∀(l:List (Nat×Sh)) (m:List AV),(iU σ ks l m).length=m.length
 | [],m=>rfl
 | (t,s)::r,m=>by simp [iU,rF σ ks r m]
theorem mP (σ:St) (ks:List Nat):∀(l:List (Nat×Sh)) (n:Nat) (t:Nat),(iU σ ks l (List.replicate n bB)).getD t bB=bB\/∃s,(iU σ ks l (List.replicate n bB)).getD t bB=rU ks (rS s (σ.get t))
 | [],n,t=>by
   left
   simp only [iU,List.getD_eq_getElem?_getD,List.getElem?_replicate]
   split<;>rfl
 | (u,s)::r,n,t=>by
   simp only [iU]
   rw [bE]
   split
   ·rename_i h;rw [<-h.1];exact .inr ⟨s,rfl⟩
   ·exact mP σ ks r n t
theorem rD (σ:St) (ks:List Nat):∀(l:List (Nat×List Sh)) (n κ:Nat),(fT σ ks l (List.replicate n none)).getD κ none=none\/∃fO,(fT σ ks l (List.replicate n none)).getD κ none=gn ks fO (σ.ob κ)
 | [],n,κ=>by
   left
   simp only [fT,List.getD_eq_getElem?_getD,List.getElem?_replicate]
   split<;>rfl
 | (u,s)::r,n,κ=>by
   simp only [fT]
   rw [bE]
   split
   ·rename_i h;rw [<-h.1];exact .inr ⟨s,rfl⟩
   ·exact rD σ ks r n κ
theorem mO (σ:St) (ks:List Nat):∀(l:List (Nat×List Sh)) (m:List (Option Ob)),(fT σ ks l m).length=m.length
 | [],m=>rfl
 | (κ,_)::r,m=>by simp [fT,mO σ ks r m]
theorem rE (σ:St) (ks:List Nat):∀(l:List (Nat×List Sh)) (n κ:Nat),κ∈l.map (·.1)->κ <n->∃fO,(fT σ ks l (List.replicate n none)).getD κ none=gn ks fO (σ.ob κ)
 | (u,s)::r,n,κ,h,hn=>by
   simp only [fT]
   rw [bE]
   by_cases e:u=κ
   ·subst e;exact ⟨s,by rw [if_pos ⟨rfl,by rw [mO];simpa using hn⟩]⟩
   ·rw [if_neg (λ z=>e z.1)]
    exact rE σ ks r n κ (by simpa [Ne.symm e] using h) hn
theorem mU (σ:St):∀(l:List (Nat×List Sh)) {κ:Nat},κ∈(there σ l).map (·.1)->∃o,σ.ob κ=some o
 | [],_,h=>by cases h
 | (u,s)::r,κ,h=>by
   unfold there at h
   split at h
   ·rename_i o ho
    rcases List.mem_cons.1 h with rfl|h
    ·exact ⟨o,ho⟩
    ·exact mU σ r h
   ·exact mU σ r h
section
variable {w0:World} {Fz av:Nat->Prop} {Lo:Nat->RL} {R:Nat->RL} {Pr:Nat->Prop} {σ:St} {a:Act} {w:World}
theorem qN {w:World} {R:Nat->RL} {Pr:Nat->Prop}:∀{fO:List Sh} {cs:List C} {vs:List Value},an (au w R Pr) cs vs->an (au w R Pr) (rT fO cs) vs
 | [],cs,vs,h=>by cases cs<;>exact h
 |s::fO,[],vs,h=>h
 |s::fO,c::cs,[],h=>h.elim
 |s::fO,c::cs,v::vs,h=>⟨qM h.1,qN h.2⟩
theorem w6 {K V:Ty} {m:List (K.D×V.D)} (ks:List Nat) (it:Option (Nat×List (K.D×V.D)×Option (K.D×V.D))):(pJ ks it=it/\∀κ∈(Ob.map K V m it).refs,κ∈ks)\/pJ ks it=none:=by
 unfold pJ
 split
 ·rename_i d L
  split
  ·rename_i hd
   refine .inl ⟨rfl,λ κ hk=> ?_⟩
   simp only [Ob.refs,List.mem_singleton] at hk
   subst hk
   simpa using hd
  ·exact .inr rfl
 ·exact .inr rfl
theorem Inv.keep (h:Inv w0 Fz av Lo R Pr σ a w) (slots:List (Nat×Sh)) (ks:List (Nat×List Sh)) (hks:∀κ∈ks.map (·.1),∃o,σ.ob κ=some o):Inv w0 Fz av Lo R Pr (keep slots ks σ) a w:=by
 have ez:∀κ∈ks.map (·.1),(Go.Rx.keep slots ks σ).ob κ≠none:=λ κ aa=>by
  obtain ⟨o,ho⟩:=hks κ aa
  have hlt:κ <σ.objs.length:=by
   rcases Nat.lt_or_ge κ σ.objs.length with g|g
   ·exact g
   ·unfold St.ob at ho;rw [List.getD_eq_getElem?_getD,List.getElem?_eq_none g] at ho;cases ho
  show (fT σ (ks.map (·.1)) ks (List.replicate σ.objs.length none)).getD κ none≠none
  obtain ⟨fO,hs⟩:=rE σ (ks.map (·.1)) ks _ κ aa hlt
  rw [hs,ho]
  cases o<;>simp [gn]
 have aj:∀κ o',(Go.Rx.keep slots ks σ).ob κ=some o'->∃o,σ.ob κ=some o/\((∃cs fO,o=.box cs/\o'=.box ((rT fO cs).map (jJ (ks.map (·.1)))))\/(o'=o/\∀κ∈o.refs,κ∈ks.map (·.1))\/∃K V l it,o=.map K V l it/\o'=.map K V l none):=λ κ o' ho=>by
  rcases rD σ (ks.map (·.1)) ks σ.objs.length κ with g|⟨fO,g⟩
  ·rw [show (Go.Rx.keep slots ks σ).ob κ=_ from g] at ho;cases ho
  ·rw [show (Go.Rx.keep slots ks σ).ob κ=_ from g] at ho
   cases hx:σ.ob κ with
   |none=>rw [hx] at ho;cases ho
   |some o=>
    rw [hx] at ho
    cases o with
    |box cs=>simp only [gn] at ho;cases ho;exact ⟨_,rfl,.inl ⟨_,fO,rfl,rfl⟩⟩
    |vec e l=>simp only [gn] at ho;cases ho;exact ⟨_,rfl,.inr (.inl ⟨rfl,λ _ z=>by cases z⟩)⟩
    |set l=>simp only [gn] at ho;cases ho;exact ⟨_,rfl,.inr (.inl ⟨rfl,λ _ z=>by cases z⟩)⟩
    |rows e l hh=>simp only [gn] at ho;cases ho;exact ⟨_,rfl,.inr (.inl ⟨rfl,λ _ z=>by cases z⟩)⟩
    |cG e l=>simp only [gn] at ho;cases ho;exact ⟨_,rfl,.inr (.inl ⟨rfl,λ _ z=>by cases z⟩)⟩
    |tok l=>simp only [gn] at ho;cases ho;exact ⟨_,rfl,.inr (.inl ⟨rfl,λ _ z=>by cases z⟩)⟩
    |map K V l it=>
     simp only [gn] at ho;cases ho
     rcases w6 (K:=K) (V:=V) (m:=l) (ks.map (·.1)) it with ⟨q1,q2⟩|q1
     ·exact ⟨_,rfl,.inr (.inl ⟨by rw [q1],q2⟩)⟩
     ·exact ⟨_,rfl,.inr (.inr ⟨K,V,l,it,rfl,by rw [q1]⟩)⟩
 refine h.weak _ ?_ ?_ (λ t u hu=> ?_) (λ κ o' ho=> ?_) (λ t κ hk=> ?_) (λ af o κ ho hk=> ?_)
 ·show (iU σ (ks.map (·.1)) slots (List.replicate σ.tmps.length bB)).length<=_
  rw [rF];simpa using h.sz
 ·show (fT σ (ks.map (·.1)) ks (List.replicate σ.objs.length none)).length=_
  rw [mO];simp
 ·rcases mP σ (ks.map (·.1)) slots σ.tmps.length t with g|⟨s,g⟩
  ·rw [show (Go.Rx.keep slots ks σ).get t=_ from g];trivial
  ·rw [show (Go.Rx.keep slots ks σ).get t=_ from g];exact wg (v8 hu)
 ·obtain ⟨o,h1,⟨cs,fO,rfl,rfl⟩|⟨rfl,iq⟩|⟨K,V,l,it,rfl,rfl⟩⟩:=aj κ o' ho
  ·exact ⟨_,h1,λ ⟨el,vs,g1,g2⟩=>⟨el,vs,g1,(qN g2).cU λ a _ b hb=>lW hb⟩,λ _=>trivial,λ _ hb=>hb.elim⟩
  ·exact ⟨_,h1,id,id,λ _ h=>h⟩
  ·exact ⟨_,h1,λ ⟨es,clock,g1,g2,g3,g4,_⟩=>⟨es,clock,g1,g2,g3,g4,λ _ _ _ z=>by cases z⟩,λ _=>trivial,λ b ⟨_,_,z,_⟩=>by cases z⟩
 ·rcases mP σ (ks.map (·.1)) slots σ.tmps.length t with g|⟨s,g⟩
  ·rw [show (Go.Rx.keep slots ks σ).get t=_ from g] at hk;cases hk
  ·rw [show (Go.Rx.keep slots ks σ).get t=_ from g] at hk;exact ez κ (uW hk)
 ·obtain ⟨o1,h1,⟨cs,fO,rfl,rfl⟩|⟨rfl,iq⟩|⟨K,V,l,it,rfl,rfl⟩⟩:=aj af o ho
  ·obtain ⟨c,hc,hk⟩:=List.mem_flatMap.1 hk
   obtain ⟨d,hd,rfl⟩:=List.mem_map.1 hc
   exact ez κ (kQ hk).1
  ·exact ez κ (iq κ hk)
  ·cases hk
theorem oA:∀(l:List (Nat×Nat×Ty)) {R:Nat->RL} {σ:St},Inv w0 Fz av Lo R Pr σ a w->∃R',Inv w0 Fz av Lo R' Pr (tg l σ) a w
 | [],R,σ,h=>⟨R,h⟩
 | (t,κ,e)::r,R,σ,h=>by
   unfold tg
   split
   ·rename_i h1 h2 h3
    have zA:=h3
    have h3:=cr h3
    have hv:=h.tm t
    rw [h1] at hv
    have hv:a.tmps.getD t undef=.slice none 0 0:=hv
    have hi:=h.add κ (.vec e []) ⟨0,none,0,0⟩ h2 zA (R':=λ af=>if af=κ then ⟨0,none,0,0⟩ else R af) rfl ⟨by simp,.inl ⟨by simp [RL.aG],rfl⟩⟩ (λ κ aa=>by cases aa) (λ aq=>(aq (by simp [RL.aG])).elim)
    have hi2:=hi.put (some t) (aN (.own κ)) (a.tmps.getD t undef) (by rw [hv];show _=_;simp [RL.aG]) (λ af aa=>by
     have:af=κ:=by simpa [AV.refs,Cp.refs,C.refs] using aa
     subst this
     rw [St.aL,if_pos ⟨rfl,h3⟩];simp)
    have ha:a.put (some t) (a.tmps.getD t undef)=a:=by
     have ht:t <a.tmps.size:=by
      rcases Nat.lt_or_ge t a.tmps.size with g|g
      ·exact g
      ·rw [Array.getD_eq_getD_getElem?,Array.getElem?_eq_none g] at hv;simp [undef] at hv
     cases a with
     |mk tm df=>
      simp only [Act.put]
      congr 1
      have ht':t <tm.size:=ht
      apply Array.ext
      ·simp
      ·intro i h1 h2
       rw [Array.getElem_setIfInBounds]
       split
       ·rename_i e;subst e;simp [Array.getD,ht']
       ·rfl
    rw [ha] at hi2
    exact oA r hi2
   ·exact oA r h
theorem jR:∀(l:List (Nat×Nat×Nat×Ty)) {R:Nat->RL} {σ:St},Inv w0 Fz av Lo R Pr σ a w->∃R',Inv w0 Fz av Lo R' Pr (nB l σ) a w
 | [],R,σ,h=>⟨R,h⟩
 | (q,i,κ,e)::r,R,σ,h=>by
   unfold nB
   split
   ·rename_i cs h1 h2 h3
    have zA:=h3
    have h3:=cr h3
    split
    ·rename_i wN
     have Co:q≠κ:=λ e1=>by subst e1;rw [h1] at h2;cases h2
     have hi:=h.add κ (.vec e []) ⟨0,none,0,0⟩ h2 zA (R':=λ af=>if af=κ then ⟨0,none,0,0⟩ else R af) rfl ⟨by simp,.inl ⟨by simp [RL.aG],rfl⟩⟩ (λ κ aa=>by cases aa) (λ aq=>(aq (by simp [RL.aG])).elim)
     have hq:(σ.aK κ (some (.vec e []))).ob q=some (.box cs):=by
      rw [St.aL,if_neg (λ z=>Co z.1.symm)];exact h1
     have aa:(σ.aK κ (some (.vec e []))).ob κ≠none:=by
      rw [St.aL,if_pos ⟨rfl,h3⟩];simp
     have hi2:=hi.upd q (.box cs) (.box (cs.set i (.own κ))) hq (w':=w) (R':=λ af=>if af=κ then ⟨0,none,0,0⟩ else R af) (λ _ _=>rfl) (.inl rfl) (λ _ _ _=>rfl) (Grow.refl _) (λ _=>.inr ⟨trivial,rfl⟩) (by
      obtain ⟨el,vs,g1,g2⟩:=hi.ob q _ hq
      refine ⟨el,vs,g1, ?_⟩
      have hlt:i <cs.length:=by
       rcases Nat.lt_or_ge i cs.length with g|g
       ·exact g
       ·rw [List.getElem?_eq_none g] at wN;cases wN
      have key:∀{cs:List C} {vs:List Value} (i:Nat),an (au w (λ af=>if af=κ then ⟨0,none,0,0⟩ else R af) Pr) cs vs->cs[i]?=some .nil->an (au w (λ af=>if af=κ then ⟨0,none,0,0⟩ else R af) Pr) (cs.set i (.own κ)) vs:=λ {cs vs} i hA hc=>by
       induction cs generalizing vs i with
       |nil=>simp at hc
       |cons c cs ih=>
        cases vs with
        |nil=>exact hA.elim
        |cons v vs=>
         cases i with
         |zero=>
          simp at hc;subst hc
          have hv:v=.slice none 0 0:=hA.1
          refine ⟨?_,hA.2⟩
          show v=_
          rw [hv];simp [RL.aG]
         |succ i=>exact ⟨hA.1,ih i hA.2 (by simpa using hc)⟩
      exact key i g2 wN) (λ af aD=>by
      have hmem:∀{cs:List C} (i:Nat) {af:Nat},af∈(Ob.box (cs.set i (.own κ))).refs->af=κ\/af∈(Ob.box cs).refs:=λ {cs} i {af} hh=>by
       obtain ⟨c,hc,hk⟩:=List.mem_flatMap.1 hh
       rcases List.mem_or_eq_of_mem_set hc with hc|rfl
       ·exact .inr (List.mem_flatMap.2 ⟨c,hc,hk⟩)
       ·exact .inl (by simpa [C.refs] using hk)
      rcases hmem i aD with rfl|h5
      ·exact aa
      ·exact hi.wo q _ af hq h5)
     exact jR r hi2
    ·exact jR r h
   ·exact jR r h
theorem tL:∀(l:List Nat) {Pr:Nat->Prop} {σ:St},Inv w0 Fz av Lo R Pr σ a w->(∀b,b <w0.heap.size->Fz b\/av b)->∃ak,Inv w0 Fz av Lo R ak (yl l σ) a w
 | [],Pr,_,h,_=>⟨Pr,h⟩
 |κ::l,_,_,h,hF=>by
  obtain ⟨gZ,h1⟩:=h.rH κ hF
  exact tL l h1 hF
theorem kT:∀(l:List (Nat×Ty)) {Pr:Nat->Prop} {σ:St},Inv w0 Fz av Lo R Pr σ a w->(∀b,b <w0.heap.size->Fz b\/av b)->∃ak,Inv w0 Fz av Lo R ak (ql l σ) a w
 | [],Pr,_,h,_=>⟨Pr,h⟩
 | (κ,e)::l,_,_,h,hF=>by
   unfold ql
   split
   ·rename_i cs aj
    split
    ·rename_i y hy
     exact kT l (h.zy aj hy hF) hF
    ·exact kT l h hF
   ·exact kT l h hF
theorem Inv.clean (h:Inv w0 Fz av Lo R Pr σ a w) (aZ:∀b,b <w0.heap.size->Fz b\/av b) (c:Cl):∃R' ak,Inv w0 Fz av Lo R' ak (c.go σ) a w:=by
 obtain ⟨gZ,h0⟩:=tL c.rH h aZ
 have h1':=gI c.bJ h0 aZ
 obtain ⟨fH,h1⟩:=kT c.AR h1' aZ
 obtain ⟨R1,h2⟩:=oA c.Bc h1
 obtain ⟨R',h2⟩:=jR c.Ai h2
 exact ⟨R',_,h2.keep c.slots _ λ κ aa=>mU _ _ aa⟩
end
end Go.Rx
