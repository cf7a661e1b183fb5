/- Reflection, part R: what need not be known any more (at heads of loops and where ways meet). -/
import Derived.Test.YtollcjadobpfdaaGreatRxQ
set_option linter.unusedVariables false
set_option linter.unusedSimpArgs false
set_option linter.unusedSectionVars false
namespace Go.Rx
inductive Sh where
 |id
 |bool
 |val (b:Bool) (e:Ty)
structure Cl where
 bJ:List Nat:=[]
 Bu:List (Nat×Nat×Ty):=[]
 Ax:List (Nat×Nat×Nat×Ty):=[]
 slots:List (Nat×Sh):=[]
 keys:List (Nat×List Sh):=[]
 rN:List Nat:=[]
 A8:List (Nat×Ty):=[]
def nj:Sh->C->C
 | .id,c=>c
 | .bool,.prop p d=>.prop (@decide p d=true) (instDecidableEqBool (@decide p d) true)
 | .bool,.lit b=>.prop (b=true) (instDecidableEqBool b true)
 | .bool,c=>c
 | .val b e,.nil=>.val b e (xI b)
 | .val false _,.val true e' x=>.val false e' (bX true x)
 | .val _ _,c=>c
def rY (s:Sh):AV->AV
 | .cp (.one c)=>.cp (.one (nj s c))
 |v=>v
def jL (ks:List Nat) (c:C):C:=if c.refs.all ks.contains then c else .any
def oV (ks:List Nat):Cp->Cp
 | .one c=>.one (jL ks c)
 | .agg cs=>.agg (cs.map (jL ks))
def r0 (ks:List Nat):AV->AV
 | .cp x=>.cp (oV ks x)
 | .bO vs=>.bO (vs.map (oV ks))
def rZ:List Sh->List C->List C
 |s::r,c::cs=>nj s c::rZ r cs
 |_,cs=>cs
def pM {α:Type} (ks:List Nat):Option (Nat×α)->Option (Nat×α)
 |some (d,L)=>match ks.contains d with
  |true=>some (d,L)
  |false=>none
 |none=>none
def gp (ks:List Nat) (fP:List Sh):Option Ob->Option Ob
 |some (.box cs)=>some (.box ((rZ fP cs).map (jL ks)))
 |some (.map K V l it)=>some (.map K V l (pM ks it))
 |o=>o
def iW (σ:St) (ks:List Nat):List (Nat×Sh)->List AV->List AV
 | [],l=>l
 | (t,s)::r,l=>(iW σ ks r l).set t (r0 ks (rY s (σ.get t)))
def fU (σ:St) (ks:List Nat):List (Nat×List Sh)->List (Option Ob)->List (Option Ob)
 | [],l=>l
 | (κ,fP)::r,l=>(fU σ ks r l).set κ (gp ks fP (σ.ob κ))
def there (σ:St):List (Nat×List Sh)->List (Nat×List Sh)
 | []=>[]
 | (κ,fP)::r=>match σ.ob κ with
   |some _=>(κ,fP)::there σ r
   |none=>there σ r
def nD:List (Nat×Nat×Nat×Ty)->St->St
 | [],σ=>σ
 | (q,i,κ,e)::r,σ=>match σ.ob q,σ.ob κ,fE κ σ.objs.length with
   |some (.box cs),none,true=>match cs[i]? with
    |some .nil=>nD r ((σ.aK κ (some (.vec e []))).aK q (some (.box (cs.set i (.own κ)))))
    |_=>nD r σ
   |_,_,_=>nD r σ
def tA:List (Nat×Nat×Ty)->St->St
 | [],σ=>σ
 | (t,κ,e)::r,σ=>match σ.get t,σ.ob κ,fE κ σ.objs.length with
   | .cp (.one .nil),none,true=>tA r ((σ.aK κ (some (.vec e []))).put (some t) (aQ (.own κ)))
   |_,_,_=>tA r σ
def keep (slots:List (Nat×Sh)) (ks:List (Nat×List Sh)) (σ:St):St:=⟨iW σ (ks.map (·.1)) slots (List.replicate σ.tmps.length bA),fU σ (ks.map (·.1)) ks (List.replicate σ.objs.length none)⟩
def yC:List Nat->St->St
 | [],σ=>σ
 |κ::r,σ=>yC r (σ.rN κ)
def qp:List (Nat×Ty)->St->St
 | [],σ=>σ
 | (κ,e)::r,σ=>match σ.ob κ with
   |some (.box cs)=>match e.of cs with
    |some (y,[])=>qp r (σ.aK κ (some (.cG e y)))
    |_=>qp r σ
   |_=>qp r σ
def Cl.go (c:Cl) (σ:St):St:=
 let σ1:=nD c.Ax (tA c.Bu (qp c.A8 (bB c.bJ (yC c.rN σ))))
 keep c.slots (there σ1 c.keys) σ1
theorem qR {w:World} {R:Nat->RL} {Pr:Nat->Prop} {s:Sh} {c:C} {v:Value} (h:au w R Pr c v):au w R Pr (nj s c) v:=by
 unfold nj
 split
 ·exact h
 ·rename_i p d
  show v=_
  rw [show v=_ from h]
  by_cases hp:p<;>simp [hp]
 ·rename_i b
  show v=_
  rw [show v=_ from h]
  cases b<;>rfl
 ·exact h
 ·rename_i b e
  have hv:v=.slice none 0 0:=h
  subst hv
  refine ⟨none,0, ?_⟩
  cases b<;>exact ⟨rfl,Nat.le_refl _,by simp [qd,xI],λ h=>(h rfl).elim⟩
 ·rename_i e e' x
  obtain ⟨A,cap,k1,k2,k3,k4⟩:=h
  exact ⟨A,cap,k1,k2,oI k3,k4⟩
 ·exact h
theorem AN (s:Sh) (c:C) {κ:Nat} (h:κ∈(nj s c).refs):κ∈c.refs:=by
 unfold nj at h
 split at h
 ·exact h
 ·cases h
 ·cases h
 ·exact h
 ·cases h
 ·cases h
 ·exact h
theorem wu {w:World} {R:Nat->RL} {Pr:Nat->Prop} {s:Sh} {c:AV} {v:Value} (h:aA w R Pr c v):aA w R Pr (rY s c) v:=by
 unfold rY
 split
 ·exact qR h
 ·exact h
theorem lY {w:World} {R:Nat->RL} {Pr:Nat->Prop} {ks:List Nat} {c:C} {v:Value} (h:au w R Pr c v):au w R Pr (jL ks c) v:=by
 unfold jL
 split
 ·exact h
 ·trivial
theorem kS {ks:List Nat} {c:C} {κ:Nat} (h:κ∈(jL ks c).refs):κ∈ks/\κ∈c.refs:=by
 unfold jL at h
 split at h
 ·rename_i ha
  exact ⟨by simpa using List.all_eq_true.1 ha κ h,h⟩
 ·cases h
theorem wA {w:World} {R:Nat->RL} {Pr:Nat->Prop} {ks:List Nat} {c:AV} {v:Value} (h:aA w R Pr c v):aA w R Pr (r0 ks c) v:=by
 have kr:∀{x:Cp} {u:Value},bf w R Pr x u->bf w R Pr (oV ks x) u:=λ {x u} h=>by
  cases x with
  |one c=>exact lY h
  |agg cs=>obtain ⟨vs,h1,h2⟩:=h;exact ⟨vs,h1,h2.cZ λ a _ b hb=>lY hb⟩
 cases c with
 |cp x=>exact kr h
 |bO xs=>obtain ⟨vs,h1,h2⟩:=h;exact ⟨vs,h1,h2.cZ λ a _ b hb=>kr hb⟩
theorem va {ks:List Nat} {c:AV} {κ:Nat} (h:κ∈(r0 ks c).refs):κ∈ks:=by
 have kr:∀{x:Cp},κ∈(oV ks x).refs->κ∈ks:=λ {x} h=>by
  cases x with
  |one c=>exact (kS h).1
  |agg cs=>
   obtain ⟨c,hc,hk⟩:=List.mem_flatMap.1 h
   obtain ⟨d,hd,rfl⟩:=List.mem_map.1 hc
   exact (kS hk).1
 cases c with
 |cp x=>exact kr h
 |bO xs=>
  obtain ⟨c,hc,hk⟩:=List.mem_flatMap.1 h
  obtain ⟨d,hd,rfl⟩:=List.mem_map.1 hc
  exact kr hk
theorem rL (σ:St) (ks:List Nat):∀(l:List (Nat×Sh)) (m:List AV),(iW σ ks l m).length=m.length
 | [],m=>rfl
 | (t,s)::r,m=>by simp [iW,rL σ ks r m]
theorem mR (σ:St) (ks:List Nat):∀(l:List (Nat×Sh)) (n:Nat) (t:Nat),(iW σ ks l (List.replicate n bA)).getD t bA=bA\/∃s,(iW σ ks l (List.replicate n bA)).getD t bA=r0 ks (rY s (σ.get t))
 | [],n,t=>by
   left
   simp only [iW,List.getD_eq_getElem?_getD,List.getElem?_replicate]
   split<;>rfl
 | (u,s)::r,n,t=>by
   simp only [iW]
   rw [bE]
   split
   ·rename_i h;rw [<-h.1];exact .inr ⟨s,rfl⟩
   ·exact mR σ ks r n t
theorem rJ (σ:St) (ks:List Nat):∀(l:List (Nat×List Sh)) (n κ:Nat),(fU σ ks l (List.replicate n none)).getD κ none=none\/∃fP,(fU σ ks l (List.replicate n none)).getD κ none=gp ks fP (σ.ob κ)
 | [],n,κ=>by
   left
   simp only [fU,List.getD_eq_getElem?_getD,List.getElem?_replicate]
   split<;>rfl
 | (u,s)::r,n,κ=>by
   simp only [fU]
   rw [bE]
   split
   ·rename_i h;rw [<-h.1];exact .inr ⟨s,rfl⟩
   ·exact rJ σ ks r n κ
theorem mQ (σ:St) (ks:List Nat):∀(l:List (Nat×List Sh)) (m:List (Option Ob)),(fU σ ks l m).length=m.length
 | [],m=>rfl
 | (κ,_)::r,m=>by simp [fU,mQ σ ks r m]
theorem rK (σ:St) (ks:List Nat):∀(l:List (Nat×List Sh)) (n κ:Nat),κ∈l.map (·.1)->κ <n->∃fP,(fU σ ks l (List.replicate n none)).getD κ none=gp ks fP (σ.ob κ)
 | (u,s)::r,n,κ,h,hn=>by
   simp only [fU]
   rw [bE]
   by_cases e:u=κ
   ·subst e;exact ⟨s,by rw [if_pos ⟨rfl,by rw [mQ];simpa using hn⟩]⟩
   ·rw [if_neg (λ z=>e z.1)]
    exact rK σ ks r n κ (by simpa [Ne.symm e] using h) hn
theorem mW (σ:St):∀(l:List (Nat×List Sh)) {κ:Nat},κ∈(there σ l).map (·.1)->∃o,σ.ob κ=some o
 | [],_,h=>by cases h
 | (u,s)::r,κ,h=>by
   unfold there at h
   split at h
   ·rename_i o ho
    rcases List.mem_cons.1 h with rfl|h
    ·exact ⟨o,ho⟩
    ·exact mW σ r h
   ·exact mW σ r h
section
variable {w0:World} {Fz av:Nat->Prop} {Lo:Nat->RL} {R:Nat->RL} {Pr:Nat->Prop} {σ:St} {a:Act} {w:World}
theorem qS {w:World} {R:Nat->RL} {Pr:Nat->Prop}:∀{fP:List Sh} {cs:List C} {vs:List Value},an (au w R Pr) cs vs->an (au w R Pr) (rZ fP cs) vs
 | [],cs,vs,h=>by cases cs<;>exact h
 |s::fP,[],vs,h=>h
 |s::fP,c::cs,[],h=>h.elim
 |s::fP,c::cs,v::vs,h=>⟨qR h.1,qS h.2⟩
theorem xm {K V:Ty} {m:List (K.D×V.D)} (ks:List Nat) (it:Option (Nat×List (K.D×V.D)×Option (K.D×V.D))):(pM ks it=it/\∀κ∈(Ob.map K V m it).refs,κ∈ks)\/pM ks it=none:=by
 unfold pM
 split
 ·rename_i d L
  split
  ·rename_i hd
   refine .inl ⟨rfl,λ κ hk=> ?_⟩
   simp only [Ob.refs,List.mem_singleton] at hk
   subst hk
   simpa using hd
  ·exact .inr rfl
 ·exact .inr rfl
theorem Inv.keep (h:Inv w0 Fz av Lo R Pr σ a w) (slots:List (Nat×Sh)) (ks:List (Nat×List Sh)) (hks:∀κ∈ks.map (·.1),∃o,σ.ob κ=some o):Inv w0 Fz av Lo R Pr (keep slots ks σ) a w:=by
 have ez:∀κ∈ks.map (·.1),(Go.Rx.keep slots ks σ).ob κ≠none:=λ κ aa=>by
  obtain ⟨o,ho⟩:=hks κ aa
  have hlt:κ <σ.objs.length:=by
   rcases Nat.lt_or_ge κ σ.objs.length with g|g
   ·exact g
   ·unfold St.ob at ho;rw [List.getD_eq_getElem?_getD,List.getElem?_eq_none g] at ho;cases ho
  show (fU σ (ks.map (·.1)) ks (List.replicate σ.objs.length none)).getD κ none≠none
  obtain ⟨fP,hs⟩:=rK σ (ks.map (·.1)) ks _ κ aa hlt
  rw [hs,ho]
  cases o<;>simp [gp]
 have aj:∀κ o',(Go.Rx.keep slots ks σ).ob κ=some o'->∃o,σ.ob κ=some o/\((∃cs fP,o=.box cs/\o'=.box ((rZ fP cs).map (jL (ks.map (·.1)))))\/(o'=o/\∀κ∈o.refs,κ∈ks.map (·.1))\/∃K V l it,o=.map K V l it/\o'=.map K V l none):=λ κ o' ho=>by
  rcases rJ σ (ks.map (·.1)) ks σ.objs.length κ with g|⟨fP,g⟩
  ·rw [show (Go.Rx.keep slots ks σ).ob κ=_ from g] at ho;cases ho
  ·rw [show (Go.Rx.keep slots ks σ).ob κ=_ from g] at ho
   cases hx:σ.ob κ with
   |none=>rw [hx] at ho;cases ho
   |some o=>
    rw [hx] at ho
    cases o with
    |box cs=>simp only [gp] at ho;cases ho;exact ⟨_,rfl,.inl ⟨_,fP,rfl,rfl⟩⟩
    |vec e l=>simp only [gp] at ho;cases ho;exact ⟨_,rfl,.inr (.inl ⟨rfl,λ _ z=>by cases z⟩)⟩
    |set l=>simp only [gp] at ho;cases ho;exact ⟨_,rfl,.inr (.inl ⟨rfl,λ _ z=>by cases z⟩)⟩
    |rows e l hh=>simp only [gp] at ho;cases ho;exact ⟨_,rfl,.inr (.inl ⟨rfl,λ _ z=>by cases z⟩)⟩
    |cG e l=>simp only [gp] at ho;cases ho;exact ⟨_,rfl,.inr (.inl ⟨rfl,λ _ z=>by cases z⟩)⟩
    |tok l=>simp only [gp] at ho;cases ho;exact ⟨_,rfl,.inr (.inl ⟨rfl,λ _ z=>by cases z⟩)⟩
    |map K V l it=>
     simp only [gp] at ho;cases ho
     rcases xm (K:=K) (V:=V) (m:=l) (ks.map (·.1)) it with ⟨q1,q2⟩|q1
     ·exact ⟨_,rfl,.inr (.inl ⟨by rw [q1],q2⟩)⟩
     ·exact ⟨_,rfl,.inr (.inr ⟨K,V,l,it,rfl,by rw [q1]⟩)⟩
 refine h.weak _ ?_ ?_ (λ t u hu=> ?_) (λ κ o' ho=> ?_) (λ t κ hk=> ?_) (λ af o κ ho hk=> ?_)
 ·show (iW σ (ks.map (·.1)) slots (List.replicate σ.tmps.length bA)).length<=_
  rw [rL];simpa using h.sz
 ·show (fU σ (ks.map (·.1)) ks (List.replicate σ.objs.length none)).length=_
  rw [mQ];simp
 ·rcases mR σ (ks.map (·.1)) slots σ.tmps.length t with g|⟨s,g⟩
  ·rw [show (Go.Rx.keep slots ks σ).get t=_ from g];trivial
  ·rw [show (Go.Rx.keep slots ks σ).get t=_ from g];exact wA (wu hu)
 ·obtain ⟨o,h1,⟨cs,fP,rfl,rfl⟩|⟨rfl,ir⟩|⟨K,V,l,it,rfl,rfl⟩⟩:=aj κ o' ho
  ·exact ⟨_,h1,λ ⟨el,vs,g1,g2⟩=>⟨el,vs,g1,(qS g2).cZ λ a _ b hb=>lY hb⟩,λ _=>trivial,λ _ hb=>hb.elim⟩
  ·exact ⟨_,h1,id,id,λ _ h=>h⟩
  ·exact ⟨_,h1,λ ⟨es,clock,g1,g2,g3,g4,_⟩=>⟨es,clock,g1,g2,g3,g4,λ _ _ _ z=>by cases z⟩,λ _=>trivial,λ b ⟨_,_,z,_⟩=>by cases z⟩
 ·rcases mR σ (ks.map (·.1)) slots σ.tmps.length t with g|⟨s,g⟩
  ·rw [show (Go.Rx.keep slots ks σ).get t=_ from g] at hk;cases hk
  ·rw [show (Go.Rx.keep slots ks σ).get t=_ from g] at hk;exact ez κ (va hk)
 ·obtain ⟨o1,h1,⟨cs,fP,rfl,rfl⟩|⟨rfl,ir⟩|⟨K,V,l,it,rfl,rfl⟩⟩:=aj af o ho
  ·obtain ⟨c,hc,hk⟩:=List.mem_flatMap.1 hk
   obtain ⟨d,hd,rfl⟩:=List.mem_map.1 hc
   exact ez κ (kS hk).1
  ·exact ez κ (ir κ hk)
  ·cases hk
theorem oC:∀(l:List (Nat×Nat×Ty)) {R:Nat->RL} {σ:St},Inv w0 Fz av Lo R Pr σ a w->∃R',Inv w0 Fz av Lo R' Pr (tA l σ) a w
 | [],R,σ,h=>⟨R,h⟩
 | (t,κ,e)::r,R,σ,h=>by
   unfold tA
   split
   ·rename_i h1 h2 h3
    have zP:=h3
    have h3:=ct h3
    have hv:=h.tm t
    rw [h1] at hv
    have hv:a.tmps.getD t undef=.slice none 0 0:=hv
    have hi:=h.add κ (.vec e []) ⟨0,none,0,0⟩ h2 zP (R':=λ af=>if af=κ then ⟨0,none,0,0⟩ else R af) rfl ⟨by simp,.inl ⟨by simp [RL.aF],rfl⟩⟩ (λ κ aa=>by cases aa) (λ aq=>(aq (by simp [RL.aF])).elim)
    have hi2:=hi.put (some t) (aQ (.own κ)) (a.tmps.getD t undef) (by rw [hv];show _=_;simp [RL.aF]) (λ af aa=>by
     have:af=κ:=by simpa [AV.refs,Cp.refs,C.refs] using aa
     subst this
     rw [St.aL,if_pos ⟨rfl,h3⟩];simp)
    have ha:a.put (some t) (a.tmps.getD t undef)=a:=by
     have ht:t <a.tmps.size:=by
      rcases Nat.lt_or_ge t a.tmps.size with g|g
      ·exact g
      ·rw [Array.getD_eq_getD_getElem?,Array.getElem?_eq_none g] at hv;simp [undef] at hv
     cases a with
     |mk tm df=>
      simp only [Act.put]
      congr 1
      have ht':t <tm.size:=ht
      apply Array.ext
      ·simp
      ·intro i h1 h2
       rw [Array.getElem_setIfInBounds]
       split
       ·rename_i e;subst e;simp [Array.getD,ht']
       ·rfl
    rw [ha] at hi2
    exact oC r hi2
   ·exact oC r h
theorem jT:∀(l:List (Nat×Nat×Nat×Ty)) {R:Nat->RL} {σ:St},Inv w0 Fz av Lo R Pr σ a w->∃R',Inv w0 Fz av Lo R' Pr (nD l σ) a w
 | [],R,σ,h=>⟨R,h⟩
 | (q,i,κ,e)::r,R,σ,h=>by
   unfold nD
   split
   ·rename_i cs h1 h2 h3
    have zP:=h3
    have h3:=ct h3
    split
    ·rename_i wW
     have CD:q≠κ:=λ e1=>by subst e1;rw [h1] at h2;cases h2
     have hi:=h.add κ (.vec e []) ⟨0,none,0,0⟩ h2 zP (R':=λ af=>if af=κ then ⟨0,none,0,0⟩ else R af) rfl ⟨by simp,.inl ⟨by simp [RL.aF],rfl⟩⟩ (λ κ aa=>by cases aa) (λ aq=>(aq (by simp [RL.aF])).elim)
     have hq:(σ.aK κ (some (.vec e []))).ob q=some (.box cs):=by
      rw [St.aL,if_neg (λ z=>CD z.1.symm)];exact h1
     have aa:(σ.aK κ (some (.vec e []))).ob κ≠none:=by
      rw [St.aL,if_pos ⟨rfl,h3⟩];simp
     have hi2:=hi.upd q (.box cs) (.box (cs.set i (.own κ))) hq (w':=w) (R':=λ af=>if af=κ then ⟨0,none,0,0⟩ else R af) (λ _ _=>rfl) (.inl rfl) (λ _ _ _=>rfl) (Grow.refl _) (λ _=>.inr ⟨trivial,rfl⟩) (by
      obtain ⟨el,vs,g1,g2⟩:=hi.ob q _ hq
      refine ⟨el,vs,g1, ?_⟩
      have hlt:i <cs.length:=by
       rcases Nat.lt_or_ge i cs.length with g|g
       ·exact g
       ·rw [List.getElem?_eq_none g] at wW;cases wW
      have key:∀{cs:List C} {vs:List Value} (i:Nat),an (au w (λ af=>if af=κ then ⟨0,none,0,0⟩ else R af) Pr) cs vs->cs[i]?=some .nil->an (au w (λ af=>if af=κ then ⟨0,none,0,0⟩ else R af) Pr) (cs.set i (.own κ)) vs:=λ {cs vs} i hA hc=>by
       induction cs generalizing vs i with
       |nil=>simp at hc
       |cons c cs ih=>
        cases vs with
        |nil=>exact hA.elim
        |cons v vs=>
         cases i with
         |zero=>
          simp at hc;subst hc
          have hv:v=.slice none 0 0:=hA.1
          refine ⟨?_,hA.2⟩
          show v=_
          rw [hv];simp [RL.aF]
         |succ i=>exact ⟨hA.1,ih i hA.2 (by simpa using hc)⟩
      exact key i g2 wW) (λ af aD=>by
      have hmem:∀{cs:List C} (i:Nat) {af:Nat},af∈(Ob.box (cs.set i (.own κ))).refs->af=κ\/af∈(Ob.box cs).refs:=λ {cs} i {af} hh=>by
       obtain ⟨c,hc,hk⟩:=List.mem_flatMap.1 hh
       rcases List.mem_or_eq_of_mem_set hc with hc|rfl
       ·exact .inr (List.mem_flatMap.2 ⟨c,hc,hk⟩)
       ·exact .inl (by simpa [C.refs] using hk)
      rcases hmem i aD with rfl|h5
      ·exact aa
      ·exact hi.wo q _ af hq h5)
     exact jT r hi2
    ·exact jT r h
   ·exact jT r h
theorem tT:∀(l:List Nat) {Pr:Nat->Prop} {σ:St},Inv w0 Fz av Lo R Pr σ a w->(∀b,b <w0.heap.size->Fz b\/av b)->∃ak,Inv w0 Fz av Lo R ak (yC l σ) a w
 | [],Pr,_,h,_=>⟨Pr,h⟩
 |κ::l,_,_,h,hF=>by
  obtain ⟨hD,h1⟩:=h.rN κ hF
  exact tT l h1 hF
theorem kV:∀(l:List (Nat×Ty)) {Pr:Nat->Prop} {σ:St},Inv w0 Fz av Lo R Pr σ a w->(∀b,b <w0.heap.size->Fz b\/av b)->∃ak,Inv w0 Fz av Lo R ak (qp l σ) a w
 | [],Pr,_,h,_=>⟨Pr,h⟩
 | (κ,e)::l,_,_,h,hF=>by
   unfold qp
   split
   ·rename_i cs aj
    split
    ·rename_i y hy
     exact kV l (h.zN aj hy hF) hF
    ·exact kV l h hF
   ·exact kV l h hF
theorem Inv.clean (h:Inv w0 Fz av Lo R Pr σ a w) (aZ:∀b,b <w0.heap.size->Fz b\/av b) (c:Cl):∃R' ak,Inv w0 Fz av Lo R' ak (c.go σ) a w:=by
 obtain ⟨hD,h0⟩:=tT c.rN h aZ
 have h1':=gK c.bJ h0 aZ
 obtain ⟨fJ,h1⟩:=kV c.A8 h1' aZ
 obtain ⟨R1,h2⟩:=oC c.Bu h1
 obtain ⟨R',h2⟩:=jT c.Ax h2
 exact ⟨R',_,h2.keep c.slots _ λ κ aa=>mW _ _ aa⟩
end
end Go.Rx
