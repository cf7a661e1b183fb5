/- Reflection, part W: a whole function: what it comes to is its contract. -/
import Derived.Test.YtollcjadobpfdaaGreatRxV
set_option linter.unusedVariables false
set_option linter.unusedSimpArgs false
set_option linter.unusedSectionVars false
namespace Go.Rx
def xR (p:PT) (x:p.2.D):AV:=
 match p.1 with
 |true=>.cp (.agg (p.2.cells x))
 |false=>match p.2.cells x with
  | [c]=>.cp (.one c)
  |_=>bA
def iL:(sig:List PT)->DL sig->List AV
 | [],_=>[]
 |p::r,xs=>xR p xs.1::iL r xs.2
def uR (N M:Nat) (sig:List PT) (xs:DL sig):St:=⟨iL sig xs++List.replicate (N - sig.length) bA,List.replicate M none⟩
def qt:LO->AV->Option Nat
 | .box _,.cp (.one (.ptr κ 0))=>some κ
 | .row _,.cp (.one (.own κ))=>some κ
 | .rows _,.cp (.one (.own κ))=>some κ
 | .map _ _,.cp (.one (.mp κ))=>some κ
 |_,_=>none
def mO (ob:Nat->Option Ob):(r:RT)->AV->Option (List Nat×List Nat×r.D)
 | .d agg τ,v=>match toArg ob (agg,τ) v with
   |some (acc,x)=>some (acc,[],x)
   |none=>none
 | .new e,v=>match v with
   | .cp (.one (.own κ))=>match ob κ with
     |some (.vec e' l)=>match Ty.dec e' e with
      |isTrue h=>some ([],[κ],(h▸l:List e.D))
      |isFalse _=>none
     |_=>none
   | .cp (.one .nil)=>some ([],[],([]:List e.D))
   |_=>none
 | .obj o ls,v=>match qt o v with
   |some κ=>match cE ob (bW ob κ (o::ls)) (κ::bW ob κ (o::ls)) (o::ls) with
    |some (acc,x)=>some (acc,κ::bW ob κ (o::ls),x)
    |none=>none
   |none=>none
def iK (ob:Nat->Option Ob):(rs:List RT)->List AV->Option (List Nat×List Nat×eC rs)
 | [],[]=>some ([],[],())
 |r::rs,v::vs=>match mO ob r v,iK ob rs vs with
  |some (a1,n1,x),some (a2,n2,xs)=>some (a1++a2,n1++n2,(x,xs))
  |_,_=>none
 |_,_=>none
inductive RV where
 |tmp (t:Nat)
 |cell (t:Nat) (ty:Nat)
def RV.var:RV->ResultVar
 | .tmp t=>.tmp t
 | .cell t ty=>.cell t ty
def RV.ev (T:bh) (σ:St):RV->AV
 | .tmp t=>σ.get t
 | .cell t ty=>match σ.get t with
   | .cp (.one (.ptr κ off))=>match ia T σ.ob ty (.ptr κ off) with
     |some out=>out.v
     |none=>bA
   |_=>bA
def RV.ok:RV->AV->Bool
 | .cell _ _,.cp (.one .any)=>false
 |_,_=>true
def lu (T:bh) (σ:St):List RV->Bool
 | []=>true
 |r::l=>r.ok (r.ev T σ) && lu T σ l
def zw (T:bh) (rs:List RT) (ts:List RV):eN (eC rs)
 | .exit _,_=>none
 |_,σ=>match lu T σ ts,iK σ.ob rs (ts.map (RV.ev T σ)) with
  |true,some (vs,ns,r)=>match p0 vs ns with
   |true=>some r
   |false=>none
  |_,_=>none
section
variable {w:World} {Pr:Nat->Prop}
theorem xS {R:Nat->RL} {p:PT} {x:p.2.D} {v:Value} (h:gn w Pr p x v):aA w R Pr (xR p x) v:=by
 obtain ⟨agg,τ⟩:=p
 cases agg with
 |true=>
  obtain ⟨us,rfl,h3⟩:=h
  exact ⟨us,rfl,bu h3⟩
 |false=>
  have:=bu (R:=R) (show ay w Pr τ x [v] from h)
  show aA w R Pr (match τ.cells x with| [c]=>.cp (.one c)|_=>bA) v
  split
  ·rename_i c h2
   rw [h2] at this
   exact this.1
  ·trivial
theorem wj {p:PT} {x:p.2.D} {κ:Nat} (h:κ∈(xR p x).refs):False:=by
 obtain ⟨agg,τ⟩:=p
 cases agg with
 |true=>
  obtain ⟨c,hc,hk⟩:=List.mem_flatMap.1 h
  rw [bL _ _ c hc] at hk;cases hk
 |false=>
  replace h:κ∈(match τ.cells x with| [c]=>AV.cp (.one c)|_=>bA).refs:=h
  split at h
  ·rename_i c h2
   have:c.refs=[]:=bL τ x c (by rw [h2];simp)
   rw [show (AV.cp (Cp.one c)).refs=c.refs from rfl,this] at h;cases h
  ·cases h
theorem lT {R:Nat->RL}:∀{sig:List PT} {xs:DL sig} {vs:List Value},ff w Pr sig xs vs->an (aA w R Pr) (iL sig xs) vs
 | [],_,vs,h=>by rw [show vs=[] from h];trivial
 |p::r,xs,vs,h=>by
  obtain ⟨v,us,rfl,h1,h2⟩:=h
  exact ⟨xS h1,lT h2⟩
theorem lS:∀(sig:List PT) (xs:DL sig),(iL sig xs).length=sig.length
 | [],_=>rfl
 |p::r,xs=>by simp [iL,lS r xs.2]
theorem iM:∀{sig:List PT} {xs:DL sig} {v:AV} {κ:Nat},v∈iL sig xs->κ∈v.refs->False
 |p::r,xs,v,κ,h,hk=>by
  rcases List.mem_cons.1 h with rfl|h
  ·exact wj hk
  ·exact iM h hk
end
theorem an.getD {α β:Type} {r:α->β->Prop} {d:α} {e:β} (hd:r d e):∀{l:List α} {m:List β},an r l m->∀n,r (l.getD n d) (m.getD n e)
 | [],[],_,n=>by simpa using hd
 |a::l,b::m,h,0=>by simpa using h.1
 |a::l,b::m,h,n+1=>by simpa using an.getD hd h.2 n
 | [],_::_,h,_=>h.elim
 |_::_,[],h,_=>h.elim
theorem zu {w:World} {Pr:Nat->Prop} {sig:List PT} {xs:DL sig} {vs:List Value} {N M:Nat} (hp:∀b,Pr b->b <w.heap.size) (ha:ff w Pr sig xs vs) (hN:sig.length<=N):
 Inv w (λ b=>b <w.heap.size) Pr (λ _=>⟨0,none,0,0⟩) (λ _=>⟨0,none,0,0⟩) Pr (uR N M sig xs) { tmps:=vs.toArray++Array.replicate (N - vs.toArray.size) undef,defers:=[] } w:=by
 have hr:=lT (R:=λ _=>⟨0,none,0,0⟩) ha
 have hl:=hr.length
 have gh:=lS sig xs
 have fH:∀κ,(uR N M sig xs).ob κ=none:=λ κ=>by
  unfold St.ob uR
  simp only [List.getD_eq_getElem?_getD,List.getElem?_replicate]
  split<;>rfl
 refine { tm:=λ t=> ?_,sz:= ?_,ob:=λ κ o h=>(by rw [fH] at h;cases h),un:=λ κ o h=>(by rw [fH] at h;cases h),lm:=λ κ o b h=>(by rw [fH] at h;cases h),ds:=λ κ af o o' h=>(by rw [fH] at h;cases h),wt:=λ t κ hk=> ?_,wo:=λ af o κ h=>(by rw [fH] at h;cases h),fz:=λ b hb=>⟨hb,rfl⟩,pr:=hp,po:=λ b _ h=>h,sm:=Grow.refl _,df:=rfl,fx:=λ _ _=>rfl }
 ·have e1:∀t,(vs.toArray++Array.replicate (N - vs.toArray.size) undef).getD t undef=(vs++List.replicate (N - vs.length) undef).getD t undef:=λ t=>by
   rw [Array.getD_eq_getD_getElem?,List.getD_eq_getElem?_getD, <-Array.getElem?_toList]
   simp
  rw [e1]
  have h2:an (aA w (λ _=>⟨0,none,0,0⟩) Pr) (iL sig xs++List.replicate (N - sig.length) bA) (vs++List.replicate (N - vs.length) undef):=by
   refine an.append hr ?_
   rw [<-hl,gh]
   generalize N - sig.length=n
   induction n with
   |zero=>trivial
   |succ n ih=>exact ⟨trivial,ih⟩
  exact an.getD (r:=aA w (λ _=>⟨0,none,0,0⟩) Pr) (d:=bA) (e:=undef) trivial h2 t
 ·simp only [uR,List.length_append,List.length_replicate,Array.size_append,List.size_toArray,Array.size_replicate]
  omega
 ·exfalso
  unfold St.get uR at hk
  rw [List.getD_eq_getElem?_getD,List.getElem?_append] at hk
  split at hk
  ·rename_i hlt
   rw [List.getElem?_eq_getElem hlt] at hk
   exact iM (List.getElem_mem hlt) hk
  ·rw [List.getElem?_replicate] at hk
   split at hk<;>cases hk
section
variable {w0:World} {Fz av:Nat->Prop} {Lo:Nat->RL} {R:Nat->RL} {Pr:Nat->Prop} {σ:St} {a:Act} {w:World}
theorem vS {ob:Nat->Option Ob} {e:Ty} {v:AV} {vs ns:List Nat} {x:List e.D} (h:mO ob (.new e) v=some (vs,ns,x)):vs=[]/\((v=.cp (.one .nil)/\ns=[]/\x=[])\/∃κ,v=.cp (.one (.own κ))/\ns=[κ]/\ob κ=some (.vec e x)):=by
 simp only [mO] at h
 split at h
 ·rename_i κ
  split at h
  ·rename_i e' l ho
   revert h
   generalize Ty.dec e' e=d
   intro h
   cases d with
   |isFalse _=>cases h
   |isTrue he=>subst he;cases h;exact ⟨rfl,.inr ⟨κ,rfl,rfl,ho⟩⟩
  ·cases h
 ·cases h;exact ⟨rfl,.inl ⟨rfl,rfl,rfl⟩⟩
 ·cases h
theorem ue {o:LO} {ls:List LO} {v:AV} {κ:Nat} {u:Value} (h:qt o v=some κ) (hr:aA w R Pr v u):u=dP R κ (o::ls):=by
 unfold qt at h
 split at h
 ·cases h;exact hr
 ·cases h;exact hr
 ·cases h;exact hr
 ·cases h;exact hr
 ·cases h
theorem gQ (h:Inv w0 Fz av Lo R Pr σ a w) {Nw ak:Nat->Prop} (hp:∀b,Pr b->ak b):
 ∀(rs:List RT) (vs:List AV) (us:List Value) (views news:List Nat) (r:eC rs) (used:List Nat) (bs:Nat->Prop) (hge:∀κ∈news,∀o b,σ.ob κ=some o->bt w R κ o b->Nw b),iK σ.ob rs vs=some (views,news,r)->an (aA w R Pr) vs us->
  (∀κ∈views,∀e l,σ.ob κ=some (.vec e l)->real R κ (.vec e l)->ak (R κ).blk)->(∀κ∈news,∀o b,σ.ob κ=some o->bt w R κ o b-> ¬ak b)->(used++news).Nodup->
  (∀b,bs b->∃κ∈used,∃o,σ.ob κ=some o/\bt w R κ o b)->cB w Nw ak rs r us bs
 | [],[],[],views,news,r,used,bs,_,hr,_,_,_,_,_=>rfl
 | .d agg τ::rs,v::vs,u::us,views,news,r,used,bs,hge,hr,hu,hv,hn,hnd,hb=>by
   simp only [iK] at hr
   split at hr
   ·rename_i a1 n1 x a2 n2 xs h1 h2
    cases hr
    simp only [mO] at h1
    split at h1
    ·rename_i acc y hy
     cases h1
     exact ⟨u,us,rfl,rM h.ob hp hy (λ κ aa=>hv κ (List.mem_append_left _ aa)) hu.1,gQ h hp rs vs us a2 n2 xs used bs (λ κ aa=>hge κ (by simpa using aa)) h2 hu.2 (λ κ aa=>hv κ (List.mem_append_right _ aa)) (λ κ aa=>hn κ (by simpa using aa)) (by simpa using hnd) hb⟩
    ·cases h1
   ·cases hr
 | .new e::rs,v::vs,u::us,views,news,r,used,bs,hge,hr,hu,hv,hn,hnd,hb=>by
   simp only [iK] at hr
   split at hr
   ·rename_i a1 n1 x a2 n2 xs h1 h2
    cases hr
    obtain ⟨rfl,⟨rfl,rfl,rfl⟩|⟨κ,rfl,rfl,ho⟩⟩:=vS h1
    ·refine ⟨u,us,0,rfl,.inl ⟨hu.1,rfl⟩,λ hne=>(hne hu.1).elim, ?_⟩
     refine gQ h hp rs vs us a2 n2 xs used _ (λ κ aa=>hge κ (by simpa using aa)) h2 hu.2 (λ κ aa=>hv κ (by simpa using aa)) (λ κ aa=>hn κ (by simpa using aa)) (by simpa using hnd) (λ b hb'=> ?_)
     rcases hb' with hb'|⟨hb',_⟩
     ·exact hb b hb'
     ·exact (hb' hu.1).elim
    ·have ru:u=(R κ).aF:=hu.1
     have sq:∀blk,(u≠ .slice none 0 0->real R κ (.vec e x)/\blk=(R κ).blk)->cB w Nw ak rs xs us (λ b=>bs b\/(u≠ .slice none 0 0/\b=blk)):=λ blk hblk=>by
      refine gQ h hp rs vs us a2 n2 xs (used++[κ]) _ (λ af aa=>hge af (by simp [aa])) h2 hu.2 (λ κ aa=>hv κ (by simpa using aa)) (λ af aa=>hn af (by simp [aa])) (by simpa using hnd) (λ b hb'=> ?_)
      rcases hb' with hb'|⟨hb',rfl⟩
      ·obtain ⟨af,g1,g2⟩:=hb b hb'
       exact ⟨af,by simp [g1],g2⟩
      ·exact ⟨κ,by simp,_,ho,.inl (hblk hb')⟩
     obtain ⟨h0,hc⟩:=h.ob κ _ ho
     rcases hc with ⟨k1,k2⟩|⟨off,cap,cells,el,k1,k2,k3,k4,k5⟩
     ·exact ⟨u,us,0,rfl,.inl ⟨ru.trans k1,k2⟩,λ hne=>(hne (ru.trans k1)).elim,sq _ (λ hne=>(hne (ru.trans k1)).elim)⟩
     ·have aq:real R κ (.vec e x):=λ z=>by rw [z] at k1;cases k1
      refine ⟨u,us,(R κ).blk,rfl,.inr ⟨off,cap,cells,el,ru.trans k1,k2,k3,k4,hge κ (by simp) _ _ ho (.inl ⟨aq,rfl⟩),hn κ (by simp) _ _ ho (.inl ⟨aq,rfl⟩),λ i y hi=> ?_⟩,λ _ hmem=> ?_,sq _ (λ _=>⟨aq,rfl⟩)⟩
      ·obtain ⟨us',m1,m2⟩:=k5 i y hi
       exact ⟨us',m1,m2.move (λ _ _=>rfl) hp⟩
      ·obtain ⟨af,g1,o,g2,g3⟩:=hb _ hmem
       have hne:κ≠af:=λ e1=>by
        subst e1
        exact (List.nodup_append.1 hnd).2.2 κ g1 κ (by simp) rfl
       exact h.eG ho g2 hne (.inl ⟨aq,rfl⟩) g3
   ·cases hr
 | .obj o ls::rs,v::vs,u::us,views,news,r,used,bs,hge,hr,hu,hv,hn,hnd,hb=>by
   simp only [iK] at hr
   split at hr
   ·rename_i a1 n1 x a2 n2 xs h1 h2
    cases hr
    simp only [mO] at h1
    split at h1
    ·rename_i κ aa
     split at h1
     ·rename_i acc x' ht
      have h1:=Prod.mk.inj (Option.some.inj h1)
      have h1':=Prod.mk.inj h1.2
      obtain ⟨rfl,rfl,rfl⟩:acc=a1/\κ::bW σ.ob κ (o::ls)=n1/\x'=x:=⟨h1.1,h1'.1,h1'.2⟩
      generalize hks:bW σ.ob κ (o::ls)=ks at *
      have BQ:(κ::ks).Nodup:=(List.nodup_append.1 (List.nodup_append.1 hnd).2.1).1
      have hsep:=h.oK hp ht BQ (λ κ aa=>hv κ (List.mem_append_left _ aa)) (λ κ aa=>hn κ (List.mem_append_left _ aa))
      have hlen:=iF ht
      have fN:=λ {i ah o1} (hi:(aX ks (κ::ks) (o::ls) x')[i]?=some (ah,o1))=>(jF (ak:=λ _=>True) h.ob (λ _ _=>trivial) ht (λ _ _ _ _ _ _=>trivial) hi).2
      let L:Nat->RL:=λ j=>R ((κ::ks).getD j 0)
      have hsame:an (λ k k'=>L k'=R k) (κ::ks) (rg (o::ls)):=fm hlen λ i k hk=>by
       show R ((κ::ks).getD (0+i) 0)=R k
       rw [Nat.zero_add,List.getD_eq_getElem?_getD,hk];rfl
      have dz:an (λ k k'=>L k'=R k) ks (rg (o::ls)).tail:=by
       revert hsame
       cases rg (o::ls) with
       |nil=>exact λ z=>z.elim
       |cons _ _=>exact λ z=>z.2
      have jP:∀b,Bl w L (bz (o::ls) x') b->∃ah∈κ::ks,∃o1,σ.ob ah=some o1/\bt w R ah o1 b:=λ b hb=>by
       obtain ⟨i,ah,o1,hi,aM⟩:=Bl.relabel dz hsame hb
       obtain ⟨o2,q1,q2⟩:=fN hi
       exact ⟨ah,List.mem_of_getElem? (fB hi).1,o2,q1,q2.nZ.1 aM⟩
      refine ⟨u,us,L,rfl,(ue (ls:=ls) aa hu.1).trans (by cases o<;>rfl),Sep.relabel dz hsame hsep,λ b hb'=> ?_,gQ h hp rs vs us a2 n2 xs (used++(κ::ks)) _ (λ af aa=>hge af (List.mem_append_right _ aa)) h2 hu.2 (λ κ aa=>hv κ (List.mem_append_right _ aa)) (λ af aa=>hn af (List.mem_append_right _ aa)) (by simpa using hnd) (λ b hb'=> ?_)⟩
      ·obtain ⟨ah,m1,o1,m2,m3⟩:=jP b hb'
       refine ⟨hge ah (List.mem_append_left _ m1) o1 b m2 m3,λ z=> ?_⟩
       obtain ⟨af,g1,o',g2,g3⟩:=hb b z
       exact h.eG m2 g2 (λ e=>(List.nodup_append.1 hnd).2.2 af g1 ah (List.mem_append_left _ m1) e.symm) m3 g3
      ·rcases hb' with hb'|hb'
       ·obtain ⟨af,g1,g2⟩:=hb b hb'
        exact ⟨af,List.mem_append_left _ g1,g2⟩
       ·obtain ⟨ah,m1,m2⟩:=jP b hb'
        exact ⟨ah,List.mem_append_right _ m1,m2⟩
     ·cases h1
    ·cases h1
   ·cases hr
 | [],_::_,_,_,_,_,_,_,_,hr,_,_,_,_,_=>by simp [iK] at hr
 |_::_,[],_,_,_,_,_,_,_,hr,_,_,_,_,_=>by simp [iK] at hr
 |_::_,_::_,[],_,_,_,_,_,_,_,hu,_,_,_,_=>hu.elim
 | [],[],_::_,_,_,_,_,_,_,_,hu,_,_,_,_=>hu.elim
end
theorem zx {P:Program} {T:bh} (hT:bC P T) {w0:World} {Fz av:Nat->Prop} {Lo:Nat->RL} {R:Nat->RL} {Pr:Nat->Prop} {σ:St} {a:Act} {w:World} (h:Inv w0 Fz av Lo R Pr σ a w):∀(r:RV),r.ok (r.ev T σ)=true->
 ∃u,(match r with| .tmp t=>(pure (a.tmps.getD t undef):Sem Value)| .cell b t=>do loadVar t (<-asAddr (a.tmps.getD b undef))).run P w=.ok u w/\aA w R Pr (r.ev T σ) u
 | .tmp t,_=>⟨_,rfl,h.tm t⟩
 | .cell b t,hok=>by
   have hb:=h.tm b
   simp only [RV.ev] at hok ⊢
   split at hok
   ·rename_i κ off e
    rw [e] at hb
    have hb:a.tmps.getD b undef=.pointer (some ⟨(R κ).blk,off,none⟩):=hb
    cases hl:ia T σ.ob t (.ptr κ off) with
    |none=>rw [hl] at hok;cases hok
    |some out=>
     obtain ⟨u,k1,k2,_⟩:=l7 hT h.ob hl (show au w R Pr (.ptr κ off) (.pointer (some ⟨(R κ).blk,off,none⟩)) from rfl)
     refine ⟨u, ?_,k2⟩
     rw [hb]
     exact k1
   ·cases hok
theorem uq {P:Program} {w:World} {R:Nat->RL} {Pr:Nat->Prop} (g:ResultVar->Sem Value) (ev:RV->AV):∀(l:List RV),(∀r∈l,∃u,(g r.var).run P w=.ok u w/\aA w R Pr (ev r) u)->∃us,((l.map RV.var).mapM g).run P w=.ok us w/\an (aA w R Pr) (l.map ev) us
 | [],_=>⟨[],rfl,trivial⟩
 |r::l,h=>by
  obtain ⟨u,k1,k2⟩:=h r (List.mem_cons_self ..)
  obtain ⟨us,k3,k4⟩:=uq g ev l λ x hx=>h x (List.mem_cons_of_mem _ hx)
  refine ⟨u::us, ?_,k2,k4⟩
  simp only [List.map_cons,List.mapM_cons,Sem.run_bind,Sem.run_pure,Result.andThen_ok,k1,k3]
theorem tC {T:bh} {σ:St}:∀{l:List RV},lu T σ l=true->∀r∈l,r.ok (r.ev T σ)=true
 |r::l,h,x,hx=>by
  simp only [lu,Bool.and_eq_true] at h
  rcases List.mem_cons.1 hx with rfl|hx
  ·exact h.1
  ·exact tC h.2 x hx
theorem mN {P:Program} {T:bh} (hT:bC P T) {w0:World} {Fz av:Nat->Prop} {Lo:Nat->RL} {R:Nat->RL} {Pr:Nat->Prop} {σ:St} {a:Act} {w:World} (h:Inv w0 Fz av Lo R Pr σ a w) {fn:Func} {ts:List RV} (hres:fn.results=(ts.map RV.var).toArray) (hok:lu T σ ts=true):
 ∃us,(results fn a.tmps).run P w=.ok (dR us) w/\an (aA w R Pr) (ts.map (RV.ev T σ)) us:=by
 unfold results
 rw [hres]
 simp only [Array.mapM_eq_mapM_toList,Sem.run_bind,Sem.run_map]
 generalize hg:(λ x:ResultVar=>(match x with
  | .tmp t=>pure (a.tmps.getD t undef)
  | .cell b t=>do loadVar t (<-asAddr (a.tmps.getD b undef)):Sem Value))=g
 obtain ⟨us,k1,k2⟩:=uq (P:=P) (w:=w) (R:=R) (Pr:=Pr) g (RV.ev T σ) ts λ r hr=>by
  obtain ⟨u,g1,g2⟩:=zx hT h r (tC hok r hr)
  refine ⟨u, ?_,g2⟩
  rw [<-hg]
  cases r<;>exact g1
 refine ⟨us, ?_,k2⟩
 have hg':g=_:=hg.symm
 refine Eq.trans (congrArg (λ x=>(Result.andThen x _)) (congrArg (λ x=>Result.andThen x _) (Eq.trans (by rw [hg']) k1))) ?_
 simp only [Result.andThen_ok,Sem.run_pure]
 congr 1
 cases us with
 |nil=>rfl
 |cons t ts=>
  cases ts with
  |nil=>rfl
  |cons t2 ts=>rfl
theorem AL {P:Program} {T:bh} {Y:dZ} {E:Env} {A:oM} {k:Nat} (hT:bC P T) (hE:bR P E) (dW:dH P E) (hm:P.follows .mixedOrders=true) {f:FuncId} {fn:Func} {c:Code} {ts:List RV} {sig:List PT} {rs:List RT} {M:Nat}
 (hf:P.funcs[f]?=some fn) (hb:fn.body=some c) (hres:fn.results=(ts.map RV.var).toArray) (hN:sig.length<=fn.ntmps) (aF:eT c=true):
 cT P f sig rs (λ xs=>den T Y E A k c 0 (uR fn.ntmps M sig xs) (zw T rs ts)):=by
 intro xs r hr w Pr vs hp ha
 refine calls_of_wp hf hb ?_
 have h0:=zu (M:=M) hp ha hN
 refine cQ hT hE dW (λ b hb=>.inl hb) hm r c aF 0 _ _ _ Pr _ w _ h0 hr ?_
 intro e σ R hD a w' h hk
 have fin:(match lu T σ ts,iK σ.ob rs (ts.map (RV.ev T σ)) with
  |true,some (vs,ns,r)=>match p0 vs ns with
   |true=>some r
   |false=>none
  |_,_=>none)=some r->a.defers=[]/\∃v,(results fn a.tmps).run P w'=.ok v w'/\∃ak us,Ending.returned v=.returned (dR us)/\(∀b,b <w.heap.size->w'.heap[b]?=w.heap[b]?)/\Grow w w'/\(∀b,Pr b->ak b)/\
   (∀b,ak b->b <w.heap.size->Pr b)/\(∀b,ak b->b <w'.heap.size)/\cB w' (λ b=>w.heap.size<=b) ak rs r us (λ _=>False):=λ hk=>by
  split at hk
  ·rename_i views ns r' yf s6
   split at hk
   ·rename_i hok
    cases hk
    obtain ⟨o1,o2⟩:=lq hok
    obtain ⟨us,hrun,fD⟩:=mN hT h hres yf
    refine ⟨h.df,_,hrun,λ b=>hD b\/Pr b\/∃κ∈views,∃e l,σ.ob κ=some (.vec e l)/\real R κ (.vec e l)/\b=(R κ).blk,_,rfl,λ b hb=>(h.fz b hb).2,h.sm,λ b hb=>.inr (.inl hb),λ b hb hlt=> ?_,λ b hb=> ?_, ?_⟩
    ·rcases hb with hb|hb|⟨κ,aa,e,l,g1,g2,rfl⟩
     ·exact h.po b hlt hb
     ·exact hb
     ·exact ((h.un κ _ g1 g2).2 hlt).elim
    ·rcases hb with hb|hb|⟨κ,aa,e,l,g1,g2,rfl⟩
     ·exact h.pr b hb
     ·have:=hp b hb;have:=h.sm.sz;omega
     ·exact az.lt g2 (h.ob κ _ g1)
    ·refine gQ h (λ b hb=>.inl hb) rs _ _ views ns _ [] _ (λ κ _ o b g1 g2=>Nat.le_of_not_lt (λ z=>(h.dD g1 g2).2 z)) s6 fD (λ κ aa e l g1 g2=>.inr (.inr ⟨κ,aa,e,l,g1,g2,rfl⟩)) (λ κ aa o b g1 g2 hb=> ?_) (by simpa using o1) (λ b hb=>hb.elim)
     have hun:=h.dD g1 g2
     rcases hb with hb|hb|⟨af,aD,e',l',g3,g4,g5⟩
     ·exact hun.1 hb
     ·exact hun.2 (hp _ hb)
     ·exact h.eG g1 g3 (λ e1=>o2 κ aa (e1▸aD)) g2 (.inl ⟨g4,g5⟩)
   ·cases hk
  ·cases hk
 cases e with
 |nx=>exact fin hk
 |ret=>exact fin hk
 |exit id=>simp only [zw] at hk;cases hk
def pE:List LO->AV
 | .box _::_=>.cp (.one (.ptr 0 0))
 | .row _::_=>.cp (.one (.own 0))
 | .rows _::_=>.cp (.one (.own 0))
 | .map _ _::_=>.cp (.one (.mp 0))
 | []=>bA
def gy (ks:List Nat):(ls:List LO)->cv ls->List (Option Ob)
 | [],_=>[]
 |o::r,x=>some (o.ob ks x.1)::gy ks r x.2
def gU (N M pos:Nat) (ls:List LO) (x:cv ls) (sig:List PT) (xs:DL sig):St:=⟨((iL sig xs).take pos++pE ls::(iL sig xs).drop pos)++List.replicate (N - 1 - sig.length) bA,gy (rg ls).tail ls x++List.replicate (M - ls.length) none⟩
def AP (aT:Bool) (ob:Nat->Option Ob) (ls:List LO):List Nat:=match aT with
 |true=>rg ls
 |false=>0::bW ob 0 ls
def qz (aT:Bool) (ls:List LO):Nat:=match aT with
 |true=>ls.length
 |false=>match iz false ls with
  |true=>0
  |false=>1
theorem an.split {α β:Type} {r:α->β->Prop}:∀{a c:List α} {l:List β},an r (a++c) l->∃l1 l2,l=l1++l2/\an r a l1/\an r c l2
 | [],c,l,h=>⟨[],l,rfl,trivial,h⟩
 |x::a,c,y::l,h=>by
  obtain ⟨l1,l2,rfl,h1,h2⟩:=an.split (a:=a) h.2
  exact ⟨y::l1,l2,rfl,⟨h.1,h1⟩,h2⟩
def pP:List AV->Option (List AV×AV)
 | []=>none
 | [v]=>some ([],v)
 |v::r=>match pP r with
  |some (l,x)=>some (v::l,x)
  |none=>none
theorem tr:∀{l m:List AV} {x:AV},pP l=some (m,x)->l=m++[x]
 | [v],m,x,h=>by simp only [pP] at h;cases h;rfl
 |v::u::r,m,x,h=>by
  rw [pP] at h
  ·split at h
   ·rename_i l y e
    cases h
    rw [tr e];rfl
   ·cases h
  ·intro z;cases z
def pF (pos:Nat) (aT:Bool) (ob:Nat->Option Ob) (ls:List LO) (vs:List AV):Option (List Nat×List AV):=match iz aT ls with
 |false=>some (AP aT ob ls,vs)
 |true=>match pos with
  | 0=>match vs with
    | .cp (.one (.own κ))::r=>some ([κ],r)
    |_=>none
  |_+1=>match pP vs with
   |some (r,.cp (.one (.own κ)))=>some ([κ],r)
   |_=>none
def yF (T:bh) (pos:Nat) (aT:Bool) (ls:List LO) (rs:List RT) (ts:List RV):eN (cv ls×eC rs)
 | .exit _,_=>none
 |_,σ=>match lu T σ ts && (qz aT ls).ble (σ.objs.length % 16),pF pos aT σ.ob ls (ts.map (RV.ev T σ)) with
  |true,some (K,oa)=>match cE σ.ob K.tail K ls,iK σ.ob rs oa with
   |some (v1,y),some (vs,ns,r)=>match p0 (v1++vs) (K++ns) with
    |true=>some (y,r)
    |false=>none
   |_,_=>none
  |_,_=>none
theorem A5 {ls:List LO} {i κ:Nat}:(rg ls)[i]?=some κ↔i=κ/\κ <ls.length:=by
 unfold rg
 by_cases h:i <ls.length
 ·rw [List.getElem?_range' h]
  simp only [Option.some.injEq];omega
 ·rw [List.getElem?_eq_none (by simp;omega)]
  simp only [reduceCtorEq,false_iff];omega
theorem AA {ls:List LO} {κ:Nat}:κ∈rg ls↔κ <ls.length:=by unfold rg;rw [List.mem_range'_1];omega
theorem mK {ks:List Nat}:∀(ls:List LO) (x:cv ls),(gy ks ls x).length=ls.length
 | [],_=>rfl
 |o::r,x=>by simp only [gy,List.length_cons];rw [mK r x.2]
theorem mJ {ks:List Nat}:∀{ls:List LO} {x:cv ls} {s i:Nat} {o1:Option Ob},(gy ks ls x)[i]?=some o1->∃o,o1=some o/\(aX ks (List.range' s ls.length) ls x)[i]?=some (s+i,o)
 | [],_,_,_,_,h=>by simp [gy] at h
 |lo::ls,x,s,i,o1,h=>by
  cases i with
  |zero=>
   simp only [gy,List.getElem?_cons_zero,Option.some.injEq] at h
   exact ⟨_,h.symm,rfl⟩
  |succ i=>
   simp only [gy,List.getElem?_cons_succ] at h
   obtain ⟨o,h1,h2⟩:=mJ (s:=s+1) h
   exact ⟨o,h1,by rw [show s+(i+1)=s+1+i by omega];exact h2⟩
theorem yE {w:World} {Pr:Nat->Prop} {pos:Nat} {ls:List LO} {x:cv ls} {sig:List PT} {xs:DL sig} {vs:List Value} {N M:Nat} {Lo:Nat->RL} (hp:∀b,Pr b->b <w.heap.size) (hS:Sep w Lo Pr (bz ls x)) (ha:ff w Pr sig xs vs) (hN:sig.length+1<=N) (hpos:pos<=sig.length):
 Inv w (λ b=>b <w.heap.size/\ ¬Bl w Lo (bz ls x) b) (λ b=>Pr b\/Bl w Lo (bz ls x) b) Lo Lo Pr (gU N M pos ls x sig xs) { tmps:=(vs.take pos++dP Lo 0 ls::vs.drop pos).toArray++Array.replicate (N - (vs.take pos++dP Lo 0 ls::vs.drop pos).toArray.size) undef,defers:=[] } w:=by
 have hr:=lT (R:=Lo) ha
 have hl:=hr.length
 have gh:=lS sig xs
 have hvl:vs.length=sig.length:=hl.symm.trans gh
 have fH:∀κ o,(gU N M pos ls x sig xs).ob κ=some o->(bz ls x)[κ]?=some (κ,o):=λ κ o h=>by
  unfold St.ob gU at h
  simp only [List.getD_eq_getElem?_getD,List.getElem?_append] at h
  split at h
  ·rename_i hlt
   cases hx:(gy (rg ls).tail ls x)[κ]? with
   |none=>rw [hx] at h;cases h
   |some o1=>
    rw [hx] at h
    simp only [Option.getD_some] at h
    subst h
    obtain ⟨o2,h1,h2⟩:=mJ (s:=0) hx
    cases h1
    rw [Nat.zero_add] at h2
    exact h2
  ·rw [List.getElem?_replicate] at h
   split at h<;>cases h
 have xd:∀κ,κ <ls.length->(gU N M pos ls x sig xs).ob κ≠none:=λ κ aa=>by
  unfold St.ob gU
  simp only [List.getD_eq_getElem?_getD,List.getElem?_append]
  rw [if_pos (by rw [mK];exact aa)]
  have hx:(gy (rg ls).tail ls x)[κ]?=some ((gy (rg ls).tail ls x)[κ]'(by rw [mK];exact aa)):=List.getElem?_eq_getElem _
  obtain ⟨o2,h1,_⟩:=mJ (s:=0) hx
  rw [hx,h1];simp
 have AZ:∀κ∈(rg ls).tail,κ <ls.length:=λ κ aa=>AA.1 (List.mem_of_mem_tail aa)
 have vB:∀κ∈(pE ls).refs,κ=0/\0 <ls.length:=λ κ aa=>by
  cases ls with
  |nil=>simp [pE,AV.refs,Cp.refs,C.refs] at aa
  |cons o r=>cases o<;>simp [pE,AV.refs,Cp.refs,C.refs] at aa<;>simp [aa]
 have Cx:aA w Lo Pr (pE ls) (dP Lo 0 ls):=by
  cases ls with
  |nil=>exact trivial
  |cons o r=>cases o<;>exact rfl
 have hmem:∀v∈(gU N M pos ls x sig xs).tmps,∀κ∈v.refs,κ=0/\0 <ls.length:=λ v hv κ aa=>by
  simp only [gU,List.mem_append,List.mem_cons] at hv
  rcases hv with (hv|hv|hv)|hv
  ·exact (iM (List.mem_of_mem_take hv) aa).elim
  ·subst hv;exact vB κ aa
  ·exact (iM (List.mem_of_mem_drop hv) aa).elim
  ·rw [List.eq_of_mem_replicate hv] at aa;cases aa
 have jP:∀κ o b,(gU N M pos ls x sig xs).ob κ=some o->bt w Lo κ o b->Bl w Lo (bz ls x) b:=λ κ o b h aM=>⟨κ,κ,o,fH κ o h,aM⟩
 obtain ⟨q1,q2,q3⟩:=qA (w:=w) (R:=Lo) (Pr:=Pr) (Fz:=λ b=>b <w.heap.size/\ ¬Bl w Lo (bz ls x) b) (ob:=(gU N M pos ls x sig xs).ob) (λ κ o b h aM=>⟨hS.un κ κ o b (fH κ o h) aM,λ z=>z.2 (jP κ o b h aM)⟩)
  (λ κ af o o' b h h' hne aM=>hS.ds κ af κ o af o' b (fH κ o h) (fH af o' h') hne aM) (λ κ o h aq=>hS.own κ κ o (fH κ o h) aq)
 refine { tm:=λ t=> ?_,sz:= ?_,ob:=λ κ o h=>hS.ob κ κ o (fH κ o h),un:=q1,ds:=q2,wt:=λ t κ hk=> ?_,wo:=λ af o κ h hk=> ?_,fz:=λ b hb=>⟨hb.1,rfl⟩,pr:=hp,po:=λ b _ h=>.inl h,sm:=Grow.refl _,df:=rfl,fx:=λ _ _=>rfl,lm:=q3 }
 ·have e1:((vs.take pos++dP Lo 0 ls::vs.drop pos).toArray++Array.replicate (N - (vs.take pos++dP Lo 0 ls::vs.drop pos).toArray.size) undef).getD t undef=((vs.take pos++dP Lo 0 ls::vs.drop pos)++List.replicate (N - (vs.length+1)) undef).getD t undef:=by
   have e2:(vs.take pos++dP Lo 0 ls::vs.drop pos).length=vs.length+1:=by simp;omega
   rw [Array.getD_eq_getD_getElem?,List.getD_eq_getElem?_getD, <-Array.getElem?_toList]
   simp only [Array.toList_append,Array.toList_replicate,List.size_toArray,e2]
  rw [e1]
  have hall:an (aA w Lo Pr) (gU N M pos ls x sig xs).tmps ((vs.take pos++dP Lo 0 ls::vs.drop pos)++List.replicate (N - (vs.length+1)) undef):=by
   refine an.append (an.append (hr.take pos) ⟨Cx,hr.drop pos⟩) ?_
   rw [show N - 1 - sig.length=N - (vs.length+1) by omega]
   generalize N - (vs.length+1)=n
   induction n with
   |zero=>exact trivial
   |succ n ih=>exact ⟨trivial,ih⟩
  exact hall.getD (show aA w _ Pr bA undef from trivial) t
 ·simp only [gU,List.length_cons,List.length_append,List.length_replicate,Array.size_append,Array.size_replicate,List.size_toArray,List.length_take,List.length_drop]
  omega
 ·unfold St.get at hk
  rw [List.getD_eq_getElem?_getD] at hk
  cases hx:(gU N M pos ls x sig xs).tmps[t]? with
  |none=>rw [hx] at hk;cases hk
  |some v=>
   rw [hx] at hk
   obtain ⟨rfl,h0⟩:=hmem v (List.mem_of_getElem? hx) κ hk
   exact xd 0 h0
 ·exact xd κ (AZ κ ((fB (fH af o h)).2.2 κ hk))
theorem we {L R:Nat->RL}:∀{l:List Nat},(∀k∈l,L k=R k)->an (λ k k'=>L k'=R k) l l
 | [],_=>trivial
 |k::l,h=>⟨h k (List.mem_cons_self ..),we λ k' hk=>h k' (List.mem_cons_of_mem _ hk)⟩
theorem AM {P:Program} {T:bh} {Y:dZ} {E:Env} {A:oM} {k:Nat} (hT:bC P T) (hE:bR P E) (dW:dH P E) (hm:P.follows .mixedOrders=true) {f:FuncId} {fn:Func} {c:Code} {ts:List RV} {pos:Nat} {aT:Bool} {ls:List LO} {sig:List PT} {rs:List RT} {M:Nat}
 (hf:P.funcs[f]?=some fn) (hb:fn.body=some c) (hres:fn.results=(ts.map RV.var).toArray) (hN:sig.length+1<=fn.ntmps) (aF:eT c=true) (hpos:pos<=sig.length):
 gV P f pos aT ls sig rs (λ x xs=>den T Y E A k c 0 (gU fn.ntmps M pos ls x sig xs) (yF T pos aT ls rs ts)):=by
 intro x xs y r hr w Pr vs Lo hp hS ha
 refine calls_of_wp hf hb ?_
 have h0:=yE (M:=M) (pos:=pos) hp hS ha hN hpos
 refine cQ hT hE dW (λ b hb=>by
  by_cases e:Bl w Lo (bz ls x) b
  ·exact .inr (.inr e)
  ·exact .inl ⟨hb,e⟩) hm (y,r) c aF 0 _ _ _ Pr _ w _ h0 hr ?_
 intro e σ R hD a w' h hk
 have done:∀(K:List Nat) (oa:List AV) (v1 views ns:List Nat) (y:cv ls) (r:eC rs),(lu T σ ts && (qz aT ls).ble (σ.objs.length % 16))=true->pF pos aT σ.ob ls (ts.map (RV.ev T σ))=some (K,oa)->cE σ.ob K.tail K ls=some (v1,y)->iK σ.ob rs oa=some (views,ns,r)->p0 (v1++views) (K++ns)=true->a.defers=[]/\∃v,(results fn a.tmps).run P w'=.ok v w'/\∃ak rv cH,Ending.returned v=.returned (dR (pl pos (gD aT ls cH) rv))/\(∀i,i <ls.length->(aT=true\/(i=0/\iz aT ls=false))->cH i=Lo i)/\(∀b,b <w.heap.size-> ¬Bl w Lo (bz ls x) b->w'.heap[b]?=w.heap[b]?)/\Grow w w'/\(∀b,Pr b->ak b)/\
  (∀b,ak b->b <w.heap.size->Pr b\/Bl w Lo (bz ls x) b)/\(∀b,ak b->b <w'.heap.size)/\Sep w' cH ak (bz ls y)/\(∀b,Bl w' cH (bz ls y) b->Bl w Lo (bz ls x) b\/w.heap.size<=b)/\
  cB w' (λ b=>w.heap.size<=b\/Bl w Lo (bz ls x) b) ak rs r rv (Bl w' cH (bz ls y)):=by
  intro K oa v1 views ns y r vH hhx mA s6 hok
  obtain ⟨yf,BL⟩:=Bool.and_eq_true_iff.1 vH
  have hle:qz aT ls<=σ.objs.length % 16:=Nat.le_of_ble_eq_true BL
  obtain ⟨o1,o2⟩:=lq hok
  obtain ⟨j0,hrun,qx⟩:=mN hT h hres yf
  obtain ⟨us,yg,fD,Ck⟩:∃us,j0=pl pos (gD aT ls (λ j=>R (K.getD j 0))) us/\an (aA w' R hD) oa us/\∀i,i <ls.length->(aT=true\/(i=0/\iz aT ls=false))->K.getD i 0=i/\i <qz aT ls:=by
   have Bh:iz true ls=false:=by
    cases ls with
    |nil=>rfl
    |cons o _=>cases o<;>rfl
   cases hm1:iz aT ls with
   |false=>
    simp only [pF,hm1,Option.some.injEq,Prod.mk.injEq] at hhx
    obtain ⟨hK,rfl⟩:=hhx
    refine ⟨j0, ?_,qx,λ i hi hpi=> ?_⟩
    ·unfold gD;rw [hm1];cases pos<;>simp [pl]
    ·cases aT with
     |true=>
      rw [<-hK]
      refine ⟨?_,hi⟩
      show (rg ls).getD i 0=i
      rw [List.getD_eq_getElem?_getD,A5.2 ⟨rfl,hi⟩];rfl
     |false=>
      rcases hpi with z|⟨rfl,_⟩
      ·cases z
      ·rw [<-hK]
       refine ⟨rfl, ?_⟩
       unfold qz;rw [hm1];exact Nat.one_pos
   |true=>
    simp only [pF,hm1] at hhx
    split at hhx
    ·split at hhx
     ·rename_i κ rest hts
      simp only [Option.some.injEq,Prod.mk.injEq] at hhx
      obtain ⟨rfl,rfl⟩:=hhx
      rw [hts] at qx
      cases j0 with
      |nil=>exact qx.elim
      |cons u j0=>
       obtain ⟨hu,yg⟩:=qx
       refine ⟨j0, ?_,yg,λ i hi hpi=> ?_⟩
       ·unfold gD;rw [hm1]
        show u::j0=(R κ).aF::j0
        rw [show u=(R κ).aF from hu]
       ·rcases hpi with rfl|⟨_,z⟩
        ·rw [Bh] at hm1;cases hm1
        ·cases z
     ·cases hhx
    ·split at hhx
     ·rename_i rest κ hts
      simp only [Option.some.injEq,Prod.mk.injEq] at hhx
      obtain ⟨rfl,rfl⟩:=hhx
      rw [tr hts] at qx
      obtain ⟨yD,xM,rfl,ru,eP⟩:=an.split qx
      cases xM with
      |nil=>exact eP.elim
      |cons u xM=>
       obtain ⟨hu,CI⟩:=eP
       cases xM with
       |cons _ _=>exact CI.elim
       |nil=>
        refine ⟨yD, ?_,ru,λ i hi hpi=> ?_⟩
        ·unfold gD;rw [hm1]
         show yD++[u]=yD++[(R κ).aF]
         rw [show u=(R κ).aF from hu]
        ·rcases hpi with rfl|⟨_,z⟩
         ·rw [Bh] at hm1;cases hm1
         ·cases z
     ·cases hhx
  have hnd:K.Nodup:=(List.nodup_append.1 o1).1
  have hlen:K.length=ls.length:=iF mA
  have hnew:∀κ o b,σ.ob κ=some o->bt w' R κ o b->w.heap.size<=b\/Bl w Lo (bz ls x) b:=λ κ o b g1 g2=>by
   rcases Nat.lt_or_ge b w.heap.size with g|g
   ·by_cases e:Bl w Lo (bz ls x) b
    ·exact .inr e
    ·exact ((h.dD g1 g2).2 ⟨g,e⟩).elim
   ·exact .inl g
  have BH:∀κ o b,σ.ob κ=some o->bt w' R κ o b-> ¬Pr b:=λ κ o b g1 g2 hb=>by
   rcases hnew κ o b g1 g2 with g|⟨i,af,o',g3,g4⟩
   ·have:=hp b hb;omega
   ·exact hS.un i af o' b g3 g4 hb
  let ak:Nat->Prop:=λ b=>hD b\/Pr b\/∃κ∈v1++views,∃e l,σ.ob κ=some (.vec e l)/\real R κ (.vec e l)/\b=(R κ).blk
  have hun:∀κ o b,κ∉v1++views->σ.ob κ=some o->bt w' R κ o b-> ¬ak b:=λ κ o b hn g1 g2 hb=>by
   rcases hb with hb|hb|⟨af,aD,e',l',g3,g4,g5⟩
   ·exact (h.dD g1 g2).1 hb
   ·exact BH κ o b g1 g2 hb
   ·exact h.eG g1 g3 (λ e1=>hn (e1▸aD)) g2 (.inl ⟨g4,g5⟩)
  have hsep:Sep w' R ak (aX K.tail K ls y):=h.oK (λ b hb=>.inl hb) mA hnd (λ κ aa e l g1 g2=>.inr (.inr ⟨κ,List.mem_append_left _ aa,e,l,g1,g2,rfl⟩)) (λ κ aa o b g1 g2=>hun κ o b (λ z=>o2 κ (List.mem_append_left _ aa) z) g1 g2)
  have fN:=λ {i ah o1} (hi:(aX K.tail K ls y)[i]?=some (ah,o1))=>(jF (ak:=λ _=>True) h.ob (λ _ _=>trivial) mA (λ _ _ _ _ _ _=>trivial) hi).2
  let L:Nat->RL:=λ j=>R (K.getD j 0)
  have hsame:an (λ k k'=>L k'=R k) K (rg ls):=fm hlen λ i k hk=>by
   show R (K.getD (0+i) 0)=R k
   rw [Nat.zero_add,List.getD_eq_getElem?_getD,hk];rfl
  have dz:an (λ k k'=>L k'=R k) K.tail (rg ls).tail:=by
   revert hsame
   cases K with
   |nil=>
    cases rg ls with
    |nil=>exact λ _=>trivial
    |cons _ _=>exact λ z=>z.elim
   |cons _ _=>
    cases rg ls with
    |nil=>exact λ z=>z.elim
    |cons _ _=>exact λ z=>z.2
  have jP:∀b,Bl w' L (bz ls y) b->∃ah∈K,∃o1,σ.ob ah=some o1/\bt w' R ah o1 b:=λ b hb=>by
   obtain ⟨i,ah,o1,hi,aM⟩:=Bl.relabel dz hsame hb
   obtain ⟨o2,q1,q2⟩:=fN hi
   exact ⟨ah,List.mem_of_getElem? (fB hi).1,o2,q1,q2.nZ.1 aM⟩
  refine ⟨h.df,_,hrun,ak,us,L,by rw [yg],λ i hi hpi=> ?_,λ b hb hne=>(h.fz b ⟨hb,hne⟩).2,h.sm,λ b hb=>.inr (.inl hb),λ b hb hlt=> ?_,λ b hb=> ?_,Sep.relabel dz hsame hsep,λ b hb=> ?_, ?_⟩
  ·obtain ⟨q1,q2⟩:=Ck i hi hpi
   show R (K.getD i 0)=Lo i
   rw [q1];exact h.fx i (by omega)
  ·rcases hb with hb|hb|⟨κ,aa,e,l,g1,g2,rfl⟩
   ·exact h.po b hlt hb
   ·exact .inl hb
   ·rcases hnew κ _ _ g1 (.inl ⟨g2,rfl⟩) with g|g
    ·omega
    ·exact .inr g
  ·rcases hb with hb|hb|⟨κ,aa,e,l,g1,g2,rfl⟩
   ·exact h.pr b hb
   ·have:=hp b hb;have:=h.sm.sz;omega
   ·exact az.lt g2 (h.ob κ _ g1)
  ·obtain ⟨ah,_,o1,q1,q2⟩:=jP b hb
   exact (hnew ah o1 b q1 q2).symm
  ·exact gQ h (λ b hb=>.inl hb) rs _ _ views ns _ K _ (λ κ aa o b g1 g2=>hnew κ o b g1 g2) s6 fD (λ κ aa e l g1 g2=>.inr (.inr ⟨κ,List.mem_append_right _ aa,e,l,g1,g2,rfl⟩)) (λ κ aa o b g1 g2=>hun κ o b (λ z=>o2 κ (List.mem_append_right _ aa) z) g1 g2) o1 jP
 have fin:(match lu T σ ts && (qz aT ls).ble (σ.objs.length % 16),pF pos aT σ.ob ls (ts.map (RV.ev T σ)) with
  |true,some (K,oa)=>match cE σ.ob K.tail K ls,iK σ.ob rs oa with
   |some (v1,y),some (vs,ns,r)=>match p0 (v1++vs) (K++ns) with
    |true=>some (y,r)
    |false=>none
   |_,_=>none
  |_,_=>none)=some (y,r)->a.defers=[]/\∃v,(results fn a.tmps).run P w'=.ok v w'/\∃ak rv cH,Ending.returned v=.returned (dR (pl pos (gD aT ls cH) rv))/\(∀i,i <ls.length->(aT=true\/(i=0/\iz aT ls=false))->cH i=Lo i)/\(∀b,b <w.heap.size-> ¬Bl w Lo (bz ls x) b->w'.heap[b]?=w.heap[b]?)/\Grow w w'/\(∀b,Pr b->ak b)/\
   (∀b,ak b->b <w.heap.size->Pr b\/Bl w Lo (bz ls x) b)/\(∀b,ak b->b <w'.heap.size)/\Sep w' cH ak (bz ls y)/\(∀b,Bl w' cH (bz ls y) b->Bl w Lo (bz ls x) b\/w.heap.size<=b)/\
   cB w' (λ b=>w.heap.size<=b\/Bl w Lo (bz ls x) b) ak rs r rv (Bl w' cH (bz ls y)):=λ hk=>by
  split at hk
  ·rename_i K oa vH hhx
   split at hk
   ·rename_i v1 y' views ns r' mA s6
    split at hk
    ·rename_i hok
     cases hk
     exact done K oa v1 views ns y r vH hhx mA s6 hok
    ·cases hk
   ·cases hk
  ·cases hk
 cases e with
 |nx=>exact fin hk
 |ret=>exact fin hk
 |exit id=>simp only [yF] at hk;cases hk
theorem cT.congr {P:Program} {f:FuncId} {sig:List PT} {rs:List RT} {g h:DL sig->Option (eC rs)} (hg:cT P f sig rs g) (he:∀xs,h xs=g xs):cT P f sig rs h:=
 λ xs r hr=>hg xs r (by rw [<-he];exact hr)
theorem gV.congr {P:Program} {f:FuncId} {pos:Nat} {aT:Bool} {ls:List LO} {sig:List PT} {rs:List RT} {g h:cv ls->DL sig->Option (cv ls×eC rs)} (hg:gV P f pos aT ls sig rs g) (he:∀x xs,h x xs=g x xs):gV P f pos aT ls sig rs h:=
 λ x xs y r hr=>hg x xs y r (by rw [<-he];exact hr)
end Go.Rx
