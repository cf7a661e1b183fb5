/- Reflection, part Q: regions whose operations come in their order. -/
import Derived.Test.YtollcjadobpfdaaGreatRxP
set_option linter.unusedVariables false
set_option linter.unusedSimpArgs false
set_option linter.unusedSectionVars false
namespace Go.Rx
def nB (all:List Oper) (i:Nat):Bool:=all.any λ o=>match o.guard with
 |some (j,_)=>j.beq i
 |none=>false
def dV (all:List Oper) (σ:St) (j:Nat):Option (Option Bool):=
 match all[j]? with
 |some o=>match o.dst with
  |some d=>match σ.get d with
   | .cp (.one (.lit b))=>some (some b)
   | .bO []=>some none
   |_=>none
  |none=>none
 |none=>none
def fO:bg:=ft [] [] false
def ou:Option Nat->List Nat
 |some d=>[d]
 |none=>[]
def mL (σ:St):Option Nat->List Nat
 |some d=>(σ.get d).refs
 |none=>[]
def y5 (σ:St) (κ:Nat):List Nat:=match σ.ob κ with
 |some o=>o.refs
 |none=>[]
theorem uL {σ:St} {κ:Nat} {o:Ob} (h:σ.ob κ=some o) {r:Nat} (hr:r∈o.refs):r∈y5 σ κ:=by unfold y5;rw [h];exact hr
def AI (F:bg) (σ σ1:St):List Nat:=F.upd.flatMap λ κ=>y5 σ κ++y5 σ1 κ
theorem xL (F:bg) (σ σ1:St):∀κ∈F.upd,∀o,σ.ob κ=some o\/σ1.ob κ=some o->∀r∈o.refs,r∈AI F σ σ1:=λ κ aa o ho r hr=>
 List.mem_flatMap.2 ⟨κ,aa,by
  rcases ho with ho|ho
  ·exact List.mem_append_left _ (uL ho hr)
  ·exact List.mem_append_right _ (uL ho hr)⟩
def bg.at (F:bg) (all:List Oper) (o:Oper) (σ σ1:St) (v:AV):bg:={ F with vr:=mL σ o.dst++v.refs,os:=o.looksAt all.toArray++ou o.dst,ur:=AI F σ σ1 }
section
variable (T:bh) (Y:dZ) (E:Env)
def sy {α:Type} (all:List Oper) (lit:Bool) (o:Oper) (σ:St) (K:St->bg->Option α):Option α:=
 yw T Y E o σ λ σ1 v F=>yq lit v λ v'=>K (σ1.put o.dst v') (F.at all o σ σ1 v')
def runK {α:Type} (all:List Oper):Nat->List Oper->St->(St->List bg->Option α)->Option α
 |_,[],σ,K=>K σ []
 |i,o::r,σ,K=>match o.guard with
  |none=>sy T Y E all (nB all i) o σ λ σ' F=>runK all (i+1) r σ' λ gT Fs=>K gT (F::Fs)
  |some (j,want)=>match dV all σ j with
   |some none=>runK all (i+1) r (σ.put o.dst (.bO [])) λ gT Fs=>K gT (fO.at all o σ σ (.bO [])::Fs)
   |some (some b)=>match b,want with
    |true,true=>sy T Y E all (nB all i) o σ λ σ' F=>runK all (i+1) r σ' λ gT Fs=>K gT (F::Fs)
    |false,false=>sy T Y E all (nB all i) o σ λ σ' F=>runK all (i+1) r σ' λ gT Fs=>K gT (F::Fs)
    |_,_=>runK all (i+1) r (σ.put o.dst (.bO [])) λ gT Fs=>K gT (fO.at all o σ σ (.bO [])::Fs)
   |none=>none
inductive fQ (all:List Oper) (o:Oper) (σ:St):St->bg->Prop where
 |run (hg:o.guard=none\/∃j b,o.guard=some (j,b)/\dV all σ j=some (some b)) (σ1:St) (v v':AV) (F:bg) (hp:Pre T Y E o σ σ1 v F) (hv:j3 v v') (V S:List Nat) (hV:(∀κ∈mL σ o.dst,κ∈V)/\∀κ∈v'.refs,κ∈V)
   (hS:∀t∈o.looksAt all.toArray++ou o.dst,t∈S) (U:List Nat) (hU:∀κ∈F.upd,∀o,σ.ob κ=some o\/σ1.ob κ=some o->∀r∈o.refs,r∈U):fQ all o σ (σ1.put o.dst v') { F with vr:=V,os:=S,ur:=U }
 |skip (j:Nat) (b:Bool) (b':Option Bool) (hg:o.guard=some (j,b)) (hs:dV all σ j=some b') (hne:b'≠some b) (V S:List Nat) (hV:∀κ∈mL σ o.dst,κ∈V)
   (hS:∀t∈o.looksAt all.toArray++ou o.dst,t∈S):fQ all o σ (σ.put o.dst (.bO [])) { fO with vr:=V,os:=S }
inductive Lex (all:List Oper):List Oper->St->St->List bg->Prop where
 |nil (σ:St):Lex all [] σ σ []
 |cons (o:Oper) (r:List Oper) (σ σ1 σ2:St) (F:bg) (Fs:List bg) (h:fQ T Y E all o σ σ1 F) (t:Lex all r σ1 σ2 Fs):Lex all (o::r) σ σ2 (F::Fs)
theorem iC {α:Type} {all:List Oper} {y:α}:∀{l:List Oper} {i:Nat} {σ:St} {K:St->List bg->Option α},runK T Y E all i l σ K=some y->∃σ' Fs,Lex T Y E all l σ σ' Fs/\K σ' Fs=some y
 | [],i,σ,K,h=>⟨σ,[],.nil σ,h⟩
 |o::r,i,σ,K,h=>by
  have go:∀(hg:o.guard=none\/∃j b,o.guard=some (j,b)/\dV all σ j=some (some b)),sy T Y E all (nB all i) o σ (λ σ' F=>runK T Y E all (i+1) r σ' λ gT Fs=>K gT (F::Fs))=some y->∃σ' Fs,Lex T Y E all (o::r) σ σ' Fs/\K σ' Fs=some y:=λ hg h=>by
   obtain ⟨σ1,v,F,hp,h⟩:=xD T Y E h
   obtain ⟨v',hv,h⟩:=xy h
   obtain ⟨σ',Fs,hl,h⟩:=iC h
   exact ⟨σ',F.at all o σ σ1 v'::Fs,.cons o r σ _ σ' _ Fs (.run hg σ1 v v' F hp hv _ _ ⟨λ κ aa=>List.mem_append_left _ aa,λ κ aa=>List.mem_append_right _ aa⟩ (λ _ h=>h) _ (xL F σ σ1)) hl,h⟩
  unfold runK at h
  split at h
  ·rename_i hg;exact go (.inl hg) h
  ·rename_i j want hg
   split at h
   ·rename_i hs
    obtain ⟨σ',Fs,hl,h⟩:=iC h
    exact ⟨σ',fO.at all o σ σ (.bO [])::Fs,.cons o r σ _ σ' _ Fs (.skip j want none hg hs (by simp) _ _ (λ κ aa=>List.mem_append_left _ aa) (λ _ h=>h)) hl,h⟩
   ·rename_i b hs
    have sk:b≠want->runK T Y E all (i+1) r (σ.put o.dst (.bO [])) (λ gT Fs=>K gT (fO.at all o σ σ (.bO [])::Fs))=some y->∃σ' Fs,Lex T Y E all (o::r) σ σ' Fs/\K σ' Fs=some y:=λ hne h=>by
     obtain ⟨σ',Fs,hl,h⟩:=iC h
     exact ⟨σ',fO.at all o σ σ (.bO [])::Fs,.cons o r σ _ σ' _ Fs (.skip j want (some b) hg hs (by simpa using hne) _ _ (λ κ aa=>List.mem_append_left _ aa) (λ _ h=>h)) hl,h⟩
    cases b<;>cases want
    ·exact go (.inr ⟨j,false,hg,hs⟩) h
    ·exact sk (by simp) h
    ·exact sk (by simp) h
    ·exact go (.inr ⟨j,true,hg,hs⟩) h
   ·cases h
end
section
variable {w0:World} {Fz av:Nat->Prop} {Lo:Nat->RL} {R:Nat->RL} {Pr:Nat->Prop} {σ:St} {a:Act} {w:World}
variable {P:Program} {T:bh} {Y:dZ} {E:Env}
theorem q9 (h:Inv w0 Fz av Lo R Pr σ a w) {all:List Oper} {j:Nat} {b:Option Bool} (hs:dV all σ j=some b):yielded all.toArray a.tmps j=b:=by
 unfold dV at hs
 split at hs
 ·rename_i o ho
  split at hs
  ·rename_i d hd
   split at hs
   ·rename_i b' bG
    cases hs
    have:=h.tm d
    rw [bG] at this
    have hv:a.tmps.getD d undef=.bool b':=this
    have hs:a.tmps[d]?=some (.bool b'):=by
     rw [Array.getD_eq_getD_getElem?] at hv
     cases hx:a.tmps[d]? with
     |none=>rw [hx] at hv;simp [undef] at hv
     |some x=>rw [hx] at hv;simp at hv;rw [hv]
    unfold yielded
    rw [List.getElem?_toArray,ho]
    simp [hd,hs]
   ·rename_i bG
    cases hs
    have:=h.tm d
    rw [bG] at this
    obtain ⟨vs,hv,hvs⟩:=this
    have hvs:vs= #[] :=by
     obtain ⟨l⟩:=vs
     cases l with
     |nil=>rfl
     |cons x l=>exact hvs.elim
    subst hvs
    unfold yielded
    rw [List.getElem?_toArray,ho]
    cases hx:a.tmps[d]? with
    |none=>simp [hd,hx]
    |some x=>
     rw [Array.getD_eq_getD_getElem?,hx] at hv
     simp at hv
     simp [hd,hx,hv]
   ·cases hs
  ·cases hs
 ·cases hs
theorem oh (hT:bC P T) (hE:bR P E) (dW:dH P E) (aZ:∀b,b <w0.heap.size->Fz b\/av b) (h:Inv w0 Fz av Lo R Pr σ a w) {all:List Oper} {o:Oper} {σ':St} {F:bg} (hs:fQ T Y E all o σ σ' F) {K:Act->World->Prop} {Q:Exit->Act->World->Prop}
 (hn:∀u R' ak w',Inv w0 Fz av Lo R' ak σ' (a.put o.dst u) w'->K (a.put o.dst u) w'):
 if Region.wanted o (yielded all.toArray a.tmps) then o.wp P a w K Q else K (a.put o.dst undef) w:=by
 cases hs with
 |run hg σ1 v v' F hp hv V S hV hS=>
  have hw:Region.wanted o (yielded all.toArray a.tmps)=true:=by
   rcases hg with hg|⟨j,b,hg,hs⟩
   ·simp [Region.wanted,hg]
   ·simp [Region.wanted,hg,q9 h hs]
  rw [if_pos hw]
  exact xF hT hE dW aZ h hp hv hn
 |skip j b b' hg hs hne V S hV hS=>
  have hw:Region.wanted o (yielded all.toArray a.tmps)=false:=by
   simp [Region.wanted,hg,q9 h hs,hne]
  rw [if_neg (by rw [hw];simp)]
  exact hn undef R Pr w (h.put o.dst (.bO []) undef ⟨#[], rfl,trivial⟩ λ κ aa=>by cases aa)
theorem rC (hT:bC P T) (hE:bR P E) (dW:dH P E) (aZ:∀b,b <w0.heap.size->Fz b\/av b) {all:List Oper} {Q:Exit->Act->World->Prop}:∀{l:List Oper} {σ σ':St} {Fs:List bg} {R:Nat->RL} {Pr:Nat->Prop} {a:Act} {w:World},
 Lex T Y E all l σ σ' Fs->Inv w0 Fz av Lo R Pr σ a w->(∀R' ak a' w',Inv w0 Fz av Lo R' ak σ' a' w'->Q .normal a' w')->wpList P all.toArray Q l a w
 | [],σ,σ',Fs,R,Pr,a,w,hl,h,hq=>by
   cases hl
   exact wpList_nil (hq R Pr a w h)
 |o::r,σ,σ',Fs,R,Pr,a,w,hl,h,hq=>by
  cases hl with
  |cons _ _ _ σ1 _ F Fs' h1 ht=>
   refine wpList_step λ K hK=> ?_
   exact oh hT hE dW aZ h h1 λ u R' ak w' hi=>hK _ _ (rC hT hE dW aZ ht hi hq)
end
end Go.Rx
