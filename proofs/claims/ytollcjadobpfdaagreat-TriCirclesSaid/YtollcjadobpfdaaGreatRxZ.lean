/- Reflection, part Z: a law's arguments, and its call. -/
import Derived.Test.YtollcjadobpfdaaGreatRxY
import Derived.WalkKit
import Derived.ProofKit
import Derived.OpenShut
import Derived.ShutString
import Derived.ChangeOld
import Derived.Below
import Derived.Carry
set_option linter.unusedVariables false
set_option linter.unusedSimpArgs false
set_option linter.unusedSectionVars false
namespace Go.Rx
open Go.ChangeShapes Go.WideShapes Go.ChangeAt Go.RowKit
def xP (P:Program) (agg:Bool) (t:TypeId):Bool:=match P.underlying t with
 |some (.struct _)=>agg
 |some (.array _ _)=>agg
 |some (.int _)=> !agg
 |some .bool=> !agg
 |some .string=> !agg
 |some (.slice _)=> !agg
 |_=>false
def argsB (P:Program):List PT->List TypeId->Bool
 | [],[]=>true
 |p::r,t::ts=>uN P 10 p.2 t && xP P p.1 t && P.readableRec t && Nat.blt t P.types.size && argsB P r ts
 |_,_=>false
def Bz:(sig:List PT)->DL sig->Prop
 | [],_=>True
 |p::r,xs=>p.2.wf xs.1/\Bz r xs.2
section
variable {H:Type} {enc:TypeId×Value->H} {P:Program} {W:World}
theorem zb {agg:Bool} {τ:Ty} {t:TypeId} {v:Value} {base:Nat} (hB:xP P agg t=true) (ho:Value.okWide P W .any base t v) {x:τ.D} (hr:ay W (λ b=>b <W.heap.size) τ x v.cells.toList):gn W (λ b=>b <W.heap.size) (agg,τ) x v:=by
 unfold xP at hB
 split at hB
 ·rename_i fs ht
  subst hB
  obtain ⟨cs,rfl,_⟩:=okWide_struct ht ho
  exact ⟨cs,rfl,hr⟩
 ·rename_i ht
  subst hB
  simp only [Value.okWide,ht] at ho
  obtain ⟨cs,rfl,_⟩:=ho
  exact ⟨cs,rfl,hr⟩
 ·rename_i ht
  obtain rfl:agg=false:=by simpa using hB
  obtain ⟨n,rfl⟩:=okWide_int ht ho
  exact hr
 ·rename_i ht
  obtain rfl:agg=false:=by simpa using hB
  obtain ⟨n,rfl⟩:=okWide_bool ht ho
  exact hr
 ·rename_i ht
  obtain rfl:agg=false:=by simpa using hB
  obtain ⟨n,rfl⟩:=okWide_string ht ho
  exact hr
 ·rename_i ht
  obtain rfl:agg=false:=by simpa using hB
  obtain ⟨a,n,c,rfl⟩:=okWide_slice ht ho
  exact hr
 ·cases hB
theorem args_open {base:Nat} {spare:Nat->Bool} {held:Bool}:∀{sig:List PT} {ts:List TypeId} {vs:List Value} {ds:List (DataW H)} {p:List MemPlace},argsB P sig ts=true->DataW.TrodAll enc P W base spare held ts vs ds p->
 (∀(j:Nat) (t:TypeId) (v:Value),ts[j]?=some t->vs[j]?=some v->Value.okWide P W .any base t v)->(∀(j:Nat) (t:TypeId) (d:DataW H),ts[j]?=some t->ds[j]?=some d->∀n∈d.weights P t,n<=reachBytes)->
 ∃xs:DL sig,ff W (λ b=>b <W.heap.size) sig xs vs/\Bz sig xs
 | [],[],vs,ds,p,_,hA,_,_=>by
   obtain ⟨rfl,rfl,rfl⟩:=trodAll_nil hA
   exact ⟨(),rfl,trivial⟩
 |q::sig,t::ts,vs,ds,p,hB,hA,hv,hw=>by
  simp only [argsB,Bool.and_eq_true] at hB
  obtain ⟨v,vs,d,ds,p1,p2,rfl,rfl,rfl,h0,h1⟩:=trodAll_cons hA
  obtain ⟨fuel,hf⟩:=h0
  obtain ⟨x,hx,hwf⟩:=(jW _ _ _ hB.1.1.1.1).out enc W base spare held fuel _ _ _ hf (hw 0 t d rfl rfl)
  obtain ⟨xs,hxs,B0⟩:=args_open hB.2 h1 (λ j t v h2 h3=>hv (j+1) t v h2 h3) (λ j t d h2 h3=>hw (j+1) t d h2 h3)
  exact ⟨(x,xs),⟨v,vs,rfl,zb hB.1.1.1.2 (hv 0 t v rfl rfl) hx,hxs⟩,hwf,B0⟩
 | [],_::_,_,_,_,hB,_,_,_=>by cases hB
 |_::_,[],_,_,_,hB,_,_,_=>by cases hB
theorem args_stay (hl:laidOutB P=true) {W':World} (hb:Below W.heap.size W W'):∀{sig:List PT} {ts:List TypeId} {vs:List Value} {ds:List (DataW H)} {p:List MemPlace},argsB P sig ts=true->DataW.TrodAll enc P W 0 (λ _=>true) true ts vs ds p->
 DataW.TrodAll enc P W' 0 (λ b=>decide (b <W.heap.size)) true ts vs ds p
 | [],[],vs,ds,p,_,hA=>by
   obtain ⟨rfl,rfl,rfl⟩:=trodAll_nil hA
   exact rfl
 |q::sig,t::ts,vs,ds,p,hB,hA=>by
  simp only [argsB,Bool.and_eq_true,Nat.blt_eq] at hB
  obtain ⟨v,vs,d,ds,p1,p2,rfl,rfl,rfl,h0,h1⟩:=trodAll_cons hA
  have lt:∀x∈p1,x.block <W.heap.size:=by obtain ⟨m,hm⟩:=h0;exact DataW.trod_lt m _ _ _ hm
  exact trodAll_cons_mk (Below.trod hl hB.1.1.2 hB.1.2 h0 hb lt) (args_stay hl hb hB.2 h1)
 | [],_::_,_,_,_,hB,_=>by cases hB
 |_::_,[],_,_,_,hB,_=>by cases hB
end
theorem trodAll_len {H:Type} {enc:TypeId×Value->H} {P:Program} {w:World} {base:Nat} {spare:Nat->Bool} {held:Bool}:∀{ts:List TypeId} {vs:List Value} {ds:List (DataW H)} {p:List MemPlace},DataW.TrodAll enc P w base spare held ts vs ds p->ds.length=ts.length
 | [],vs,ds,p,h=>by
   obtain ⟨rfl,rfl,rfl⟩:=trodAll_nil h
   rfl
 |t::ts,vs,ds,p,h=>by
  obtain ⟨v,vs,d,ds,p1,p2,rfl,rfl,rfl,h0,h1⟩:=trodAll_cons h
  simp [trodAll_len h1]
theorem app_some {α:Type} {l m:List α} {j:Nat} {x:α} (h:l[j]?=some x):(l++m)[j]?=some x:=by
 rw [List.getElem?_append_left (List.getElem?_eq_some_iff.1 h).1];exact h
theorem law_walk {P:Program} {f:FuncId} {sig:List PT} {fn:DL sig->Option (eC [.d false .bool])} (hok:cT P f sig [.d false .bool] fn) {xs:DL sig} (hfn:fn xs=some (true,())) {W:World} {vs:List Value} (ha:ff W (λ b=>b <W.heap.size) sig xs vs):
 Calls P f vs.toArray W λ e W'=>e=.returned (.bool true)/\Below W.heap.size W W':=by
 refine (hok xs _ hfn W _ vs (λ _ h=>h) ha).mono ?_
 rintro e W' ⟨ak,us,rfl,hw,hg,_,_,_,hr⟩
 obtain ⟨v,xM,rfl,hv,rfl⟩:=hr
 have hv:[v]=[.bool true]:=hv
 cases hv
 exact ⟨rfl,hg.os,hg.tape,hg.output,hg.sz,hw⟩
theorem cT.none {P:Program} {f:FuncId} {sig:List PT} {rs:List RT}:cT P f sig rs (λ _=>none):=λ _ _ h=>by cases h
theorem gV.none {P:Program} {f:FuncId} {pos:Nat} {aT:Bool} {ls:List LO} {sig:List PT} {rs:List RT}:gV P f pos aT ls sig rs (λ _ _=>none):=λ _ _ _ _ h=>by cases h
end Go.Rx
