/- Reflection, part G: an operation that yields a value, of whatever kind. -/
import Derived.Test.YtollcjadobpfdaaGreatRxMp
set_option linter.unusedVariables false
set_option linter.unusedSimpArgs false
set_option linter.unusedSectionVars false
namespace Go.Rx
def kC:TD->Bool
 | .str=>true
 |_=>false
def pL:TD->Bool
 | .slice _=>true
 |_=>false
def tg:C->Bool
 | .str _=>true
 |_=>false
def p8:List AV->Option (List Nat)
 | []=>some []
 | .cp (.one (.ptr κ 0))::r=>(p8 r).map (κ:: ·)
 |_=>none
def tc:TD->Bool
 | .map _ _=>true
 |_=>false
def yZ:Operand->Bool
 | .const _=>true
 |_=>false
section
variable (T:bh) (ρ:Operand->AV) (ob:Nat->Option Ob)
def sI (T:bh) (t:TypeId) (cs:List C) (off:Nat):Option C:=
 match T.get t with
 |some i=>match i.d with
  | .array m el=>match T.get el with
    |some ei=>match ei.d with
     | .int k=>match ei.size.beq 1,eA k ((cs.drop off).take m) with
       |true,some l=>if l.length=m then some (.val false (.int k) l) else none
       |_,_=>none
     |_=>none
    |none=>none
  |_=>none
 |none=>none
def ej:Op->Option Out
 | .index t x i=>match ρ i,ρ x with
   | .cp (.one (.int _ n)),.cp (.agg cs)=>kU T t cs (yZ i) n
   |_,_=>none
 | .slice t x none none none=>match ρ x with
   | .cp (.one (.fG e y off))=>(sI T t (e.cells y) off).map λ c=>⟨[],[],aQ c⟩
   | .cp (.one (.ptr κ off))=>match ob κ with
     |some (.cG e y)=>(sI T t (e.cells y) off).map λ c=>⟨[],[κ],aQ c⟩
     |_=>none
   |_=>none
 | .lookup t m x ok=>match ρ m with
   | .cp (.one (.mp κ))=>match ob κ with
     |some (.map K V l _)=>match iI T t K V,jJ K (ρ x) with
      |some y,some k=>match ok with
       |true=>some ⟨[],[κ],.bO [e8 V ((dA (kB K) l k).getD y),.one (.prop ((dA (kB K) l k).isSome=true) inferInstance)]⟩
       |false=>some ⟨[],[κ],.cp (e8 V ((dA (kB K) l k).getD y))⟩
      |_,_=>none
     |_=>none
   | .cp (.one (.dat (.map K V) l))=>match iI T t K V,jJ K (ρ x) with
     |some y,some k=>match ok with
      |true=>some ⟨[],[],.bO [e8 V ((dA (kB K) l k).getD y),.one (.prop ((dA (kB K) l k).isSome=true) inferInstance)]⟩
      |false=>some ⟨[],[],.cp (e8 V ((dA (kB K) l k).getD y))⟩
     |_,_=>none
   |_=>none
 | .entry x=>match ρ x with
   | .cp (.one (.ptr d 0))=>match ob d with
     |some (.tok κ)=>match ob κ with
      |some (.map K V l (some (d',_,some kv)))=>match d'.beq d with
       |true=>some ⟨[],[d,κ],.bO [e8 K kv.1,e8 V kv.2]⟩
       |false=>none
      |_=>none
     |_=>none
   |_=>none
 | .call c=>match c.callee with
   | .builtin .len=>match c.args.toList,c.argTypes.toList with
     | [x],[t]=>match ρ x,T.get t with
       | .cp (.one a),some i=>match tc i.d with
         |true=>l6 ob a
         |false=>none
       |_,_=>none
     |_,_=>none
   |_=>none
 |_=>none
def aR:Op->Option Out
 | .move x=>some ⟨[],[],ρ x⟩
 | .assign x=>some ⟨[],[],ρ x⟩
 | .pick c a b=>match ρ c with
   | .cp (.one (.lit true))=>some ⟨[],[],ρ a⟩
   | .cp (.one (.lit false))=>some ⟨[],[],ρ b⟩
   |_=>none
 | .load t x=>match ρ x with
   | .cp (.one c)=>ia T ob t c
   |_=>none
 | .fieldAddr s x f=>match ρ x with
   | .cp (.one c)=>j5 T s f c
   |_=>none
 | .field s x f=>match ρ x with
   | .cp (.agg cs)=>qm T s f cs
   |_=>none
 | .indexAddr t x i=>match ρ i,ρ x with
   | .cp (.one (.int _ n)),.cp (.one c)=>dJ T ob t c (yZ i) n
   |_,_=>none
 | .index t x i=>match ρ i,ρ x,T.get t with
   | .cp (.one (.int _ n)),.cp (.one (.str s)),some ti=>match kC ti.d with
     |true=>some ⟨[⟨0<=n,inferInstance⟩,⟨n <(s.size:Int),inferInstance⟩],[],aQ (.int .u8 (sA s n.toNat))⟩
     |false=>none
   |_,_,_=>none
 | .binOp op t x y _=>vf T op t (ρ x) (ρ y)
 | .unOp op _ x=>match ρ x with
   | .cp (.one c)=>x3 op c
   |_=>none
 | .convert s d x=>match ρ x with
   | .cp (.one c)=>sO T s d c
   |_=>none
 | .extract x n=>match ρ x with
   | .bO vs=>match vs[n]? with
     |some v=>some ⟨[],[],.cp v⟩
     |none=>none
   |_=>none
 | .nilCheck x=>match ρ x with
   | .cp (.one (.ptr κ o))=>some ⟨[],[],aQ (.ptr κ o)⟩
   | .cp (.one (.dO κ s i o))=>some ⟨[],[],aQ (.dO κ s i o)⟩
   | .cp (.one (.fG e x o))=>some ⟨[],[],aQ (.fG e x o)⟩
   |_=>none
 | .build t parts=>ql T t (parts.toList.map λ p=>(p.1,ρ p.2))
 | .slice t x lo hi none=>match ρ x,c9 ρ lo,c9 ρ hi with
   | .cp (.one c),some lo,some hi=>eM T ob t c lo hi
   |_,_,_=>none
 | .lookup t m x false=>match ρ m,ρ x with
   | .cp (.one (.mp κ)),.cp (.agg [.int .i64 a,.int .i64 b])=>match mP T t,ob κ with
     |true,some (.set l)=>some ⟨[],[κ],aQ (.prop ((a,b)∈l) inferInstance)⟩
     |_,_=>none
   |_,_=>none
 | .makeFunc (.func f) first captured=>if first.size=0 then (p8 (captured.toList.map ρ)).map λ aJ=>⟨[],[],aQ (.fn f aJ)⟩ else none
 | .call c=>match c.callee with
   | .builtin .len=>match c.args.toList,c.argTypes.toList with
     | [x],[t]=>match ρ x,T.get t with
       | .cp (.one a),some i=>match kC i.d,pL i.d,tg a with
         |true,_,true=>jM ob a
         |false,true,false=>jM ob a
         |_,_,_=>none
       |_,_=>none
     |_,_=>none
   | .builtin .max=>match c.args.toList.map ρ with
     | .cp (.one (.int k x))::r=>(uK true k x r).map λ c=>⟨[],[],aQ c⟩
     |_=>none
   | .builtin .min=>match c.args.toList.map ρ with
     | .cp (.one (.int k x))::r=>(uK false k x r).map λ c=>⟨[],[],aQ c⟩
     |_=>none
   |_=>none
 |_=>none
def sS (op:Op):Option Out:=match aR T ρ ob op with
 |some o=>some o
 |none=>ej T ρ ob op
end
theorem tJ {w:World} {R:Nat->RL} {Pr:Nat->Prop}:∀{l:List AV} {aJ:List Nat} {vs:List Value},p8 l=some aJ->an (aA w R Pr) l vs->vs=aJ.map (λ κ=>Value.pointer (some ⟨(R κ).blk,0,none⟩))/\∀κ∈aJ,∃x∈l,κ∈x.refs
 | [],_,[],h,_=>by simp only [p8] at h;cases h;exact ⟨rfl,λ κ h=>by cases h⟩
 |a::l,aJ,v::vs,h,hr=>by
  unfold p8 at h
  split at h
  ·rename_i e;cases e
  ·rename_i κ r e
   cases e
   obtain ⟨ah,h1,rfl⟩:=Option.map_eq_some_iff.1 h
   obtain ⟨rfl,k2⟩:=tJ h1 hr.2
   have hv:v=.pointer (some ⟨(R κ).blk,0,none⟩):=hr.1
   refine ⟨by rw [hv];rfl,λ x hx=> ?_⟩
   rcases List.mem_cons.1 hx with rfl|hx
   ·exact ⟨_,List.mem_cons_self ..,by simp [AV.refs,Cp.refs,C.refs]⟩
   ·obtain ⟨y,g1,g2⟩:=k2 x hx
    exact ⟨y,List.mem_cons_of_mem _ g1,g2⟩
  ·cases h
 | [],_,_::_,_,hr=>hr.elim
 |_::_,_,[],_,hr=>hr.elim
def Seen (ρ:Operand->AV) (ob:Nat->Option Ob) (xs:List Operand) (acc:List Nat) (κ:Nat):Prop:=
 (∃x∈xs,κ∈(ρ x).refs)\/∃af∈acc,∃o,ob af=some o/\κ∈o.refs
theorem dG {α β γ:Type} {r:β->γ->Prop} {f:α->β} {g:α->γ}:∀(l:List α),(∀a∈l,r (f a) (g a))->an r (l.map f) (l.map g)
 | [],_=>trivial
 |a::l,h=>⟨h a (List.mem_cons_self ..),dG l λ x hx=>h x (List.mem_cons_of_mem _ hx)⟩
theorem vm {P:Program} {T:bh} (hT:bC P T) {w:World} {R:Nat->RL} {Pr:Nat->Prop} {ob:Nat->Option Ob} (aj:∀κ o,ob κ=some o->az w R Pr κ o)
 {ρ:Operand->AV} {ev:Operand->Value} (hρ:∀x,aA w R Pr (ρ x) (ev x)) {o:Oper} {out:Out} (h:aR T ρ ob o.op=some out) (hh:cz out.conds):
 ∃u,(execOp ev o).run P w=.ok (.value u) w/\aA w R Pr out.v u/\∀κ∈out.v.refs,Seen ρ ob o.op.operands.toList out.acc κ:=by
 obtain ⟨dst,op,ty,pos,after,guard⟩:=o
 simp only at h ⊢
 have lift:∀(s:Sem Value) (x:Operand),(∃u,s.run P w=.ok u w/\aA w R Pr out.v u/\∀κ∈out.v.refs,Seen ρ ob op.operands.toList out.acc κ)->
  execOp ev ⟨dst,op,ty,pos,after,guard⟩=(do pure (.value (<-s)))->∃u,(execOp ev ⟨dst,op,ty,pos,after,guard⟩).run P w=.ok (.value u) w/\aA w R Pr out.v u/\∀κ∈out.v.refs,Seen ρ ob op.operands.toList out.acc κ:=λ s x ⟨u,k1,k2,k3⟩ e=>by
  refine ⟨u, ?_,k2,k3⟩
  rw [e]
  simp [k1]
 cases op with
 |move x=>
  simp only [aR] at h;cases h
  exact ⟨ev x,by simp [execOp],hρ x,λ κ aa=>.inl ⟨x,by simp [Op.operands],aa⟩⟩
 |assign x=>
  simp only [aR] at h;cases h
  exact ⟨ev x,by simp [execOp],hρ x,λ κ aa=>.inl ⟨x,by simp [Op.operands],aa⟩⟩
 |pick c a b=>
  simp only [aR] at h
  have hc:=hρ c
  split at h
  ·rename_i e
   cases h
   rw [e] at hc
   have hc:ev c=.bool true:=hc
   exact ⟨ev a,by simp [execOp,hc,asBool],hρ a,λ κ aa=>.inl ⟨a,by simp [Op.operands],aa⟩⟩
  ·rename_i e
   cases h
   rw [e] at hc
   have hc:ev c=.bool false:=hc
   exact ⟨ev b,by simp [execOp,hc,asBool],hρ b,λ κ aa=>.inl ⟨b,by simp [Op.operands],aa⟩⟩
  ·cases h
 |load t x=>
  simp only [aR] at h
  have hx:=hρ x
  split at h
  ·rename_i c e
   rw [e] at hx
   obtain ⟨u,k1,k2,k3⟩:=l7 hT aj h hx
   exact lift _ x ⟨u,k1,k2,λ κ aa=>.inr (k3 κ aa)⟩ rfl
  ·cases h
 |fieldAddr s x f=>
  simp only [aR] at h
  have hx:=hρ x
  split at h
  ·rename_i c e
   rw [e] at hx
   obtain ⟨u,k1,k2,k3⟩:=nK hT aj h hx
   exact lift _ x ⟨u,k1,k2,λ κ aa=>.inl ⟨x,by simp [Op.operands],by rw [e];exact k3 κ aa⟩⟩ rfl
  ·cases h
 |field s x f=>
  simp only [aR] at h
  have hx:=hρ x
  split at h
  ·rename_i cs e
   rw [e] at hx
   obtain ⟨vs,hv,hr⟩:=hx
   obtain ⟨u,k1,k2,k3⟩:=rQ hT h hr
   refine lift (Instr.field s (ev x) f) x ⟨u,by rw [hv];exact k1,k2,λ κ aa=>.inl ⟨x,by simp [Op.operands], ?_⟩⟩ rfl
   obtain ⟨c,hc,hk⟩:=k3 κ aa
   rw [e];exact List.mem_flatMap.2 ⟨c,hc,hk⟩
  ·cases h
 |indexAddr t x i=>
  simp only [aR] at h
  have hx:=hρ x
  have hi:=hρ i
  split at h
  ·rename_i k n c e1 e2
   rw [e2] at hx
   rw [e1] at hi
   have hi:ev i=.int k n:=hi
   obtain ⟨u,k1,k2,k3⟩:=nM hT aj (k:=k) h hh hx
   exact lift (Instr.indexAt t (ev x) (ev i)) x ⟨u,by rw [hi];exact k1,k2,λ κ aa=>.inl ⟨x,by simp [Op.operands],by rw [e2];exact k3 κ aa⟩⟩ rfl
  ·cases h
 |index t x i=>
  simp only [aR] at h
  have hx:=hρ x
  have hi:=hρ i
  split at h
  ·rename_i k n s ti e1 e2 e3
   split at h
   ·rename_i hs
    cases h
    rw [e2] at hx
    rw [e1] at hi
    have hi:ev i=.int k n:=hi
    have hx:ev x=.string s:=hx
    obtain ⟨d,hu,hd⟩:=cq hT e3
    have BT:P.underlying t=some .string:=by
     rw [hd] at hs
     cases d<;>simp [dN,kC] at hs
     exact hu
    have h0:0<=n:=hh ⟨0<=n,inferInstance⟩ (by simp)
    have h1:n <(s.size:Int):=hh ⟨n <(s.size:Int),inferInstance⟩ (by simp)
    refine lift (Instr.index t (ev x) (ev i)) x ⟨.int .u8 (sA s n.toNat), ?_,rfl,λ κ aa=>by simp [AV.refs,Cp.refs,C.refs] at aa⟩ rfl
    rw [hi,hx,run_index_string w t s k n BT,dif_pos ⟨h0,h1⟩,yz s n.toNat (by omega)]
   ·cases h
  ·cases h
 |binOp op t x y yt=>
  simp only [aR] at h
  obtain ⟨r,k0,k1,k2,k3⟩:=tZ hT h hh (hρ x) (hρ y) x y
  exact lift (do eqGuard op t x y (ev x) (ev y);binOp op t (ev x) (ev y)) x ⟨r,by rw [Sem.run_bind,k0];exact k1,k2,λ κ aa=>by rw [k3] at aa;cases aa⟩ rfl
 |unOp op t x=>
  simp only [aR] at h
  have hx:=hρ x
  split at h
  ·rename_i c e
   rw [e] at hx
   obtain ⟨r,k1,k2,k3⟩:=vk hT h hx
   exact lift _ x ⟨r,k1,k2,λ κ aa=>by rw [k3] at aa;cases aa⟩ rfl
  ·cases h
 |convert s d x=>
  simp only [aR] at h
  have hx:=hρ x
  split at h
  ·rename_i c e
   rw [e] at hx
   obtain ⟨r,k1,k2,k3⟩:=sP hT h hx
   exact lift _ x ⟨r,k1,k2,λ κ aa=>by rw [k3] at aa;cases aa⟩ rfl
  ·cases h
 |extract x n=>
  simp only [aR] at h
  have hx:=hρ x
  split at h
  ·rename_i vs e
   rw [e] at hx
   split at h
   ·rename_i v hv
    cases h
    obtain ⟨us,h1,h2⟩:=hx
    obtain ⟨u,hu,hr⟩:=h2.get hv
    have CH:us[n]?=some u:=by simpa using hu
    refine lift (Instr.extract (ev x) n) x ⟨u,by rw [h1];simp [Instr.extract,CH],hr,λ κ aa=>.inl ⟨x,by simp [Op.operands], ?_⟩⟩ rfl
    rw [e];exact List.mem_flatMap.2 ⟨v,List.mem_of_getElem? hv,aa⟩
   ·cases h
  ·cases h
 |nilCheck x=>
  simp only [aR] at h
  have hx:=hρ x
  split at h
  ·rename_i e;cases h
   rw [e] at hx
   have hx':ev x=_:=hx
   exact ⟨ev x,by simp [execOp,hx'],hx,λ κ aa=>.inl ⟨x,by simp [Op.operands],by rw [e];exact aa⟩⟩
  ·rename_i e;cases h
   rw [e] at hx
   obtain ⟨_,o,n,c,_,hx'⟩:=id hx
   exact ⟨ev x,by simp [execOp,hx'],hx,λ κ aa=>.inl ⟨x,by simp [Op.operands],by rw [e];exact aa⟩⟩
  ·rename_i e;cases h
   rw [e] at hx
   obtain ⟨blk,o,cells,el,fr,us,hx',_⟩:=id hx
   exact ⟨ev x,by simp [execOp,hx'],hx,λ κ aa=>by cases aa⟩
  ·cases h
 |slice t x lo hi mx=>
  cases mx with
  |some m=>simp only [aR] at h;cases h
  |none=>
   simp only [aR] at h
   have hx:=hρ x
   split at h
   ·rename_i c l1 h1 e1 e2 e3
    rw [e1] at hx
    obtain ⟨u,k1,k2,k3⟩:=rT hT hρ e2 e3 aj h hh hx
    exact lift (Instr.sliceAt t (ev x) (lo.map ev) (hi.map ev) none) x ⟨u,k1,k2,λ κ aa=>.inl ⟨x,by simp [Op.operands],by rw [e1];exact k3 κ aa⟩⟩ rfl
   ·cases h
 |lookup t m x ok=>
  cases ok with
  |true=>simp only [aR] at h;cases h
  |false=>
   simp only [aR] at h
   have hm:=hρ m
   have hx:=hρ x
   split at h
   ·rename_i κ a b e1 e2
    rw [e1] at hm
    rw [e2] at hx
    split at h
    ·rename_i l hs ho
     cases h
     obtain ⟨es,clock,hb,hr⟩:=aj κ _ ho
     have hm:ev m=.map (some (R κ).blk):=hm
     obtain ⟨vs,hx1,hx2⟩:=hx
     have hvs:vs= #[.int .i64 a,.int .i64 b]:=by
      apply Array.ext'
      generalize vs.toList=l at hx2
      match l,hx2 with
      | [u,v],h=>rw [show u=_ from h.1,show v=_ from h.2.1]
     have hx1:ev x=pk a b:=by rw [hx1,hvs]
     have hrun:=qI hT hs hb hr a b
     refine lift (Instr.lookup t (ev m) (ev x) false) x ⟨.bool (decide ((a,b)∈l)),by rw [hm,hx1];exact hrun,rfl,λ κ aa=>by cases aa⟩ rfl
    ·cases h
   ·cases h
 |build t parts=>
  simp only [aR] at h
  have hp:an (λ p v=>p.1=v.1/\aA w R Pr p.2 v.2) (parts.toList.map λ p=>(p.1,ρ p.2)) (parts.map λ (i,x)=>(i,ev x)).toList:=by
   rw [Array.toList_map]
   exact dG _ λ p _=>⟨rfl,hρ p.2⟩
  obtain ⟨r,k1,k2,k3⟩:=rP hT h hp
  refine lift _ (.tmp 0) ⟨r,k1,k2,λ κ aa=> ?_⟩ rfl
  obtain ⟨p,hp,hk⟩:=k3 κ aa
  obtain ⟨q,hq,rfl⟩:=List.mem_map.1 hp
  exact .inl ⟨q.2,by simp [Op.operands];exact ⟨q.1,by simpa using hq⟩,hk⟩
 |makeFunc fn first captured=>
  cases fn with
  |func f=>
   simp only [aR] at h
   split at h
   ·rename_i hf
    obtain ⟨aJ,B1,rfl⟩:=Option.map_eq_some_iff.1 h
    have hr:an (aA w R Pr) (captured.toList.map ρ) (captured.toList.map ev):=dG _ λ x _=>hρ x
    obtain ⟨h1,h2⟩:=tJ B1 hr
    have zY:first= #[] :=by simpa using hf
    subst zY
    refine lift (Instr.makeFunc (.func f) ((#[] :Array Operand).map ev) (captured.map ev)) (.tmp 0) ⟨_,rfl, ?_,λ κ aa=> ?_⟩ rfl
    ·show Value.func _ _ _=Value.func _ _ _
     rw [<-h1]
     have e:captured.map ev=(List.map ev captured.toList).toArray:=Array.ext' (by simp)
     rw [e,Array.map_empty]
    ·obtain ⟨x,hx,hk⟩:=h2 κ aa
     obtain ⟨y,hy,rfl⟩:=List.mem_map.1 hx
     exact .inl ⟨y,by simp [Op.operands];simpa using hy,hk⟩
   ·cases h
  |_=>simp only [aR] at h;cases h
 |call c=>
  obtain ⟨callee,args,argTypes⟩:=c
  cases callee with
  |builtin b=>
   cases b with
   |len=>
    simp only [aR] at h
    split at h
    ·rename_i x t e1 e2
     split at h
     ·rename_i a i e3 hi
      have hx:=hρ x
      rw [e3] at hx
      obtain rfl:args= #[x] :=by apply Array.ext';simpa using e1
      obtain rfl:argTypes= #[t] :=by apply Array.ext';simpa using e2
      have key:((∃e,i.d=.slice e)\/i.d=.str)->(i.d=.str↔∃s,a=.str s)->jM ob a=some out->∃u,(execOp ev ⟨dst,.call ⟨.builtin .len, #[x], #[t]⟩, ty,pos,after,guard⟩).run P w=.ok (.value u) w/\aA w R Pr out.v u/\∀κ∈out.v.refs,Seen ρ ob (Op.call ⟨.builtin .len, #[x], #[t]⟩).operands.toList out.acc κ:=λ hd hs h=>by
       obtain ⟨u,k1,k2,k3⟩:=ud hT aj (ty:=ty) hi hd h hs hx
       exact ⟨u,by simp [execOp,resolve,invoke,builtin,k1],k2,λ κ aa=>by rw [k3] at aa;cases aa⟩
      split at h
      ·rename_i g1 g3
       have qZ:i.d=.str:=by revert g1;cases i.d<;>simp [kC]
       have zO:∃s,a=.str s:=by revert g3;cases a<;>simp [tg]
       exact key (.inr qZ) ⟨λ _=>zO,λ _=>qZ⟩ h
      ·rename_i g1 g2 g3
       have qZ:i.d≠ .str:=by revert g1;cases i.d<;>simp [kC]
       have lP:∃e,i.d=.slice e:=by revert g2;cases i.d<;>simp [pL]
       have zO: ¬∃s,a=.str s:=by revert g3;cases a<;>simp [tg]
       exact key (.inl lP) ⟨λ h=>(qZ h).elim,λ h=>(zO h).elim⟩ h
      ·cases h
     ·cases h
    ·cases h
   |max=>
    simp only [aR] at h
    split at h
    ·rename_i k x r e
     obtain ⟨c,hc,rfl⟩:=Option.map_eq_some_iff.1 h
     have hr:an (aA w R Pr) (args.toList.map ρ) (args.toList.map ev):=dG _ λ x _=>hρ x
     rw [e] at hr
     cases hl:args.toList.map ev with
     |nil=>rw [hl] at hr;exact hr.elim
     |cons v vs=>
      rw [hl] at hr
      obtain ⟨u,k1,k2,k3⟩:=mI hT true r x vs c hc hr.2
      have hv:v=.int k x:=hr.1
      refine ⟨u, ?_,k2,λ κ aa=>by change κ∈c.refs at aa;rw [k3] at aa;cases aa⟩
      subst hv
      have e2:(args.map ev).toList=.int k x::vs:=by rw [Array.toList_map];exact hl
      simp [execOp,resolve,invoke,builtin,Builtin.max_,hl]
      simpa using congrArg (λ r=>r.andThen λ a w'=>Result.ok (Next.value a) w') k1
    ·cases h
   |min=>
    simp only [aR] at h
    split at h
    ·rename_i k x r e
     obtain ⟨c,hc,rfl⟩:=Option.map_eq_some_iff.1 h
     have hr:an (aA w R Pr) (args.toList.map ρ) (args.toList.map ev):=dG _ λ x _=>hρ x
     rw [e] at hr
     cases hl:args.toList.map ev with
     |nil=>rw [hl] at hr;exact hr.elim
     |cons v vs=>
      rw [hl] at hr
      obtain ⟨u,k1,k2,k3⟩:=mI hT false r x vs c hc hr.2
      have hv:v=.int k x:=hr.1
      refine ⟨u, ?_,k2,λ κ aa=>by change κ∈c.refs at aa;rw [k3] at aa;cases aa⟩
      subst hv
      have e2:(args.map ev).toList=.int k x::vs:=by rw [Array.toList_map];exact hl
      simp [execOp,resolve,invoke,builtin,Builtin.min_,hl]
      simpa using congrArg (λ r=>r.andThen λ a w'=>Result.ok (Next.value a) w') k1
    ·cases h
   |_=>simp only [aR] at h;cases h
  |_=>simp only [aR] at h;cases h
 |_=>simp only [aR] at h;cases h
theorem kN {P:Program} {T:bh} (hT:bC P T) {w:World} {R:Nat->RL} {Pr:Nat->Prop} {t:TypeId} {cs:List C} {off:Nat} {c:C} (h:sI T t cs off=some c) {blk o:Nat} {cells:Array Value} {el:TypeId} {fr:Nat×Nat} {us:List Value}
 (hp:Pr blk) (hb:w.heap[blk]?=some (.cells cells el fr)) (ha:At cells o us) (hr:an (au w R Pr) cs us):∃u,(Instr.sliceAt t (.pointer (some ⟨blk,o+off,none⟩)) none none none).run P w=.ok u w/\au w R Pr c u/\c.refs=[]:=by
 unfold sI at h
 split at h
 ·rename_i i hi
  split at h
  ·rename_i m e hd
   have wV:=iE hT hi hd
   split at h
   ·rename_i ei eD
    split at h
    ·rename_i k hk
     split at h
     ·rename_i l hsz hl
      split at h
      ·rename_i hlen
       cases h
       have hsz:=Nat.eq_of_beq_eq_true hsz
       refine ⟨.slice (some ⟨blk,o+off,none⟩) m m, ?_,⟨some ⟨blk,o+off,none⟩,m,by show [_]=[Value.slice _ (List.length l) m];rw [hlen],by show List.length l<=m;omega,(λ z=>by cases z),λ _=>⟨blk,o+off,cells,el,fr,rfl,hp,hb,λ j y hj=> ?_⟩⟩,rfl⟩
       ·simp [Instr.sliceAt,Instr.sureAddr,Instr.sliceBounds,run_underlying wV,bQ hT eD,ew]
       ·have hj:l[j]?=some y:=hj
        have hjl:j <l.length:=(List.getElem?_eq_some_iff.1 hj).1
        have hall:∀(q:Nat),q <m->∃c,((cs.drop off).take m)[q]?=some c:=λ q hq=>by
         have gh:∀{cs:List C} {l:List Int},eA k cs=some l->cs.length=l.length:=by
          intro cs
          induction cs with
          |nil=>intro l h;simp only [eA] at h;cases h;rfl
          |cons c0 r ih=>
           intro l h
           cases c0 with
           |int k' n=>
            simp only [eA] at h
            split at h
            ·obtain ⟨m,hm,rfl⟩:=Option.map_eq_some_iff.1 h
             simp [ih hm]
            ·cases h
           |_=>simp [eA] at h
         have:=gh hl
         exact ⟨_,List.getElem?_eq_getElem (by omega)⟩
        obtain ⟨c,hc⟩:=hall j (by omega)
        have e:=oB hl hc
        subst e
        rw [List.getElem?_take,if_pos (by omega),List.getElem?_drop] at hc
        obtain ⟨u,hu,mw⟩:=hr.get hc
        have mw:u=.int k (l.getD j 0):=mw
        refine ⟨[u],λ q v hv=> ?_, ?_⟩
        ·cases q with
         |zero=>
          simp only [List.getElem?_cons_zero,Option.some.injEq] at hv
          subst hv
          have:=ha _ _ hu
          rw [show o+off+j * (Ty.int k).n+0=o+(off+j) by show o+off+j * 1+0=_;omega]
          exact this
         |succ q=>simp at hv
        ·show [u]=[Value.int k y]
         rw [mw,List.getD_eq_getElem?_getD,hj];rfl
      ·cases h
     ·cases h
    ·cases h
   ·cases h
  ·cases h
 ·cases h
theorem wH {P:Program} {T:bh} (hT:bC P T) {w:World} {R:Nat->RL} {Pr:Nat->Prop} {ob:Nat->Option Ob} (aj:∀κ o,ob κ=some o->az w R Pr κ o)
 {ρ:Operand->AV} {ev:Operand->Value} (hρ:∀x,aA w R Pr (ρ x) (ev x)) {o:Oper} {out:Out} (h:ej T ρ ob o.op=some out) (hh:cz out.conds):
 ∃u,(execOp ev o).run P w=.ok (.value u) w/\aA w R Pr out.v u/\∀κ∈out.v.refs,Seen ρ ob o.op.operands.toList out.acc κ:=by
 obtain ⟨dst,op,ty,pos,after,guard⟩:=o
 simp only at h ⊢
 have lift:∀(s:Sem Value),(∃u,s.run P w=.ok u w/\aA w R Pr out.v u/\∀κ∈out.v.refs,Seen ρ ob op.operands.toList out.acc κ)->
  execOp ev ⟨dst,op,ty,pos,after,guard⟩=(do pure (.value (<-s)))->∃u,(execOp ev ⟨dst,op,ty,pos,after,guard⟩).run P w=.ok (.value u) w/\aA w R Pr out.v u/\∀κ∈out.v.refs,Seen ρ ob op.operands.toList out.acc κ:=λ s hs e=>by
  obtain ⟨u,k1,k2,k3⟩:=hs
  refine ⟨u, ?_,k2,k3⟩
  rw [e]
  simp [k1]
 have pU:∀{v:AV} {q:Nat->Prop},v.refs=[]->∀κ∈v.refs,q κ:=λ hv κ aa=>by rw [hv] at aa;cases aa
 have hval:∀{V:Ty} {x:V.D} {v:Value},iG w Pr V x v->aA w R Pr (.cp (e8 V x)) v/\(AV.cp (e8 V x)).refs=[]:=λ hv=>oL hv
 have Ap:∀{a b:Cp} {u v:Value},bf w R Pr a u->bf w R Pr b v->aA w R Pr (.bO [a,b]) (.tuple #[u, v]):=λ h1 h2=>⟨_,rfl,h1,h2,trivial⟩
 have look:∀{t:TypeId} {m x:Operand} {ok:Bool} {K V:Ty} {y:V.D} {l:List (K.D×V.D)} {k:K.D} {blk:Nat} {es:Array MapEntry} {clock:Nat} {acc:List Nat},op=.lookup t m x ok->iI T t K V=some y->jJ K (ρ x)=some k->ev m=.map (some blk)->w.heap[blk]?=some (.map es clock)->jm w Pr K V l es clock->
  out=(match ok with
   |true=>⟨[],acc,.bO [e8 V ((dA (kB K) l k).getD y),.one (.prop ((dA (kB K) l k).isSome=true) inferInstance)]⟩
   |false=>⟨[],acc,.cp (e8 V ((dA (kB K) l k).getD y))⟩)->
  ∃u,(execOp ev ⟨dst,op,ty,pos,after,guard⟩).run P w=.ok (.value u) w/\aA w R Pr out.v u/\∀κ∈out.v.refs,Seen ρ ob op.operands.toList out.acc κ:=by
  intro t m x ok K V y l k blk es clock acc hop hy hk hm hb hs hout
  subst hop
  obtain ⟨v,h1,h2,h3⟩:=qH hT hy hb hs k (jK hk (hρ x))
  obtain ⟨g1,g2⟩:=hval h1
  cases ok with
  |false=>
   subst hout
   exact lift (Instr.lookup t (ev m) (ev x) false) ⟨v,by rw [hm];exact h2,g1,pU g2⟩ rfl
  |true=>
   subst hout
   refine lift (Instr.lookup t (ev m) (ev x) true) ⟨_,by rw [hm];exact h3,Ap g1 (by show Value.bool _=Value.bool _;rw [Bool.decide_eq_true]),pU ?_⟩ rfl
   show [e8 V _,Cp.one _].flatMap Cp.refs=[]
   rw [List.flatMap_cons,show (e8 V _).refs=[] from g2];rfl
 cases op with
 |index t x i=>
  simp only [ej] at h
  split at h
  ·rename_i k n cs e1 e2
   have hx:=hρ x
   have hi:=hρ i
   rw [e2] at hx
   rw [e1] at hi
   have hi:ev i=.int k n:=hi
   obtain ⟨vs,hx1,hx2⟩:=hx
   obtain ⟨u,k1,k2,k3⟩:=ow hT (k:=k) h hh hx2
   refine lift (Instr.index t (ev x) (ev i)) ⟨u,by rw [hi,hx1];exact k1,k2,λ κ aa=>.inl ⟨x,by simp [Op.operands], ?_⟩⟩ rfl
   obtain ⟨c,hc,hk⟩:=k3 κ aa
   rw [e2];exact List.mem_flatMap.2 ⟨c,hc,hk⟩
  ·cases h
 |slice t x lo hi mx=>
  cases lo with
  |some _=>cases hi<;>cases mx<;>simp only [ej] at h<;>cases h
  |none=>
   cases hi with
   |some _=>cases mx<;>simp only [ej] at h<;>cases h
   |none=>
    cases mx with
    |some _=>simp only [ej] at h;cases h
    |none=>
     simp only [ej] at h
     have hx:=hρ x
     split at h
     ·rename_i e y off e1
      rw [e1] at hx
      obtain ⟨c,hc,rfl⟩:=Option.map_eq_some_iff.1 h
      obtain ⟨blk,o,cells,el,fr,us,h1,h2,h3,h4,h5⟩:=hx
      obtain ⟨u,k1,k2,k3⟩:=kN hT hc h2 h3 h4 (bu (R:=R) h5)
      exact lift (Instr.sliceAt t (ev x) none none none) ⟨u,by rw [h1];exact k1,k2,pU k3⟩ rfl
     ·rename_i κ off e1
      rw [e1] at hx
      split at h
      ·rename_i e y ho
       obtain ⟨c,hc,rfl⟩:=Option.map_eq_some_iff.1 h
       obtain ⟨h2,cells,el,fr,us,h3,h4,h5⟩:=aj κ _ ho
       obtain ⟨u,k1,k2,k3⟩:=kN hT hc h2 h3 h4 (bu (R:=R) h5)
       have hx:ev x=.pointer (some ⟨(R κ).blk,off,none⟩):=hx
       exact lift (Instr.sliceAt t (ev x) none none none) ⟨u,by rw [hx];simpa using k1,k2,pU k3⟩ rfl
      ·cases h
     ·cases h
 |lookup t m x ok=>
  simp only [ej] at h
  have hm:=hρ m
  split at h
  ·rename_i κ e1
   rw [e1] at hm
   split at h
   ·rename_i K V l it ho
    split at h
    ·rename_i y k hy hk
     obtain ⟨es,clock,hb,hs1,hs2,yV,_⟩:=aj κ _ ho
     exact look rfl hy hk hm hb ⟨hs1,hs2,yV⟩ (acc:=[κ]) (by cases ok<;>simpa using h.symm)
    ·cases h
   ·cases h
  ·rename_i K V l e1
   rw [e1] at hm
   split at h
   ·rename_i y k hy hk
    obtain ⟨v,blk,es,clock,h1,h2,h3,h4,h5,h6,h7⟩:=hm
    have zW:ev m=.map (some blk):=by
     have:[ev m]=[v]:=h1
     rw [<-h2];simpa using this
    exact look rfl hy hk zW h4 ⟨h5,h6,h7⟩ (acc:=[]) (by cases ok<;>simpa using h.symm)
   ·cases h
  ·cases h
 |entry x=>
  simp only [ej] at h
  have hx:=hρ x
  split at h
  ·rename_i d e1
   rw [e1] at hx
   split at h
   ·rename_i κ hd
    split at h
    ·rename_i K V l d' L kv ho
     split at h
     ·rename_i ij
      have ij:=Nat.eq_of_beq_eq_true ij
      subst ij
      cases h
      obtain ⟨es,clock,hb,⟨hs1,Da⟩,hs2,yV,hit⟩:=aj κ _ ho
      obtain ⟨since,seen,g1,g2,g3,g4,g5⟩:=hit d' L (some kv) rfl
      obtain ⟨i,en,seen',q1,q2,rfl⟩:=g5 kv rfl
      have hx:ev x=.pointer (some ⟨(R d').blk,0,none⟩):=hx
      have hrun:=run_entry_at (P:=P) w (R d').blk (R κ).blk since seen' es clock en g1 ?_ (List.mem_of_getElem? q2) hs1
      ·obtain ⟨m1,m2⟩:=bN.iff.1 (yV i kv en q1 q2)
       obtain ⟨a1,a2⟩:=oL (R:=R) m1
       obtain ⟨b1,b2⟩:=oL (R:=R) m2
       refine lift (Instr.entry (ev x)) ⟨_,by rw [hx];exact hrun,Ap a1 b1,pU ?_⟩ rfl
       show [e8 K _,e8 V _].flatMap Cp.refs=[]
       simp [a2,b2]
      ·exact hb
     ·cases h
    ·cases h
   ·cases h
  ·cases h
 |call c=>
  obtain ⟨callee,args,argTypes⟩:=c
  cases callee with
  |builtin b=>
   cases b with
   |len=>
    simp only [ej] at h
    split at h
    ·rename_i x t e1 e2
     have hx:=hρ x
     split at h
     ·rename_i a i e3 hi
      split at h
      rotate_left
      ·cases h
      rename_i yR
      rw [e3] at hx
      obtain rfl:args= #[x] :=by apply Array.ext';simpa using e1
      obtain rfl:argTypes= #[t] :=by apply Array.ext';simpa using e2
      have hun:∃k v,P.underlying t=some (.map k v):=by
       obtain ⟨d,h1,h2⟩:=cq hT hi
       rw [h2] at yR
       cases d<;>simp [dN,tc] at yR
       exact ⟨_,_,h1⟩
      obtain ⟨kt,vt,hun⟩:=hun
      have key:∀{blk:Nat} {es:Array MapEntry} {clock n:Nat},ev x=.map (some blk)->w.heap[blk]?=some (.map es clock)->es.size=n->(execOp ev ⟨dst,.call ⟨.builtin .len, #[x], #[t]⟩, ty,pos,after,guard⟩).run P w=.ok (.value (.int .i64 (n:Int))) w:=λ hv hb hn=>by
       subst hn
       simp [execOp,resolve,invoke,builtin,Builtin.len_,hv,run_underlying hun,get_map hb,goInt]
      unfold l6 at h
      split at h
      ·rename_i κ
       split at h
       ·rename_i K V l it ho
        cases h
        obtain ⟨es,clock,hb,hs1,hs2,yV,_⟩:=aj κ _ ho
        exact ⟨_,key hx hb (by simpa using hs2),rfl,λ κ aa=>by cases aa⟩
       ·cases h
      ·rename_i K V l
       cases h
       obtain ⟨v,blk,es,clock,h1,h2,h3,h4,h5,h6,h7⟩:=hx
       have zW:ev x=.map (some blk):=by
        have:[ev x]=[v]:=h1
        rw [<-h2];simpa using this
       exact ⟨_,key zW h4 (by simpa using h6),rfl,λ κ aa=>by cases aa⟩
      ·cases h
     ·cases h
    ·cases h
   |_=>simp only [ej] at h;cases h
  |_=>simp only [ej] at h;cases h
 |_=>simp only [ej] at h;cases h
theorem wN {P:Program} {T:bh} (hT:bC P T) {w:World} {R:Nat->RL} {Pr:Nat->Prop} {ob:Nat->Option Ob} (aj:∀κ o,ob κ=some o->az w R Pr κ o)
 {ρ:Operand->AV} {ev:Operand->Value} (hρ:∀x,aA w R Pr (ρ x) (ev x)) {o:Oper} {out:Out} (h:sS T ρ ob o.op=some out) (hh:cz out.conds):
 ∃u,(execOp ev o).run P w=.ok (.value u) w/\aA w R Pr out.v u/\∀κ∈out.v.refs,Seen ρ ob o.op.operands.toList out.acc κ:=by
 unfold sS at h
 split at h
 ·rename_i o' ho
  cases h
  exact vm hT aj hρ ho hh
 ·exact wH hT aj hρ h hh
end Go.Rx
