/- Reflection, part E: comparisons, arithmetic, fields and composite values. -/
import Derived.Test.YtollcjadobpfdaaGreatRxD
import Derived.Laws.StructEq
import Derived.ChangeKeysEq
set_option linter.unusedVariables false
set_option linter.unusedSimpArgs false
set_option linter.unusedSectionVars false
namespace Go.Rx
theorem nq {α:Type} [DecidableEq α] [BEq α] [LawfulBEq α] (a b:α) (d:Decidable (a=b)):(a == b)=@decide (a=b) d:=by
 by_cases h:a=b
 ·subst h;simp
 ·rw [beq_eq_false_iff_ne.2 h];simp [h]
theorem wz (a b:ByteArray) (d:Decidable (a=b)):(a == b)=@decide (a=b) d:=by
 by_cases h:a=b
 ·subst h
  obtain ⟨⟨x⟩⟩:=a
  show ((⟨x⟩:Array UInt8) == ⟨x⟩)=_
  simp
 ·obtain ⟨⟨x⟩⟩:=a
  obtain ⟨⟨y⟩⟩:=b
  show ((⟨x⟩:Array UInt8) == ⟨y⟩)=_
  have:x≠y:=λ e=>h (by rw [e])
  simp [this,h]
section
variable {P:Program} {T:bh} (hT:bC P T) {w:World} {R:Nat->RL} {Pr:Nat->Prop}
include hT
theorem qg {t:TypeId} {i:TI} {fs:List (Nat×TypeId)} (h:T.get t=some i) (hd:i.d=.struct fs) (he:i.eq=true):
 ∃ gs : Array Field, P.underlying t = some (.struct gs) ∧ fs = gs.toList.map (fun f => (f.offset, f.type)) ∧ P.stoodInHeld t = false ∧ P.eqGuardType P.depth t = false ∧ ∀ f ∈ gs.toList, (f.name == "_") = false := by
 obtain ⟨ti,d,h1,h2,rfl⟩:=ga hT h
 simp only at hd he
 cases d<;>simp only [dN] at hd<;>cases hd
 simp only [sN,Bool.and_eq_true,Bool.not_eq_true',List.all_eq_true] at he
 exact ⟨_,h2,rfl,he.1.1,he.1.2,λ f hf=>by simpa using he.2 f hf⟩
theorem l5 {t:TypeId} {i:TI} (hi:T.get t=some i) {a b:C} {u v:Value} {x:DP} (h:qT i.d a b=some x) (ha:au w R Pr a u) (hb:au w R Pr b v) (n:Nat):
 (Op.equalIn (n+1) t u v).run P w=.ok (@decide x.p x.d) w:=by
 obtain ⟨d,h1,h2⟩:=cq hT hi
 rw [h2] at h
 unfold qT at h
 split at h
 ·rename_i k hk a1 k1 b1 e
  split at h
  ·cases h
   rename_i hk'
   subst hk'
   simp only [au] at ha hb
   subst ha hb
   cases d<;>simp only [dN] at e<;>cases e
   rw [run_equalIn_int w n t _ _ _ _ h1,nq]
  ·cases h
 ·rename_i a1 b1 e
  cases h
  simp only [au] at ha hb
  subst ha hb
  cases d<;>simp only [dN] at e<;>cases e
  simp [Op.equalIn,run_underlying h1]
  exact wz _ _ _
 all_goals first
  | (rename_i e
     cases h
     simp only [au] at ha hb
     subst ha hb
     cases d<;>simp only [dN] at e<;>cases e
     rw [run_equalIn_bool' w n t _ _ h1,nq])
  |cases h
theorem fM:∀(l:List DP),@decide (conj l).p (conj l).d=l.all (λ x=>@decide x.p x.d)
 | []=>rfl
 | [x]=>by show @decide x.p x.d=(@decide x.p x.d && true);simp
 |x::y::r=>by
  have ih:=fM (y::r)
  rw [List.all_cons, <-ih]
  by_cases h:x.p
  ·by_cases g:(conj (y::r)).p
   ·simp [conj,h,g] at *
   ·have: ¬(conj (x::y::r)).p:=λ z=>g z.2
    simp [this,h,g]
  ·have: ¬(conj (x::y::r)).p:=λ z=>h z.1
   simp [this,h]
theorem fZ {t:TypeId} {i:TI} (hi:T.get t=some i) (hd:i.d.agg=false) {vs:Array Value} {off:Nat} {u:Value} (hu:vs[off]?=some u):(part t vs off).run P w=.ok u w:=by
 simp [part,nJ hT hi,hd,hu]
theorem jE {t:TypeId} {i:TI} (hi:T.get t=some i) (hd:i.d.agg=true) {vs:Array Value} {off:Nat}:(part t vs off).run P w=.ok (.agg (vs.extract off (off+i.size))) w:=by
 simp [part,nJ hT hi,hd,bQ hT hi]
theorem eU (vs:Array Value) (off n:Nat):(vs.extract off (off+n)).toList=(vs.toList.drop off).take n:=by
 rw [Array.toList_extract,List.extract_eq_take_drop]
 congr 1
 omega
def gq (e : TypeId) (o : Nat) : Field := ⟨"x", e, o, false, "", "", 0⟩
omit hT in
theorem gw (d:Nat) (e:TypeId) (n:Nat) (xs ys:Array Value):∀(is:List Nat),Op.eqItems d e n xs ys is=Op.eqFields d xs ys (is.map λ j=>gq e (j * n))
 | []=>rfl
 |i::is=>by
  rw [Op.eqItems,List.map_cons,Op.eqFields,gw d e n xs ys is,if_pos (by simp [gq])]
  rfl
theorem qL {t e:TypeId} {i:TI} {n:Nat} (h:T.get t=some i) (hd:i.d=.array n e) (he:i.eq=true):P.underlying t=some (.array n e)/\P.eqGuardType P.depth t=false:=by
 obtain ⟨ti,d,h1,h2,h3⟩:=ga hT h
 subst h3
 cases d<;>simp [dN] at hd
 obtain ⟨rfl,rfl⟩:=hd
 refine ⟨h2, ?_⟩
 simpa [sN] using he
theorem dy : ∀ (n : Nat) (gs : List Field) (cs ds : List C) (us vs : Array Value) (l : List DP) (m : Nat), jq T n (gs.map fun f => (f.offset, f.type)) cs ds = some l → (∀ f ∈ gs, (f.name == "_") = false) →
 an (au w R Pr) cs us.toList->an (au w R Pr) ds vs.toList->n<=m->(Op.eqFields m us vs gs).run P w=.ok (l.all λ x=>@decide x.p x.d) w
 | 0,_,_,_,_,_,_,_,h,_,_,_,_=>by simp [jq] at h
 |n+1,[],cs,ds,us,vs,l,m,h,_,_,_,_=>by
  simp only [jq,List.map_nil] at h
  cases h
  simp [Op.eqFields]
 |n+1,f::gs,cs,ds,us,vs,l,m,h,hn,hc,hd,hm=>by
  obtain ⟨m,rfl⟩:∃k,m=k+1:=⟨m - 1,by omega⟩
  have hf:=hn f (by simp)
  have hf' : f.name ≠ "_" := by simpa using hf
  simp only [jq,List.map_cons] at h
  have step:∀(a b:Value) (r:Bool) (s:List DP),(part f.type us f.offset).run P w=.ok a w->(part f.type vs f.offset).run P w=.ok b w->(Op.equalIn (m+1) f.type a b).run P w=.ok r w->
   (Op.eqFields (m+1) us vs gs).run P w=.ok (s.all λ x=>@decide x.p x.d) w->(Op.eqFields (m+1) us vs (f::gs)).run P w=.ok (r && s.all λ x=>@decide x.p x.d) w:=λ a b r s h1 h2 h3 h4=>by
   rw [Op.eqFields]
   simp only [if_pos hf',Sem.run_bind,h1,h2,h3,Result.andThen_ok]
   cases r
   ·simp
   ·simpa using h4
  split at h
  ·rename_i i hi
   split at h
   ·rename_i fs ep
    split at h
    ·rename_i aY
     simp only [Bool.and_eq_true,Nat.ble_eq] at aY
     split at h
     ·rename_i x y hx hy
      cases h
      obtain ⟨gs',k1,k2,k3,k4,k5⟩:=qg hT hi ep aY.1.1
      rw [k2] at hx
      have ih1:=dy n gs'.toList _ _ (us.extract f.offset (f.offset+i.size)) (vs.extract f.offset (f.offset+i.size)) x m hx k5 (by rw [eU hT];exact (hc.drop _).take _) (by rw [eU hT];exact (hd.drop _).take _) (by omega)
      have ih2:=dy n gs cs ds us vs y (m+1) hy (λ f' hf'=>hn f' (by simp [hf'])) hc hd (by omega)
      rw [List.all_cons,fM hT x]
      refine step _ _ _ y (jE hT hi (by rw [ep];rfl)) (jE hT hi (by rw [ep];rfl)) ?_ ih2
      have hfo:P.fieldsOf f.type=gs':=by simp [Program.fieldsOf,k1]
      rw [run_equalIn_struct (P:=P) w m f.type _ _ (by rw [hfo];exact k1) k3,hfo]
      exact ih1
     ·cases h
    ·cases h
   ·rename_i q el ep
    split at h
    ·rename_i ei eD
     split at h
     ·rename_i aY
      simp only [Bool.and_eq_true,Nat.ble_eq] at aY
      split at h
      ·rename_i x y hx hy
       cases h
       obtain ⟨k1,k4⟩:=qL hT hi ep aY.1.1
       obtain ⟨ti,g1,g2,_⟩:=dM hT eD
       have hsz:P.cellsOf el=ei.size:=by rw [<-g2];simp [Program.cellsOf,g1]
       have ih1:=dy n ((List.range q).map λ j=>gq el (j * ei.size)) _ _ (us.extract f.offset (f.offset+i.size)) (vs.extract f.offset (f.offset+i.size)) x m (by rw [List.map_map];exact hx) (λ f hf=>by
        obtain ⟨j,_,rfl⟩:=List.mem_map.1 hf;rfl) (by rw [eU hT];exact (hc.drop _).take _) (by rw [eU hT];exact (hd.drop _).take _) (by omega)
       have ih2:=dy n gs cs ds us vs y (m+1) hy (λ f' hf'=>hn f' (by simp [hf'])) hc hd (by omega)
       rw [List.all_cons,fM hT x]
       refine step _ _ _ y (jE hT hi (by rw [ep];rfl)) (jE hT hi (by rw [ep];rfl)) ?_ ih2
       rw [run_equalIn_array w m _ _ k1 g1,hsz,gw]
       exact ih1
      ·cases h
     ·cases h
    ·cases h
   all_goals first
    | (rename_i ep
       split at h
       ·rename_i a b ha hb
        split at h
        ·rename_i x y hx hy
         cases h
         obtain ⟨u,hu,mw⟩:=hc.get ha
         obtain ⟨v,hv,CF⟩:=hd.get hb
         have ih2:=dy n gs cs ds us vs y (m+1) hy (λ f' hf'=>hn f' (by simp [hf'])) hc hd (by omega)
         rw [List.all_cons]
         exact step _ _ _ y (fZ hT hi (by rw [ep];rfl) (by simpa using hu)) (fZ hT hi (by rw [ep];rfl) (by simpa using hv)) (l5 hT hi hx mw CF m) ih2
        ·cases h
       ·cases h)
    |cases h
  ·cases h
theorem rR {t:TypeId} {e:TypeId} (hu:P.underlying t=some (.slice e)) {a b:C} {u v:Value} {x:DP} (h:nv a b=some x) (ha:au w R Pr a u) (hb:au w R Pr b v):
 (Op.equal t u v).run P w=.ok (@decide x.p x.d) w:=by
 have hnil:∀{α:Type} (x:gH true α) (A:Option Addr) (c:Nat),qd true x A c->A.isNone=@decide (td x=true) inferInstance:=λ x A c h=>by
  cases x with
  |none=>rw [show A=none from h.1];rfl
  |some _=>
   cases A with
   |none=>exact (h rfl).elim
   |some _=>rfl
 have Ba:∀(n m c:Nat) (A:Option Addr),(Op.equalIn (n+1) t (.slice A m c) (.slice none 0 0)).run P w=.ok A.isNone w:=λ n m c A=>by
  cases A<;>simp [Op.equalIn,run_underlying hu]
 have Ch:∀(n m c:Nat) (A:Option Addr),(Op.equalIn (n+1) t (.slice none 0 0) (.slice A m c)).run P w=.ok A.isNone w:=λ n m c A=>by
  simp [Op.equalIn,run_underlying hu]
 unfold nv at h
 split at h
 ·cases h
  simp only [au] at ha hb
  subst ha hb
  exact Ba 9999 0 0 none
 ·rename_i e1 y
  cases h
  obtain ⟨A,cap,h1,h2,h3,h4⟩:=ha
  simp only [au] at hb
  subst hb
  obtain rfl:u=.slice A (bX true y).length cap:=by simpa using h1
  rw [<-hnil y A _ h3]
  exact Ba 9999 _ _ _
 ·rename_i e1 y
  cases h
  obtain ⟨A,cap,h1,h2,h3,h4⟩:=hb
  simp only [au] at ha
  subst ha
  obtain rfl:v=.slice A (bX true y).length cap:=by simpa using h1
  rw [<-hnil y A _ h3]
  exact Ch 9999 _ _ _
 ·cases h
theorem o7 {t:TypeId} {x y:AV} {u v:Value} {p:DP} (h:vg T t x y=some p) (hx:aA w R Pr x u) (hy:aA w R Pr y v) (ox oy:Operand):
 (eqGuard .eql t ox oy u v).run P w=.ok () w/\(eqGuard .neq t ox oy u v).run P w=.ok () w/\(binOp .eql t u v).run P w=.ok (.bool (@decide p.p p.d)) w/\(binOp .neq t u v).run P w=.ok (.bool (!(@decide p.p p.d))) w:=by
 unfold vg at h
 split at h
 ·rename_i a b
  simp only [aA,bf] at hx hy
  split at h
  ·rename_i i hi
   have flat:qT i.d a b=some p->(eqGuard .eql t ox oy u v).run P w=.ok () w/\(eqGuard .neq t ox oy u v).run P w=.ok () w/\(binOp .eql t u v).run P w=.ok (.bool (@decide p.p p.d)) w/\(binOp .neq t u v).run P w=.ok (.bool (!(@decide p.p p.d))) w:=λ h=>by
    have hs:=l5 hT hi h hx hy 9999
    unfold qT at h
    split at h
    ·split at h
     ·cases h
      rename_i hk
      subst hk
      simp only [au] at hx hy
      subst hx hy
      simp [eqGuard,binOp,Op.intCmp,nq,bne]
     ·cases h
    ·cases h
     simp only [au] at hx hy
     subst hx hy
     simp [eqGuard,binOp,Op.stringOp, <-beq_toListBytes,wz]
    all_goals first
     | (cases h
        simp only [au] at hx hy
        subst hx hy
        simp only at hs
        simp [eqGuard,binOp,Op.equal,Op.maxDepth,hs])
     |cases h
   split at h
   ·exact flat h
   ·exact flat h
   ·exact flat h
   ·rename_i e hd
    have hu:=bY hT hi hd
    have hs:=rR hT hu h hx hy
    have mz:∀{c:C} {z:Value},au w R Pr c z->(c=.nil\/∃e y,c=.val true e y)->∃A n c,z=.slice A n c:=λ hc hcs=>by
     rcases hcs with rfl|⟨e,y,rfl⟩
     ·exact ⟨none,0,0,hc⟩
     ·obtain ⟨A,cap,h1,_⟩:=hc;exact ⟨A,_,cap,by simpa using h1⟩
    have hab:(a=.nil\/∃e y,a=.val true e y)/\(b=.nil\/∃e y,b=.val true e y):=by
     unfold nv at h
     split at h
     ·exact ⟨.inl rfl,.inl rfl⟩
     ·exact ⟨.inr ⟨_,_,rfl⟩,.inl rfl⟩
     ·exact ⟨.inl rfl,.inr ⟨_,_,rfl⟩⟩
     ·cases h
    obtain ⟨A,n,c,rfl⟩:=mz hx hab.1
    obtain ⟨A',n',c',rfl⟩:=mz hy hab.2
    simp [eqGuard,binOp,hs]
   ·cases h
  ·cases h
 ·rename_i cs ds
  obtain ⟨us,rfl,hu⟩:=hx
  obtain ⟨vs,rfl,hv⟩:=hy
  split at h
  ·rename_i i hi
   split at h
   ·rename_i fs hd
    split at h
    ·rename_i he
     obtain ⟨gs,k1,k2,k3,k4,k5⟩:=qg hT hi hd he
     obtain ⟨l,hl,rfl⟩:=Option.map_eq_some_iff.1 h
     rw [k2] at hl
     have ih:=dy hT 40 gs.toList cs ds us vs l 9999 hl k5 hu hv (by omega)
     have hfo:P.fieldsOf t=gs:=by simp [Program.fieldsOf,k1]
     have hs:(Op.equalIn 10000 t (.agg us) (.agg vs)).run P w=.ok (@decide (conj l).p (conj l).d) w:=by
      rw [run_equalIn_struct (P:=P) w 9999 t _ _ (by rw [hfo];exact k1) k3,hfo,fM hT l]
      exact ih
     refine ⟨run_eqGuard_agg w _ _ _ _ _ _ k4,run_eqGuard_agg w _ _ _ _ _ _ k4, ?_, ?_⟩
     ·rw [run_eql_struct,hs];rfl
     ·rw [run_neq_struct,hs];rfl
    ·cases h
   ·rename_i m el hd
    split at h
    ·rename_i ei eD
     split at h
     ·rename_i he
      obtain ⟨k1,k4⟩:=qL hT hi hd he
      obtain ⟨l,hl,rfl⟩:=Option.map_eq_some_iff.1 h
      obtain ⟨ti,g1,g2,_⟩:=dM hT eD
      have hsz:P.cellsOf el=ei.size:=by rw [<-g2];simp [Program.cellsOf,g1]
      have ih:=dy hT 40 ((List.range m).map λ j=>gq el (j * ei.size)) cs ds us vs l 9999 (by rw [List.map_map];exact hl) (λ f hf=>by
       obtain ⟨j,_,rfl⟩:=List.mem_map.1 hf;rfl) hu hv (by omega)
      have hs:(Op.equalIn 10000 t (.agg us) (.agg vs)).run P w=.ok (@decide (conj l).p (conj l).d) w:=by
       rw [run_equalIn_array w 9999 us vs k1 g1,hsz,gw,fM hT l]
       exact ih
      refine ⟨run_eqGuard_agg w _ _ _ _ _ _ k4,run_eqGuard_agg w _ _ _ _ _ _ k4, ?_, ?_⟩
      ·rw [run_eql_struct,hs];rfl
      ·rw [run_neq_struct,hs];rfl
     ·cases h
    ·cases h
   ·cases h
  ·cases h
 ·cases h
theorem uc {op:BinOp} {t:TypeId} {k:IntKind} {a b:Int} {r:List DP×C} (h:vh op k a b=some r) (hne:op≠ .eql/\op≠ .neq) (hh:cz r.1) (ox oy:Operand):
 ∃u,(eqGuard op t ox oy (.int k a) (.int k b)).run P w=.ok () w/\(binOp op t (.int k a) (.int k b)).run P w=.ok u w/\au w R Pr r.2 u/\r.2.refs=[]:=by
 unfold vh at h
 split at h
 all_goals first| (cases h;done)|skip
 all_goals cases h
 ·exact ⟨_,by simp [eqGuard],by simp [binOp,Op.intArith],rfl,rfl⟩
 ·exact ⟨_,by simp [eqGuard],by simp [binOp,Op.intArith],rfl,rfl⟩
 ·exact ⟨_,by simp [eqGuard],by simp [binOp,Op.intArith],rfl,rfl⟩
 ·have hb: ¬b=0:=hh ⟨¬b=0,inferInstance⟩ (by simp)
  exact ⟨_,by simp [eqGuard],by simp [binOp,Op.intDiv,hb],rfl,rfl⟩
 ·have hb: ¬b=0:=hh ⟨¬b=0,inferInstance⟩ (by simp)
  exact ⟨_,by simp [eqGuard],by simp [binOp,Op.intDiv,hb],rfl,rfl⟩
 ·exact (hne.1 rfl).elim
 ·exact (hne.2 rfl).elim
 ·exact ⟨_,by simp [eqGuard],by simp [binOp,Op.intCmp],rfl,rfl⟩
 ·exact ⟨_,by simp [eqGuard],by simp [binOp,Op.intCmp],rfl,rfl⟩
 ·exact ⟨_,by simp [eqGuard],by simp [binOp,Op.intCmp],rfl,rfl⟩
 ·exact ⟨_,by simp [eqGuard],by simp [binOp,Op.intCmp],rfl,rfl⟩
 ·exact ⟨_,by simp [eqGuard],by simp [binOp,Op.intBits,qj],rfl,rfl⟩
 ·exact ⟨_,by simp [eqGuard],by simp [binOp,Op.intBits,qj],rfl,rfl⟩
 ·exact ⟨_,by simp [eqGuard],by simp [binOp,Op.intBits,qj],rfl,rfl⟩
 ·have hb:0<=b:=hh ⟨0<=b,inferInstance⟩ (by simp)
  have hb': ¬b <0:=by omega
  exact ⟨_,by simp [eqGuard],by simp [binOp,Op.shift,hb'],rfl,rfl⟩
 ·have hb:0<=b:=hh ⟨0<=b,inferInstance⟩ (by simp)
  have hb': ¬b <0:=by omega
  exact ⟨_,by simp [eqGuard],by simp [binOp,Op.shift,hb'],rfl,rfl⟩
theorem rS {op:BinOp} {t:TypeId} {k k':IntKind} {a b:Int} {r:List DP×C} (h:qn op k a b=some r) (hh:cz r.1) (ox oy:Operand):
 ∃u,(eqGuard op t ox oy (.int k a) (.int k' b)).run P w=.ok () w/\(binOp op t (.int k a) (.int k' b)).run P w=.ok u w/\au w R Pr r.2 u/\r.2.refs=[]:=by
 unfold qn at h
 split at h
 all_goals first| (cases h;done)|skip
 all_goals cases h
 ·have hb:0<=b:=hh ⟨0<=b,inferInstance⟩ (by simp)
  have hb': ¬b <0:=by omega
  exact ⟨_,by simp [eqGuard],by simp [binOp,Op.shift,hb'],rfl,rfl⟩
 ·have hb:0<=b:=hh ⟨0<=b,inferInstance⟩ (by simp)
  have hb': ¬b <0:=by omega
  exact ⟨_,by simp [eqGuard],by simp [binOp,Op.shift,hb'],rfl,rfl⟩
theorem tZ {op:BinOp} {t:TypeId} {x y:AV} {u v:Value} {out:Out} (h:vf T op t x y=some out) (hh:cz out.conds) (hx:aA w R Pr x u) (hy:aA w R Pr y v) (ox oy:Operand):
 ∃r,(eqGuard op t ox oy u v).run P w=.ok () w/\(binOp op t u v).run P w=.ok r w/\aA w R Pr out.v r/\out.v.refs=[]:=by
 unfold vf at h
 split at h
 ·obtain ⟨p,hp,rfl⟩:=Option.map_eq_some_iff.1 h
  have:=o7 hT hp hx hy ox oy
  exact ⟨_,this.1,this.2.2.1,rfl,rfl⟩
 ·obtain ⟨p,hp,rfl⟩:=Option.map_eq_some_iff.1 h
  have:=o7 hT hp hx hy ox oy
  refine ⟨_,this.2.1,this.2.2.2, ?_,rfl⟩
  show Value.bool _=Value.bool _
  by_cases g:p.p<;>simp [g]
 ·rename_i h1 h2
  split at h
  ·split at h
   ·rename_i k a k' b hk
    subst hk
    obtain ⟨r,hr,rfl⟩:=Option.map_eq_some_iff.1 h
    simp only [aA,bf,au] at hx hy
    subst hx hy
    obtain ⟨u,k1,k2,k3,k4⟩:=uc hT (t:=t) (w:=w) (R:=R) (Pr:=Pr) hr ⟨h1,h2⟩ hh ox oy
    exact ⟨u,k1,k2,k3,k4⟩
   ·rename_i k a k' b hk
    obtain ⟨r,hr,rfl⟩:=Option.map_eq_some_iff.1 h
    simp only [aA,bf,au] at hx hy
    subst hx hy
    obtain ⟨u,k1,k2,k3,k4⟩:=rS hT (t:=t) (w:=w) (R:=R) (Pr:=Pr) hr hh ox oy
    exact ⟨u,k1,k2,k3,k4⟩
  ·cases h
theorem vk {op:UnOp} {c:C} {u:Value} {out:Out} (h:x3 op c=some out) (hc:au w R Pr c u):
 ∃r,(Op.unary op u).run P w=.ok r w/\aA w R Pr out.v r/\out.v.refs=[]:=by
 unfold x3 at h
 split at h
 ·cases h
  simp only [au] at hc
  subst hc
  exact ⟨_,by simp [Op.unary],rfl,rfl⟩
 ·rename_i p d
  cases h
  simp only [au] at hc
  subst hc
  refine ⟨_,by simp [Op.unary];rfl, ?_,rfl⟩
  show Value.bool _=Value.bool _
  by_cases g:p<;>simp [g]
 ·cases h
  simp only [au] at hc
  subst hc
  exact ⟨.int _ (IntKind.wrap _ (0 - _)),by simp only [Op.unary,Op.intArith,Sem.run_pure],rfl,rfl⟩
 ·cases h
theorem sP {src dst:TypeId} {c:C} {u:Value} {out:Out} (h:sO T src dst c=some out) (hc:au w R Pr c u):
 ∃r,(convert src dst u).run P w=.ok r w/\aA w R Pr out.v r/\out.v.refs=[]:=by
 unfold sO at h
 split at h
 ·split at h
  ·rename_i i1 i2 h1 h2
   split at h
   ·rename_i k hd
    cases h
    simp only [au] at hc
    subst hc
    obtain ⟨d1,g1,_⟩:=cq hT h1
    have g2:=jj hT h2 hd
    exact ⟨_,by simp [convert,run_underlying g1,run_underlying g2,Conv.intToInt],rfl,rfl⟩
   ·cases h
  ·cases h
 ·cases h
theorem uQ {i:TI} {cs:List C} {off:Nat} {x:Cp} {vs:Array Value} {t:TypeId} (ht:T.get t=some i) (hr:an (au w R Pr) cs vs.toList) (hx:gE i cs off=some x):
 ∃u,(part t vs off).run P w=.ok u w/\bf w R Pr x u/\∀κ∈x.refs,∃c∈cs,κ∈c.refs:=by
 have pI:∀(h:off+i.size<=cs.length),x=.agg ((cs.drop off).take i.size)->i.d.agg=true->∃u,(part t vs off).run P w=.ok u w/\bf w R Pr x u/\∀κ∈x.refs,∃c∈cs,κ∈c.refs:=λ h hx hagg=>by
  subst hx
  refine ⟨_,jE hT ht hagg,⟨_,rfl,by rw [eU hT];exact (hr.drop _).take _⟩,λ κ aa=> ?_⟩
  obtain ⟨c,hc,hk⟩:=List.mem_flatMap.1 aa
  exact ⟨c,List.mem_of_mem_drop (List.mem_of_mem_take hc),hk⟩
 unfold gE at hx
 split at hx
 ·rename_i fs hd
  split at hx
  ·rename_i h;exact pI h (Option.some.inj hx).symm (by rw [hd];rfl)
  ·cases hx
 ·rename_i n e hd
  split at hx
  ·rename_i h;exact pI h (Option.some.inj hx).symm (by rw [hd];rfl)
  ·cases hx
 ·cases hx
 ·rename_i h1 h2 h3
  split at hx
  ·rename_i c hc
   cases hx
   obtain ⟨u,hu,mw⟩:=hr.get hc
   refine ⟨u,fZ hT ht ?_ (by simpa using hu),mw,λ κ aa=>⟨c,List.mem_of_getElem? hc,aa⟩⟩
   revert h1 h2
   generalize i.d=d
   intro h1 h2
   cases d<;>first|rfl|exact absurd rfl (h1 _)|exact absurd rfl (h2 _ _)
  ·cases hx
theorem rQ {s:TypeId} {f:Nat} {cs:List C} {vs:Array Value} {out:Out} (h:qm T s f cs=some out) (hc:an (au w R Pr) cs vs.toList):
 ∃r,(Instr.field s (.agg vs) f).run P w=.ok r w/\aA w R Pr out.v r/\∀κ∈out.v.refs,∃c∈cs,κ∈c.refs:=by
 unfold qm at h
 split at h
 ·rename_i o ft hf
  unfold kg at hf
  split at hf
  ·rename_i i hi
   split at hf
   ·rename_i fs hd
    obtain ⟨gs,hg1,hg2⟩:=iX hT hi hd
    rw [hg2,List.getElem?_map] at hf
    obtain ⟨fd,rq,he⟩:=Option.map_eq_some_iff.1 hf
    cases he
    have x8:gs[f]?=some fd:=by simpa using rq
    split at h
    ·rename_i i2 hi2
     split at h
     ·rename_i x hx
      cases h
      obtain ⟨u,k1,k2,k3⟩:=uQ hT hi2 hc hx
      exact ⟨u,by simp [Instr.field,run_underlying hg1,x8,asAgg,k1],k2,k3⟩
     ·cases h
    ·cases h
   ·cases hf
  ·cases hf
 ·cases h
theorem ow {t:TypeId} {cs:List C} {cst:Bool} {n:Int} {k:IntKind} {vs:Array Value} {out:Out} (h:kU T t cs cst n=some out) (hh:cz out.conds) (hc:an (au w R Pr) cs vs.toList):
 ∃u,(Instr.index t (.agg vs) (.int k n)).run P w=.ok u w/\aA w R Pr out.v u/\∀κ∈out.v.refs,∃c∈cs,κ∈c.refs:=by
 unfold kU at h
 split at h
 ·rename_i i hi
  split at h
  ·rename_i m el hd
   have wV:=iE hT hi hd
   split at h
   ·rename_i ei eD
    have key:∀{q:Nat} {x:Cp},q <m->n=(q:Int)->gE ei cs (q * ei.size)=some x->∃u,(Instr.index t (.agg vs) (.int k n)).run P w=.ok u w/\bf w R Pr x u/\∀κ∈x.refs,∃c∈cs,κ∈c.refs:=λ {q x} hq hn hx=>by
     obtain ⟨u,k1,k2,k3⟩:=uQ hT eD hc hx
     refine ⟨u, ?_,k2,k3⟩
     subst hn
     have h0:(0:Int)<=(q:Int):=Int.natCast_nonneg q
     have h1:(q:Int) <(m:Int):=by omega
     simp [Instr.index,asIntOf,run_underlying wV,h1,bQ hT eD,k1]
     intro hz;omega
    split at h
    ·split at h
     ·rename_i q
      split at h
      ·rename_i hq
       obtain ⟨x,hx,rfl⟩:=Option.map_eq_some_iff.1 h
       exact key hq rfl hx
      ·cases h
     ·cases h
    ·split at h
     ·rename_i acc xs hm
      obtain ⟨x,hx,rfl⟩:=Option.map_eq_some_iff.1 h
      have h0:0<=n:=hh ⟨0<=n,inferInstance⟩ (by simp)
      have h1:n <(m:Int):=hh ⟨n <(m:Int),inferInstance⟩ (by simp)
      obtain ⟨g1,g2⟩:=lg hm
      obtain ⟨a,y,k1,k2,_⟩:=g2 n.toNat (by omega)
      obtain ⟨z,hz,e⟩:=Option.map_eq_some_iff.1 k1
      cases e
      obtain ⟨u,m1,m2,_⟩:=key (q:=n.toNat) (by omega) (by omega) hz
      obtain ⟨m3,m4⟩:=rG hx k2 m2
      exact ⟨u,m1,m3,λ κ aa=>by
       have aa:κ∈x.refs:=aa
       rw [m4] at aa;cases aa⟩
     ·cases h
   ·cases h
  ·cases h
 ·cases h
end
end Go.Rx
