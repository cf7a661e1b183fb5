/- Reflection, part E: comparisons, arithmetic, fields and composite values. -/
import Derived.Test.YthfjdcdbimjkjaaRxD
import Derived.Laws.StructEq
import Derived.ChangeKeysEq
set_option linter.unusedVariables false
set_option linter.unusedSimpArgs false
set_option linter.unusedSectionVars false
namespace Go.Rx
theorem ni {α:Type} [DecidableEq α] [BEq α] [LawfulBEq α] (a b:α) (d:Decidable (a=b)):(a == b)=@decide (a=b) d:=by
 by_cases h:a=b
 ·subst h;simp
 ·rw [beq_eq_false_iff_ne.2 h];simp [h]
theorem we (a b:ByteArray) (d:Decidable (a=b)):(a == b)=@decide (a=b) d:=by
 by_cases h:a=b
 ·subst h
  obtain ⟨⟨x⟩⟩:=a
  show ((⟨x⟩:Array UInt8) == ⟨x⟩)=_
  simp
 ·obtain ⟨⟨x⟩⟩:=a
  obtain ⟨⟨y⟩⟩:=b
  show ((⟨x⟩:Array UInt8) == ⟨y⟩)=_
  have:x≠y:=λ e=>h (by rw [e])
  simp [this,h]
section
variable {P:Program} {T:bh} (hT:bA P T) {w:World} {R:Nat->RL} {Pr:Nat->Prop}
include hT
theorem qb {t:TypeId} {i:TI} {fs:List (Nat×TypeId)} (h:T.get t=some i) (hd:i.d=.struct fs) (he:i.eq=true):
 ∃ gs : Array Field, P.underlying t = some (.struct gs) ∧ fs = gs.toList.map (fun f => (f.offset, f.type)) ∧ P.stoodInHeld t = false ∧ P.eqGuardType P.depth t = false ∧ ∀ f ∈ gs.toList, (f.name == "_") = false := by
 obtain ⟨ti,d,h1,h2,rfl⟩:=ga hT h
 simp only at hd he
 cases d<;>simp only [dM] at hd<;>cases hd
 simp only [sH,Bool.and_eq_true,Bool.not_eq_true',List.all_eq_true] at he
 exact ⟨_,h2,rfl,he.1.1,he.1.2,λ f hf=>by simpa using he.2 f hf⟩
theorem lY {t:TypeId} {i:TI} (hi:T.get t=some i) {a b:C} {u v:Value} {x:DP} (h:qO i.d a b=some x) (ha:au w R Pr a u) (hb:au w R Pr b v) (n:Nat):
 (Op.equalIn (n+1) t u v).run P w=.ok (@decide x.p x.d) w:=by
 obtain ⟨d,h1,h2⟩:=cm hT hi
 rw [h2] at h
 unfold qO at h
 split at h
 ·rename_i k hk a1 k1 b1 e
  split at h
  ·cases h
   rename_i hk'
   subst hk'
   simp only [au] at ha hb
   subst ha hb
   cases d<;>simp only [dM] at e<;>cases e
   rw [run_equalIn_int w n t _ _ _ _ h1,ni]
  ·cases h
 ·rename_i a1 b1 e
  cases h
  simp only [au] at ha hb
  subst ha hb
  cases d<;>simp only [dM] at e<;>cases e
  simp [Op.equalIn,run_underlying h1]
  exact we _ _ _
 all_goals first
  | (rename_i e
     cases h
     simp only [au] at ha hb
     subst ha hb
     cases d<;>simp only [dM] at e<;>cases e
     rw [run_equalIn_bool' w n t _ _ h1,ni])
  |cases h
theorem fK:∀(l:List DP),@decide (conj l).p (conj l).d=l.all (λ x=>@decide x.p x.d)
 | []=>rfl
 | [x]=>by show @decide x.p x.d=(@decide x.p x.d && true);simp
 |x::y::r=>by
  have ih:=fK (y::r)
  rw [List.all_cons, <-ih]
  by_cases h:x.p
  ·by_cases g:(conj (y::r)).p
   ·simp [conj,h,g] at *
   ·have: ¬(conj (x::y::r)).p:=λ z=>g z.2
    simp [this,h,g]
  ·have: ¬(conj (x::y::r)).p:=λ z=>h z.1
   simp [this,h]
theorem fZ {t:TypeId} {i:TI} (hi:T.get t=some i) (hd:i.d.agg=false) {vs:Array Value} {off:Nat} {u:Value} (hu:vs[off]?=some u):(part t vs off).run P w=.ok u w:=by
 simp [part,nH hT hi,hd,hu]
theorem jD {t:TypeId} {i:TI} (hi:T.get t=some i) (hd:i.d.agg=true) {vs:Array Value} {off:Nat}:(part t vs off).run P w=.ok (.agg (vs.extract off (off+i.size))) w:=by
 simp [part,nH hT hi,hd,bQ hT hi]
theorem eT (vs:Array Value) (off n:Nat):(vs.extract off (off+n)).toList=(vs.toList.drop off).take n:=by
 rw [Array.toList_extract,List.extract_eq_take_drop]
 congr 1
 omega
def gp (e : TypeId) (o : Nat) : Field := ⟨"x", e, o, false, "", "", 0⟩
omit hT in
theorem gv (d:Nat) (e:TypeId) (n:Nat) (xs ys:Array Value):∀(is:List Nat),Op.eqItems d e n xs ys is=Op.eqFields d xs ys (is.map λ j=>gp e (j * n))
 | []=>rfl
 |i::is=>by
  rw [Op.eqItems,List.map_cons,Op.eqFields,gv d e n xs ys is,if_pos (by simp [gp])]
  rfl
theorem qG {t e:TypeId} {i:TI} {n:Nat} (h:T.get t=some i) (hd:i.d=.array n e) (he:i.eq=true):P.underlying t=some (.array n e)/\P.eqGuardType P.depth t=false:=by
 obtain ⟨ti,d,h1,h2,h3⟩:=ga hT h
 subst h3
 cases d<;>simp [dM] at hd
 obtain ⟨rfl,rfl⟩:=hd
 refine ⟨h2, ?_⟩
 simpa [sH] using he
theorem dy : ∀ (n : Nat) (gs : List Field) (cs ds : List C) (us vs : Array Value) (l : List DP) (m : Nat), jo T n (gs.map fun f => (f.offset, f.type)) cs ds = some l → (∀ f ∈ gs, (f.name == "_") = false) →
 an (au w R Pr) cs us.toList->an (au w R Pr) ds vs.toList->n<=m->(Op.eqFields m us vs gs).run P w=.ok (l.all λ x=>@decide x.p x.d) w
 | 0,_,_,_,_,_,_,_,h,_,_,_,_=>by simp [jo] at h
 |n+1,[],cs,ds,us,vs,l,m,h,_,_,_,_=>by
  simp only [jo,List.map_nil] at h
  cases h
  simp [Op.eqFields]
 |n+1,f::gs,cs,ds,us,vs,l,m,h,hn,hc,hd,hm=>by
  obtain ⟨m,rfl⟩:∃k,m=k+1:=⟨m - 1,by omega⟩
  have hf:=hn f (by simp)
  have hf' : f.name ≠ "_" := by simpa using hf
  simp only [jo,List.map_cons] at h
  have step:∀(a b:Value) (r:Bool) (s:List DP),(part f.type us f.offset).run P w=.ok a w->(part f.type vs f.offset).run P w=.ok b w->(Op.equalIn (m+1) f.type a b).run P w=.ok r w->
   (Op.eqFields (m+1) us vs gs).run P w=.ok (s.all λ x=>@decide x.p x.d) w->(Op.eqFields (m+1) us vs (f::gs)).run P w=.ok (r && s.all λ x=>@decide x.p x.d) w:=λ a b r s h1 h2 h3 h4=>by
   rw [Op.eqFields]
   simp only [if_pos hf',Sem.run_bind,h1,h2,h3,Result.andThen_ok]
   cases r
   ·simp
   ·simpa using h4
  split at h
  ·rename_i i hi
   split at h
   ·rename_i fs eo
    split at h
    ·rename_i aY
     simp only [Bool.and_eq_true,Nat.ble_eq] at aY
     split at h
     ·rename_i x y hx hy
      cases h
      obtain ⟨gs',k1,k2,k3,k4,k5⟩:=qb hT hi eo aY.1.1
      rw [k2] at hx
      have ih1:=dy n gs'.toList _ _ (us.extract f.offset (f.offset+i.size)) (vs.extract f.offset (f.offset+i.size)) x m hx k5 (by rw [eT hT];exact (hc.drop _).take _) (by rw [eT hT];exact (hd.drop _).take _) (by omega)
      have ih2:=dy n gs cs ds us vs y (m+1) hy (λ f' hf'=>hn f' (by simp [hf'])) hc hd (by omega)
      rw [List.all_cons,fK hT x]
      refine step _ _ _ y (jD hT hi (by rw [eo];rfl)) (jD hT hi (by rw [eo];rfl)) ?_ ih2
      have hfo:P.fieldsOf f.type=gs':=by simp [Program.fieldsOf,k1]
      rw [run_equalIn_struct (P:=P) w m f.type _ _ (by rw [hfo];exact k1) k3,hfo]
      exact ih1
     ·cases h
    ·cases h
   ·rename_i q el eo
    split at h
    ·rename_i ei eC
     split at h
     ·rename_i aY
      simp only [Bool.and_eq_true,Nat.ble_eq] at aY
      split at h
      ·rename_i x y hx hy
       cases h
       obtain ⟨k1,k4⟩:=qG hT hi eo aY.1.1
       obtain ⟨ti,g1,g2,_⟩:=dL hT eC
       have hsz:P.cellsOf el=ei.size:=by rw [<-g2];simp [Program.cellsOf,g1]
       have ih1:=dy n ((List.range q).map λ j=>gp el (j * ei.size)) _ _ (us.extract f.offset (f.offset+i.size)) (vs.extract f.offset (f.offset+i.size)) x m (by rw [List.map_map];exact hx) (λ f hf=>by
        obtain ⟨j,_,rfl⟩:=List.mem_map.1 hf;rfl) (by rw [eT hT];exact (hc.drop _).take _) (by rw [eT hT];exact (hd.drop _).take _) (by omega)
       have ih2:=dy n gs cs ds us vs y (m+1) hy (λ f' hf'=>hn f' (by simp [hf'])) hc hd (by omega)
       rw [List.all_cons,fK hT x]
       refine step _ _ _ y (jD hT hi (by rw [eo];rfl)) (jD hT hi (by rw [eo];rfl)) ?_ ih2
       rw [run_equalIn_array w m _ _ k1 g1,hsz,gv]
       exact ih1
      ·cases h
     ·cases h
    ·cases h
   all_goals first
    | (rename_i eo
       split at h
       ·rename_i a b ha hb
        split at h
        ·rename_i x y hx hy
         cases h
         obtain ⟨u,hu,mq⟩:=hc.get ha
         obtain ⟨v,hv,Cr⟩:=hd.get hb
         have ih2:=dy n gs cs ds us vs y (m+1) hy (λ f' hf'=>hn f' (by simp [hf'])) hc hd (by omega)
         rw [List.all_cons]
         exact step _ _ _ y (fZ hT hi (by rw [eo];rfl) (by simpa using hu)) (fZ hT hi (by rw [eo];rfl) (by simpa using hv)) (lY hT hi hx mq Cr m) ih2
        ·cases h
       ·cases h)
    |cases h
  ·cases h
theorem rL {t:TypeId} {e:TypeId} (hu:P.underlying t=some (.slice e)) {a b:C} {u v:Value} {x:DP} (h:nr a b=some x) (ha:au w R Pr a u) (hb:au w R Pr b v):
 (Op.equal t u v).run P w=.ok (@decide x.p x.d) w:=by
 have hnil:∀{α:Type} (x:gC true α) (A:Option Addr) (c:Nat),p9 true x A c->A.isNone=@decide (sZ x=true) inferInstance:=λ x A c h=>by
  cases x with
  |none=>rw [show A=none from h.1];rfl
  |some _=>
   cases A with
   |none=>exact (h rfl).elim
   |some _=>rfl
 have AT:∀(n m c:Nat) (A:Option Addr),(Op.equalIn (n+1) t (.slice A m c) (.slice none 0 0)).run P w=.ok A.isNone w:=λ n m c A=>by
  cases A<;>simp [Op.equalIn,run_underlying hu]
 have B0:∀(n m c:Nat) (A:Option Addr),(Op.equalIn (n+1) t (.slice none 0 0) (.slice A m c)).run P w=.ok A.isNone w:=λ n m c A=>by
  simp [Op.equalIn,run_underlying hu]
 unfold nr at h
 split at h
 ·cases h
  simp only [au] at ha hb
  subst ha hb
  exact AT 9999 0 0 none
 ·rename_i e1 y
  cases h
  obtain ⟨A,cap,h1,h2,h3,h4⟩:=ha
  simp only [au] at hb
  subst hb
  obtain rfl:u=.slice A (bW true y).length cap:=by simpa using h1
  rw [<-hnil y A _ h3]
  exact AT 9999 _ _ _
 ·rename_i e1 y
  cases h
  obtain ⟨A,cap,h1,h2,h3,h4⟩:=hb
  simp only [au] at ha
  subst ha
  obtain rfl:v=.slice A (bW true y).length cap:=by simpa using h1
  rw [<-hnil y A _ h3]
  exact B0 9999 _ _ _
 ·cases h
theorem oV {t:TypeId} {x y:AV} {u v:Value} {p:DP} (h:uZ T t x y=some p) (hx:aA w R Pr x u) (hy:aA w R Pr y v) (ox oy:Operand):
 (eqGuard .eql t ox oy u v).run P w=.ok () w/\(eqGuard .neq t ox oy u v).run P w=.ok () w/\(binOp .eql t u v).run P w=.ok (.bool (@decide p.p p.d)) w/\(binOp .neq t u v).run P w=.ok (.bool (!(@decide p.p p.d))) w:=by
 unfold uZ at h
 split at h
 ·rename_i a b
  simp only [aA,bf] at hx hy
  split at h
  ·rename_i i hi
   have flat:qO i.d a b=some p->(eqGuard .eql t ox oy u v).run P w=.ok () w/\(eqGuard .neq t ox oy u v).run P w=.ok () w/\(binOp .eql t u v).run P w=.ok (.bool (@decide p.p p.d)) w/\(binOp .neq t u v).run P w=.ok (.bool (!(@decide p.p p.d))) w:=λ h=>by
    have hs:=lY hT hi h hx hy 9999
    unfold qO at h
    split at h
    ·split at h
     ·cases h
      rename_i hk
      subst hk
      simp only [au] at hx hy
      subst hx hy
      simp [eqGuard,binOp,Op.intCmp,ni,bne]
     ·cases h
    ·cases h
     simp only [au] at hx hy
     subst hx hy
     simp [eqGuard,binOp,Op.stringOp, <-beq_toListBytes,we]
    all_goals first
     | (cases h
        simp only [au] at hx hy
        subst hx hy
        simp only at hs
        simp [eqGuard,binOp,Op.equal,Op.maxDepth,hs])
     |cases h
   split at h
   ·exact flat h
   ·exact flat h
   ·exact flat h
   ·rename_i e hd
    have hu:=bX hT hi hd
    have hs:=rL hT hu h hx hy
    have mu:∀{c:C} {z:Value},au w R Pr c z->(c=.nil\/∃e y,c=.val true e y)->∃A n c,z=.slice A n c:=λ hc hcs=>by
     rcases hcs with rfl|⟨e,y,rfl⟩
     ·exact ⟨none,0,0,hc⟩
     ·obtain ⟨A,cap,h1,_⟩:=hc;exact ⟨A,_,cap,by simpa using h1⟩
    have hab:(a=.nil\/∃e y,a=.val true e y)/\(b=.nil\/∃e y,b=.val true e y):=by
     unfold nr at h
     split at h
     ·exact ⟨.inl rfl,.inl rfl⟩
     ·exact ⟨.inr ⟨_,_,rfl⟩,.inl rfl⟩
     ·exact ⟨.inl rfl,.inr ⟨_,_,rfl⟩⟩
     ·cases h
    obtain ⟨A,n,c,rfl⟩:=mu hx hab.1
    obtain ⟨A',n',c',rfl⟩:=mu hy hab.2
    simp [eqGuard,binOp,hs]
   ·cases h
  ·cases h
 ·rename_i cs ds
  obtain ⟨us,rfl,hu⟩:=hx
  obtain ⟨vs,rfl,hv⟩:=hy
  split at h
  ·rename_i i hi
   split at h
   ·rename_i fs hd
    split at h
    ·rename_i he
     obtain ⟨gs,k1,k2,k3,k4,k5⟩:=qb hT hi hd he
     obtain ⟨l,hl,rfl⟩:=Option.map_eq_some_iff.1 h
     rw [k2] at hl
     have ih:=dy hT 40 gs.toList cs ds us vs l 9999 hl k5 hu hv (by omega)
     have hfo:P.fieldsOf t=gs:=by simp [Program.fieldsOf,k1]
     have hs:(Op.equalIn 10000 t (.agg us) (.agg vs)).run P w=.ok (@decide (conj l).p (conj l).d) w:=by
      rw [run_equalIn_struct (P:=P) w 9999 t _ _ (by rw [hfo];exact k1) k3,hfo,fK hT l]
      exact ih
     refine ⟨run_eqGuard_agg w _ _ _ _ _ _ k4,run_eqGuard_agg w _ _ _ _ _ _ k4, ?_, ?_⟩
     ·rw [run_eql_struct,hs];rfl
     ·rw [run_neq_struct,hs];rfl
    ·cases h
   ·rename_i m el hd
    split at h
    ·rename_i ei eC
     split at h
     ·rename_i he
      obtain ⟨k1,k4⟩:=qG hT hi hd he
      obtain ⟨l,hl,rfl⟩:=Option.map_eq_some_iff.1 h
      obtain ⟨ti,g1,g2,_⟩:=dL hT eC
      have hsz:P.cellsOf el=ei.size:=by rw [<-g2];simp [Program.cellsOf,g1]
      have ih:=dy hT 40 ((List.range m).map λ j=>gp el (j * ei.size)) cs ds us vs l 9999 (by rw [List.map_map];exact hl) (λ f hf=>by
       obtain ⟨j,_,rfl⟩:=List.mem_map.1 hf;rfl) hu hv (by omega)
      have hs:(Op.equalIn 10000 t (.agg us) (.agg vs)).run P w=.ok (@decide (conj l).p (conj l).d) w:=by
       rw [run_equalIn_array w 9999 us vs k1 g1,hsz,gv,fK hT l]
       exact ih
      refine ⟨run_eqGuard_agg w _ _ _ _ _ _ k4,run_eqGuard_agg w _ _ _ _ _ _ k4, ?_, ?_⟩
      ·rw [run_eql_struct,hs];rfl
      ·rw [run_neq_struct,hs];rfl
     ·cases h
    ·cases h
   ·cases h
  ·cases h
 ·cases h
theorem tS {op:BinOp} {t:TypeId} {k:IntKind} {a b:Int} {r:List DP×C} (h:u5 op k a b=some r) (hne:op≠ .eql/\op≠ .neq) (hh:cw r.1) (ox oy:Operand):
 ∃u,(eqGuard op t ox oy (.int k a) (.int k b)).run P w=.ok () w/\(binOp op t (.int k a) (.int k b)).run P w=.ok u w/\au w R Pr r.2 u/\r.2.refs=[]:=by
 unfold u5 at h
 split at h
 all_goals first| (cases h;done)|skip
 all_goals cases h
 ·exact ⟨_,by simp [eqGuard],by simp [binOp,Op.intArith],rfl,rfl⟩
 ·exact ⟨_,by simp [eqGuard],by simp [binOp,Op.intArith],rfl,rfl⟩
 ·exact ⟨_,by simp [eqGuard],by simp [binOp,Op.intArith],rfl,rfl⟩
 ·have hb: ¬b=0:=hh ⟨¬b=0,inferInstance⟩ (by simp)
  exact ⟨_,by simp [eqGuard],by simp [binOp,Op.intDiv,hb],rfl,rfl⟩
 ·have hb: ¬b=0:=hh ⟨¬b=0,inferInstance⟩ (by simp)
  exact ⟨_,by simp [eqGuard],by simp [binOp,Op.intDiv,hb],rfl,rfl⟩
 ·exact (hne.1 rfl).elim
 ·exact (hne.2 rfl).elim
 ·exact ⟨_,by simp [eqGuard],by simp [binOp,Op.intCmp],rfl,rfl⟩
 ·exact ⟨_,by simp [eqGuard],by simp [binOp,Op.intCmp],rfl,rfl⟩
 ·exact ⟨_,by simp [eqGuard],by simp [binOp,Op.intCmp],rfl,rfl⟩
 ·exact ⟨_,by simp [eqGuard],by simp [binOp,Op.intCmp],rfl,rfl⟩
 ·exact ⟨_,by simp [eqGuard],by simp [binOp,Op.intBits,qe],rfl,rfl⟩
 ·exact ⟨_,by simp [eqGuard],by simp [binOp,Op.intBits,qe],rfl,rfl⟩
 ·exact ⟨_,by simp [eqGuard],by simp [binOp,Op.intBits,qe],rfl,rfl⟩
 ·have hb:0<=b:=hh ⟨0<=b,inferInstance⟩ (by simp)
  have hb': ¬b <0:=by omega
  exact ⟨_,by simp [eqGuard],by simp [binOp,Op.shift,hb'],rfl,rfl⟩
 ·have hb:0<=b:=hh ⟨0<=b,inferInstance⟩ (by simp)
  have hb': ¬b <0:=by omega
  exact ⟨_,by simp [eqGuard],by simp [binOp,Op.shift,hb'],rfl,rfl⟩
theorem rM {op:BinOp} {t:TypeId} {k k':IntKind} {a b:Int} {r:List DP×C} (h:qj op k a b=some r) (hh:cw r.1) (ox oy:Operand):
 ∃u,(eqGuard op t ox oy (.int k a) (.int k' b)).run P w=.ok () w/\(binOp op t (.int k a) (.int k' b)).run P w=.ok u w/\au w R Pr r.2 u/\r.2.refs=[]:=by
 unfold qj at h
 split at h
 all_goals first| (cases h;done)|skip
 all_goals cases h
 ·have hb:0<=b:=hh ⟨0<=b,inferInstance⟩ (by simp)
  have hb': ¬b <0:=by omega
  exact ⟨_,by simp [eqGuard],by simp [binOp,Op.shift,hb'],rfl,rfl⟩
 ·have hb:0<=b:=hh ⟨0<=b,inferInstance⟩ (by simp)
  have hb': ¬b <0:=by omega
  exact ⟨_,by simp [eqGuard],by simp [binOp,Op.shift,hb'],rfl,rfl⟩
theorem tR {op:BinOp} {t:TypeId} {x y:AV} {u v:Value} {out:Out} (h:uY T op t x y=some out) (hh:cw out.conds) (hx:aA w R Pr x u) (hy:aA w R Pr y v) (ox oy:Operand):
 ∃r,(eqGuard op t ox oy u v).run P w=.ok () w/\(binOp op t u v).run P w=.ok r w/\aA w R Pr out.v r/\out.v.refs=[]:=by
 unfold uY at h
 split at h
 ·obtain ⟨p,hp,rfl⟩:=Option.map_eq_some_iff.1 h
  have:=oV hT hp hx hy ox oy
  exact ⟨_,this.1,this.2.2.1,rfl,rfl⟩
 ·obtain ⟨p,hp,rfl⟩:=Option.map_eq_some_iff.1 h
  have:=oV hT hp hx hy ox oy
  refine ⟨_,this.2.1,this.2.2.2, ?_,rfl⟩
  show Value.bool _=Value.bool _
  by_cases g:p.p<;>simp [g]
 ·rename_i h1 h2
  split at h
  ·split at h
   ·rename_i k a k' b hk
    subst hk
    obtain ⟨r,hr,rfl⟩:=Option.map_eq_some_iff.1 h
    simp only [aA,bf,au] at hx hy
    subst hx hy
    obtain ⟨u,k1,k2,k3,k4⟩:=tS hT (t:=t) (w:=w) (R:=R) (Pr:=Pr) hr ⟨h1,h2⟩ hh ox oy
    exact ⟨u,k1,k2,k3,k4⟩
   ·rename_i k a k' b hk
    obtain ⟨r,hr,rfl⟩:=Option.map_eq_some_iff.1 h
    simp only [aA,bf,au] at hx hy
    subst hx hy
    obtain ⟨u,k1,k2,k3,k4⟩:=rM hT (t:=t) (w:=w) (R:=R) (Pr:=Pr) hr hh ox oy
    exact ⟨u,k1,k2,k3,k4⟩
  ·cases h
theorem u6 {op:UnOp} {c:C} {u:Value} {out:Out} (h:xQ op c=some out) (hc:au w R Pr c u):
 ∃r,(Op.unary op u).run P w=.ok r w/\aA w R Pr out.v r/\out.v.refs=[]:=by
 unfold xQ at h
 split at h
 ·cases h
  simp only [au] at hc
  subst hc
  exact ⟨_,by simp [Op.unary],rfl,rfl⟩
 ·rename_i p d
  cases h
  simp only [au] at hc
  subst hc
  refine ⟨_,by simp [Op.unary];rfl, ?_,rfl⟩
  show Value.bool _=Value.bool _
  by_cases g:p<;>simp [g]
 ·cases h
  simp only [au] at hc
  subst hc
  exact ⟨.int _ (IntKind.wrap _ (0 - _)),by simp only [Op.unary,Op.intArith,Sem.run_pure],rfl,rfl⟩
 ·cases h
theorem sJ {src dst:TypeId} {c:C} {u:Value} {out:Out} (h:sI T src dst c=some out) (hc:au w R Pr c u):
 ∃r,(convert src dst u).run P w=.ok r w/\aA w R Pr out.v r/\out.v.refs=[]:=by
 unfold sI at h
 split at h
 ·split at h
  ·rename_i i1 i2 h1 h2
   split at h
   ·rename_i k hd
    cases h
    simp only [au] at hc
    subst hc
    obtain ⟨d1,g1,_⟩:=cm hT h1
    have g2:=jh hT h2 hd
    exact ⟨_,by simp [convert,run_underlying g1,run_underlying g2,Conv.intToInt],rfl,rfl⟩
   ·cases h
  ·cases h
 ·cases h
theorem uI {i:TI} {cs:List C} {off:Nat} {x:Cp} {vs:Array Value} {t:TypeId} (ht:T.get t=some i) (hr:an (au w R Pr) cs vs.toList) (hx:gD i cs off=some x):
 ∃u,(part t vs off).run P w=.ok u w/\bf w R Pr x u/\∀κ∈x.refs,∃c∈cs,κ∈c.refs:=by
 have pF:∀(h:off+i.size<=cs.length),x=.agg ((cs.drop off).take i.size)->i.d.agg=true->∃u,(part t vs off).run P w=.ok u w/\bf w R Pr x u/\∀κ∈x.refs,∃c∈cs,κ∈c.refs:=λ h hx hagg=>by
  subst hx
  refine ⟨_,jD hT ht hagg,⟨_,rfl,by rw [eT hT];exact (hr.drop _).take _⟩,λ κ aa=> ?_⟩
  obtain ⟨c,hc,hk⟩:=List.mem_flatMap.1 aa
  exact ⟨c,List.mem_of_mem_drop (List.mem_of_mem_take hc),hk⟩
 unfold gD at hx
 split at hx
 ·rename_i fs hd
  split at hx
  ·rename_i h;exact pF h (Option.some.inj hx).symm (by rw [hd];rfl)
  ·cases hx
 ·rename_i n e hd
  split at hx
  ·rename_i h;exact pF h (Option.some.inj hx).symm (by rw [hd];rfl)
  ·cases hx
 ·cases hx
 ·rename_i h1 h2 h3
  split at hx
  ·rename_i c hc
   cases hx
   obtain ⟨u,hu,mq⟩:=hr.get hc
   refine ⟨u,fZ hT ht ?_ (by simpa using hu),mq,λ κ aa=>⟨c,List.mem_of_getElem? hc,aa⟩⟩
   revert h1 h2
   generalize i.d=d
   intro h1 h2
   cases d<;>first|rfl|exact absurd rfl (h1 _)|exact absurd rfl (h2 _ _)
  ·cases hx
theorem rK {s:TypeId} {f:Nat} {cs:List C} {vs:Array Value} {out:Out} (h:qi T s f cs=some out) (hc:an (au w R Pr) cs vs.toList):
 ∃r,(Instr.field s (.agg vs) f).run P w=.ok r w/\aA w R Pr out.v r/\∀κ∈out.v.refs,∃c∈cs,κ∈c.refs:=by
 unfold qi at h
 split at h
 ·rename_i o ft hf
  unfold j9 at hf
  split at hf
  ·rename_i i hi
   split at hf
   ·rename_i fs hd
    obtain ⟨gs,hg1,hg2⟩:=iV hT hi hd
    rw [hg2,List.getElem?_map] at hf
    obtain ⟨fd,qX,he⟩:=Option.map_eq_some_iff.1 hf
    cases he
    have xU:gs[f]?=some fd:=by simpa using qX
    split at h
    ·rename_i i2 hi2
     split at h
     ·rename_i x hx
      cases h
      obtain ⟨u,k1,k2,k3⟩:=uI hT hi2 hc hx
      exact ⟨u,by simp [Instr.field,run_underlying hg1,xU,asAgg,k1],k2,k3⟩
     ·cases h
    ·cases h
   ·cases hf
  ·cases hf
 ·cases h
theorem ot {t:TypeId} {cs:List C} {cst:Bool} {n:Int} {k:IntKind} {vs:Array Value} {out:Out} (h:kS T t cs cst n=some out) (hh:cw out.conds) (hc:an (au w R Pr) cs vs.toList):
 ∃u,(Instr.index t (.agg vs) (.int k n)).run P w=.ok u w/\aA w R Pr out.v u/\∀κ∈out.v.refs,∃c∈cs,κ∈c.refs:=by
 unfold kS at h
 split at h
 ·rename_i i hi
  split at h
  ·rename_i m el hd
   have wM:=iD hT hi hd
   split at h
   ·rename_i ei eC
    have key:∀{q:Nat} {x:Cp},q <m->n=(q:Int)->gD ei cs (q * ei.size)=some x->∃u,(Instr.index t (.agg vs) (.int k n)).run P w=.ok u w/\bf w R Pr x u/\∀κ∈x.refs,∃c∈cs,κ∈c.refs:=λ {q x} hq hn hx=>by
     obtain ⟨u,k1,k2,k3⟩:=uI hT eC hc hx
     refine ⟨u, ?_,k2,k3⟩
     subst hn
     have h0:(0:Int)<=(q:Int):=Int.natCast_nonneg q
     have h1:(q:Int) <(m:Int):=by omega
     simp [Instr.index,asIntOf,run_underlying wM,h1,bQ hT eC,k1]
     intro hz;omega
    split at h
    ·split at h
     ·rename_i q
      split at h
      ·rename_i hq
       obtain ⟨x,hx,rfl⟩:=Option.map_eq_some_iff.1 h
       exact key hq rfl hx
      ·cases h
     ·cases h
    ·split at h
     ·rename_i acc xs hm
      obtain ⟨x,hx,rfl⟩:=Option.map_eq_some_iff.1 h
      have h0:0<=n:=hh ⟨0<=n,inferInstance⟩ (by simp)
      have h1:n <(m:Int):=hh ⟨n <(m:Int),inferInstance⟩ (by simp)
      obtain ⟨g1,g2⟩:=k8 hm
      obtain ⟨a,y,k1,k2,_⟩:=g2 n.toNat (by omega)
      obtain ⟨z,hz,e⟩:=Option.map_eq_some_iff.1 k1
      cases e
      obtain ⟨u,m1,m2,_⟩:=key (q:=n.toNat) (by omega) (by omega) hz
      obtain ⟨m3,m4⟩:=rA hx k2 m2
      exact ⟨u,m1,m3,λ κ aa=>by
       have aa:κ∈x.refs:=aa
       rw [m4] at aa;cases aa⟩
     ·cases h
   ·cases h
  ·cases h
 ·cases h
end
end Go.Rx
